/- The library's sort by a way to compare (FRef), walked. -/
import Derived.Test.YtidniaofdcmpfaaGreatRaB2
set_option linter.unusedVariables false
set_option linter.unusedSimpArgs false
set_option linter.unusedSectionVars false
set_option linter.unnecessarySimpa false
namespace Go.Sx
open Go Go.Proofs
theorem Zag (q n : Nat) (l : List FRef) (hn : l.length = n) (hN : n ≤ 140737488355328) (a b : Nat) (ha : a ≤ b) (hb : b ≤ n) : ACalls Tryz.prog 150 [.own q 2 0 n, iA a, iA b, .fn (.func 54) []] [(q, .rows 46 2 (l.map FRef.cells))] (GP (fun _ : List FRef => mkRes []) (fun m => [(q, .rows 46 2 (m.map FRef.cells))]) (fun m => Sw a b l m ∧ SAdj fLt a b m)) := by
 refine Zd (n := 53) Tryz.func150 rfl (by decide +kernel) rfl rfl ?_
 refine qS (qR (qM ?_))
 refine qe eP ?_
 refine qA (qN (qB ?_))
 refine Zj (α := List FRef × Nat) (fun x => ⟨[(8, iA x.2), (0, .own q 2 0 n), (1, iA a), (2, iA b), (3, .fn (.func 54) [])], [(q, .rows 46 2 (x.1.map FRef.cells))], [], 53⟩) (fun x => Sw a b l x.1 ∧ a + 1 ≤ x.2 ∧ SAdj fLt a x.2 x.1) (fun x => b - x.2) (l, a + 1) ⟨.refl, Nat.le_refl _, SAdj.refl1 (Nat.le_refl _)⟩ ?_ ?_
 ·exact Zb [0] ⟨rfl, rfl, rfl, rfl, rfl, trivial⟩ rfl (by decide) rfl rfl
 rintro x hJ
 have hm := hJ.1.len
 refine qS (qS (qR (qM (qM ?_))))
 refine qe eI ?_
 refine qN ?_
 refine Z2 rfl ?_ ?_
 ·intro hc
  have hx : x.2 < b := by simpa using hc
  refine qK (qS (qB (qS (qR (qM (qA (qN (qB ?_))))))))
  refine Zj (α := List FRef × Nat) (fun z => ⟨[(9, iA z.2), (8, iA x.2), (0, .own q 2 0 n), (1, iA a), (2, iA b), (3, .fn (.func 54) [])], [(q, .rows 46 2 (z.1.map FRef.cells))], [], 53⟩) (fun z => Sw a b l z.1 ∧ a ≤ z.2 ∧ z.2 ≤ x.2 ∧ Ins fLt a z.2 x.2 z.1) (fun z => z.2) (x.1, x.2) ⟨hJ.1, (by (try simp only) <;> omega), Nat.le_refl _, Ins.start hJ.2.2⟩ ?_ ?_
  ·exact Zb [0] ⟨rfl, rfl, rfl, rfl, rfl, rfl, trivial⟩ rfl (by decide) rfl rfl
  rintro z hJ2
  have hm2 := hJ2.1.len
  refine qS (qS ?_)
  refine Zz [0, 0, 3, 7, 15, 15, 15, 111, 239, 15, 15, 1039, 3599, 7695, 16383, 32767, 65535] 17 rfl (by kernel_rfl) ?_
  refine cM2 (cM2 ?_)
  refine ce eI ?_
  refine cM2 (cTM (cTM (cTM ?_)))
  refine Zc (wT rfl rfl rfl rfl) rfl (fun hg => (Z1 z.2 rfl (Ze hg rfl) (Ze hg rfl) (by (try simp at hg) <;> omega) (by (try simp at hg) <;> omega) (by omega))) ?_
  refine Zq (f := FRef.cells) 0 (wT rfl rfl rfl rfl) rfl rfl (fun hg => (Ze hg rfl)) rfl (fun hg => by (try simp at hg) <;> omega) (fun _ => Z01 rfl) ?_
  refine cTM (cTM ?_)
  refine Zc (wT rfl rfl rfl rfl) rfl (fun hg => (Z9 rfl (Ze hg rfl) rfl (Z0c (by omega)))) ?_
  refine Zc (wT rfl rfl rfl rfl) rfl (fun hg => (Z1 (z.2 - 1) rfl (Ze hg rfl) (Ze hg rfl) (by (try simp at hg) <;> omega) (by (try simp at hg) <;> omega) (by omega))) ?_
  refine Zq (f := FRef.cells) 0 (wT rfl rfl rfl rfl) rfl rfl (fun hg => (Ze hg rfl)) rfl (fun hg => by (try simp at hg) <;> omega) (fun _ => Z01 rfl) ?_
  refine Zc (wT rfl rfl rfl rfl) rfl (fun hg => (Z8 [] rfl (Ze hg rfl) (Zg (Ze hg rfl) (Zg (Ze hg rfl) Z05)) (Z0z _ _) List.nodup_nil)) ?_
  refine Zc (wT rfl rfl rfl rfl) rfl (fun hg => (Zr rfl (Ze hg rfl) rfl rfl)) ?_
  refine ce (Zs rfl rfl rfl (fun h => h)) ?_
  refine .done (qN ?_)
  refine Z2 rfl ?_ ?_
  ·intro hc
   have hk : a < z.2 := by have := Z27 hc; simpa using this
   have hlt : fLt (z.1.getD z.2 default) (z.1.getD (z.2 - 1) default) = true := Z28 hc
   refine qK (qS (qB ?_))
   refine Z08 [0, 0, 0, 0, 8, 0, 0, 64, 224, 480, 0, 0, 3072, 7168, 16355, 32739, 65535, 131071] [15, 17] [9, 13] rfl (by kernel_rfl) ?_
   refine wM2 (wM2 (wM2 (wM2 ?_)))
   refine we eL ?_
   refine wM2 (wM2 ?_)
   refine we eL ?_
   refine we (eO (z.2 - 1)) ?_
   refine wLc 0 ?_
   refine wM2 (wM2 ?_)
   refine we (Z1 z.2 rfl rfl rfl (by omega) (by omega) (by omega)) ?_
   refine wLc 0 ?_
   refine we (Z1 z.2 rfl rfl rfl (by omega) (by omega) (by omega)) ?_
   refine Zm (f := FRef.cells) 0 (fun _ => rfl) (fun _ => rfl) (w0 rfl) rfl rfl rfl rfl (by first | omega | (simp; omega)) rfl rfl ?_
   refine we (eO (z.2 - 1)) ?_
   refine Zm (f := FRef.cells) 0 (fun _ => rfl) (fun _ => rfl) (w0 rfl) rfl rfl rfl rfl (by first | omega | (simp; omega)) rfl rfl ?_
   refine .done (qR (qM ?_))
   refine qe eL ?_
   refine qA (qN ?_)
   refine ⟨(swp z.1 z.2 (z.2 - 1), z.2 - 1), ⟨.step _ _ hJ2.1 (by (try simp only) <;> omega) (by (try simp only) <;> omega) (by (try simp only) <;> omega), (by (try simp only) <;> omega), (by (try simp only) <;> omega), hJ2.2.2.2.step fLtT.ok hk (by (try simp only) <;> omega) (by (try simp only) <;> omega) hlt⟩, (by (try simp only) <;> omega), ?_⟩
   exact qp [0] ⟨(congrArg (fun n => some (iA n)) (by (try simp only) <;> omega)), rfl, rfl, rfl, rfl, rfl, trivial⟩
  ·intro hc
   have hst : z.2 ≤ a ∨ fLt (z.1.getD z.2 default) (z.1.getD (z.2 - 1) default) = false := by rcases Bool.and_eq_false_iff.1 hc with h | h; exact .inl (by simpa using h); exact .inr h
   have hdn := hJ2.2.2.2.done hst
   refine qX (qR (qM ?_))
   refine qe eP ?_
   refine qA (qN ?_)
   refine ⟨(z.1, x.2 + 1), ⟨hJ2.1, (by (try simp only) <;> omega), hdn⟩, (by (try simp only) <;> omega), ?_⟩
   exact qp [0] ⟨rfl, rfl, rfl, rfl, rfl, trivial⟩
 ·intro hc
  have hx : ¬ x.2 < b := by simpa using hc
  refine qX ?_
  exact Zf rfl Z4 (.cons_cons _ .slnil) (gp x.1 ⟨hJ.1, fun k h1 h2 => hJ.2.2 k h1 (by omega)⟩ rfl rfl)
theorem Zbs (q n : Nat) (l : List FRef) (hn : l.length = n) (hN : n ≤ 140737488355328) (lo hi f : Nat) (hf : f + hi ≤ n) (hlo : lo ≤ n) (hh : Heap fLt (lo + 1) hi f l) : ACalls Tryz.prog 181 [.own q 2 0 n, iA lo, iA hi, iA f, .fn (.func 54) []] [(q, .rows 46 2 (l.map FRef.cells))] (GP (fun _ : List FRef => mkRes []) (fun m => [(q, .rows 46 2 (m.map FRef.cells))]) (fun m => Sw f (f + hi) l m ∧ Heap fLt lo hi f m)) := by
 refine Zd (n := 82) Tryz.func181 rfl (by decide +kernel) rfl rfl ?_
 refine qS (qR (qM (qA (qN (qB ?_)))))
 refine Zj (α := List FRef × Nat) (fun z => ⟨[(10, iA z.2), (0, .own q 2 0 n), (2, iA hi), (3, iA f), (4, .fn (.func 54) [])], [(q, .rows 46 2 (z.1.map FRef.cells))], [], 82⟩) (fun z => Sw f (f + hi) l z.1 ∧ lo ≤ z.2 ∧ (z.2 < hi ∨ z.2 = lo) ∧ Sift fLt lo hi f z.2 z.1) (fun z => hi - z.2) (l, lo) ⟨.refl, Nat.le_refl _, .inr rfl, Sift.start hh⟩ ?_ ?_
 ·exact Zb [0] ⟨rfl, rfl, rfl, rfl, rfl, trivial⟩ rfl (by decide) rfl rfl
 rintro z hJ
 have hm := hJ.1.len
 have hz := hJ.2.2.1
 refine qB (qS (qR (qM ?_)))
 refine qe (Z9 rfl rfl rfl (Z1c (by omega))) ?_
 refine qe eP ?_
 refine qA (qN (qS (qS (qR (qM (qM ?_))))))
 refine qe eI ?_
 refine qN ?_
 refine Z2 rfl ?_ ?_
 ·intro hc
  have hleaf : hi ≤ 2 * z.2 + 1 := by simp at hc; omega
  refine qX ?_
  exact Zf rfl Z4 (.cons_cons _ .slnil) (gp z.1 ⟨hJ.1, hJ.2.2.2.leaf hleaf⟩ rfl rfl)
 ·intro hc
  have hch : 2 * z.2 + 1 < hi := by simp at hc; omega
  refine qK (qS (qS ?_))
  refine Zz [0, 1, 0, 7, 15, 31, 31, 31, 31, 415, 991, 2015, 31, 31, 31, 24607, 57375, 127007, 258079, 524287, 1048575, 2097151] 22 rfl (by kernel_rfl) ?_
  refine cM2 ?_
  refine ce eP ?_
  refine cM2 ?_
  refine ce eI ?_
  refine cM2 (cTM (cTM (cTM (cTM ?_))))
  refine Zc (wT rfl rfl rfl rfl) rfl (fun hg => (Z9 rfl (Ze hg rfl) (Ze hg rfl) (Zn (by omega)))) ?_
  refine Zc (wT rfl rfl rfl rfl) rfl (fun hg => (Z1 (f + ((2 * z.2) + 1)) rfl (Ze hg rfl) (Ze hg rfl) (by (try simp at hg) <;> omega) (by (try simp at hg) <;> omega) (by omega))) ?_
  refine Zq (f := FRef.cells) 0 (wT rfl rfl rfl rfl) rfl rfl (fun hg => (Ze hg rfl)) rfl (fun hg => by (try simp at hg) <;> omega) (fun _ => Z01 rfl) ?_
  refine cTM (cTM (cTM ?_))
  refine Zc (wT rfl rfl rfl rfl) rfl (fun hg => (Z9 rfl (Ze hg rfl) (Ze hg rfl) (Zn (by omega)))) ?_
  refine Zc (wT rfl rfl rfl rfl) rfl (fun hg => (Z9 rfl (Ze hg rfl) rfl (Zn (by omega)))) ?_
  refine Zc (wT rfl rfl rfl rfl) rfl (fun hg => (Z1 ((f + ((2 * z.2) + 1)) + 1) rfl (Ze hg rfl) (Ze hg rfl) (by (try simp at hg) <;> omega) (by (try simp at hg) <;> omega) (by omega))) ?_
  refine Zq (f := FRef.cells) 0 (wT rfl rfl rfl rfl) rfl rfl (fun hg => (Ze hg rfl)) rfl (fun hg => by (try simp at hg) <;> omega) (fun _ => Z01 rfl) ?_
  refine Zc (wT rfl rfl rfl rfl) rfl (fun hg => (Z8 [] rfl (Ze hg rfl) (Zg (Ze hg rfl) (Zg (Ze hg rfl) Z05)) (Z0z _ _) List.nodup_nil)) ?_
  refine Zc (wT rfl rfl rfl rfl) rfl (fun hg => (Zr rfl (Ze hg rfl) rfl rfl)) ?_
  refine ce (Zs rfl rfl rfl (fun h => h)) ?_
  refine .done (qN ?_)
  refine Z2 rfl ?_ ?_
  ·intro hc
   have hc1 : 2 * z.2 + 1 + 1 < hi := by have := Z27 hc; simp at this; omega
   have hl1 : fLt (hp z.1 f (2 * z.2 + 1)) (hp z.1 f (2 * z.2 + 1 + 1)) = true := Z28 hc
   have hmax : ∀ c, (c = 2 * z.2 + 1 ∨ c = 2 * z.2 + 2) → c < hi → fLt (hp z.1 f (2 * z.2 + 1 + 1)) (hp z.1 f c) = false := fun c h1 h2 => by rcases h1 with rfl | rfl; exact fLtT.ok.asy _ _ hl1; exact fLtT.ok.irr _
   refine qR (qM ?_)
   refine qe eP ?_
   refine qA (qN (qS (qS ?_)))
   refine Zz [0, 0, 0, 0, 12, 30, 62, 0, 0, 0, 768, 1920, 3968, 8191, 16383, 32767] 16 rfl (by kernel_rfl) ?_
   refine cM2 (cM2 (cM2 (cM2 ?_)))
   refine ce eP ?_
   refine ce (eO (f + z.2)) ?_
   refine Za 0 (w0 rfl) rfl rfl rfl rfl (Z0g (by omega)) (Z01 rfl) ?_
   refine cM2 (cM2 (cM2 ?_))
   refine ce eP ?_
   refine ce (Z1 (f + (((2 * z.2) + 1) + 1)) rfl rfl rfl (by omega) (by omega) (by omega)) ?_
   refine Za 0 (w0 rfl) rfl rfl rfl rfl (Z0g (by omega)) (Z01 rfl) ?_
   refine ce (Z8 [] rfl rfl rfl (Z0z _ _) List.nodup_nil) ?_
   refine ce eI ?_
   refine ce (Z03 rfl rfl) ?_
   refine .done (qN ?_)
   refine Z2 rfl ?_ ?_
   ·intro hc
    have hstop := Z1u hc
    refine qE ?_
    exact Zf rfl Z4 (.cons_cons _ .slnil) (gp z.1 ⟨hJ.1, hJ.2.2.2.stop fLtT.ok hmax hstop⟩ rfl rfl)
   ·intro hc
    have hlt := Z2c hc
    refine qK (qS ?_)
    refine Z08 [0, 0, 0, 6, 0, 0, 0, 96, 0, 0, 0, 1536, 3840, 7936, 0, 0, 0, 98304, 245760, 507904, 1048335, 2096911, 4194303, 8388607] [21, 23] [13, 19] rfl (by kernel_rfl) ?_
    refine wM2 (wM2 (wM2 ?_))
    refine we eP ?_
    refine wM2 (wM2 (wM2 ?_))
    refine we eP ?_
    refine wM2 (wM2 (wM2 ?_))
    refine we eP ?_
    refine we (Z1 (f + (((2 * z.2) + 1) + 1)) rfl rfl rfl (by omega) (by omega) (by omega)) ?_
    refine wLc 0 ?_
    refine wM2 (wM2 (wM2 ?_))
    refine we eP ?_
    refine we (eO (f + z.2)) ?_
    refine wLc 0 ?_
    refine we (eO (f + z.2)) ?_
    refine Zm (f := FRef.cells) 0 (fun _ => rfl) (fun _ => rfl) (w0 rfl) rfl rfl rfl rfl (by first | omega | (simp; omega)) rfl rfl ?_
    refine we (Z1 (f + (((2 * z.2) + 1) + 1)) rfl rfl rfl (by omega) (by omega) (by omega)) ?_
    refine Zm (f := FRef.cells) 0 (fun _ => rfl) (fun _ => rfl) (w0 rfl) rfl rfl rfl rfl (by first | omega | (simp; omega)) rfl rfl ?_
    refine .done (qR (qM (qA (qN ?_))))
    refine ⟨(swp z.1 (f + z.2) (f + (2 * z.2 + 1 + 1)), (2 * z.2 + 1 + 1)), ⟨.step _ _ hJ.1 (by (try simp only) <;> omega) (by (try simp only) <;> omega) (by (try simp only) <;> omega), (by (try simp only) <;> omega), .inl (by (try simp only) <;> omega), hJ.2.2.2.step (c0 := (2 * z.2 + 1 + 1)) fLtT.ok hJ.2.1 (.inr rfl) (by (try simp only) <;> omega) (by (try simp only) <;> omega) hmax hlt⟩, (by (try simp only) <;> omega), ?_⟩
    exact qp [0] ⟨rfl, rfl, rfl, rfl, rfl, trivial⟩
  ·intro hc
   have hmax : ∀ c, (c = 2 * z.2 + 1 ∨ c = 2 * z.2 + 2) → c < hi → fLt (hp z.1 f (2 * z.2 + 1)) (hp z.1 f c) = false := fun c h1 h2 => by rcases h1 with rfl | rfl; exact fLtT.ok.irr _; rcases Bool.and_eq_false_iff.1 hc with h | h; simp at h; omega; exact h
   refine qK (qS (qS ?_))
   refine Zz [0, 0, 0, 0, 12, 30, 62, 0, 0, 0, 768, 1920, 3968, 8191, 16383, 32767] 16 rfl (by kernel_rfl) ?_
   refine cM2 (cM2 (cM2 (cM2 ?_)))
   refine ce eP ?_
   refine ce (eO (f + z.2)) ?_
   refine Za 0 (w0 rfl) rfl rfl rfl rfl (Z0g (by omega)) (Z01 rfl) ?_
   refine cM2 (cM2 (cM2 ?_))
   refine ce eP ?_
   refine ce (eO (f + ((2 * z.2) + 1))) ?_
   refine Za 0 (w0 rfl) rfl rfl rfl rfl (Z0g (by omega)) (Z01 rfl) ?_
   refine ce (Z8 [] rfl rfl rfl (Z0z _ _) List.nodup_nil) ?_
   refine ce eI ?_
   refine ce (Z03 rfl rfl) ?_
   refine .done (qN ?_)
   refine Z2 rfl ?_ ?_
   ·intro hc
    have hstop := Z1u hc
    refine qE ?_
    exact Zf rfl Z4 (.cons_cons _ .slnil) (gp z.1 ⟨hJ.1, hJ.2.2.2.stop fLtT.ok hmax hstop⟩ rfl rfl)
   ·intro hc
    have hlt := Z2c hc
    refine qK (qS ?_)
    refine Z08 [0, 0, 0, 6, 0, 0, 0, 96, 0, 0, 0, 1536, 3840, 7936, 0, 0, 0, 98304, 245760, 507904, 1048335, 2096911, 4194303, 8388607] [21, 23] [13, 19] rfl (by kernel_rfl) ?_
    refine wM2 (wM2 (wM2 ?_))
    refine we eP ?_
    refine wM2 (wM2 (wM2 ?_))
    refine we eP ?_
    refine wM2 (wM2 (wM2 ?_))
    refine we eP ?_
    refine we (eO (f + ((2 * z.2) + 1))) ?_
    refine wLc 0 ?_
    refine wM2 (wM2 (wM2 ?_))
    refine we eP ?_
    refine we (eO (f + z.2)) ?_
    refine wLc 0 ?_
    refine we (eO (f + z.2)) ?_
    refine Zm (f := FRef.cells) 0 (fun _ => rfl) (fun _ => rfl) (w0 rfl) rfl rfl rfl rfl (by first | omega | (simp; omega)) rfl rfl ?_
    refine we (eO (f + ((2 * z.2) + 1))) ?_
    refine Zm (f := FRef.cells) 0 (fun _ => rfl) (fun _ => rfl) (w0 rfl) rfl rfl rfl rfl (by first | omega | (simp; omega)) rfl rfl ?_
    refine .done (qR (qM (qA (qN ?_))))
    refine ⟨(swp z.1 (f + z.2) (f + (2 * z.2 + 1)), (2 * z.2 + 1)), ⟨.step _ _ hJ.1 (by (try simp only) <;> omega) (by (try simp only) <;> omega) (by (try simp only) <;> omega), (by (try simp only) <;> omega), .inl (by (try simp only) <;> omega), hJ.2.2.2.step (c0 := (2 * z.2 + 1)) fLtT.ok hJ.2.1 (.inl rfl) (by (try simp only) <;> omega) (by (try simp only) <;> omega) hmax hlt⟩, (by (try simp only) <;> omega), ?_⟩
    exact qp [0] ⟨rfl, rfl, rfl, rfl, rfl, trivial⟩
theorem Z8l (q n : Nat) (l : List FRef) (hn : l.length = n) (hN : n ≤ 140737488355328) (a b : Nat) (ha : a ≤ b) (hb : b ≤ n) : ACalls Tryz.prog 151 [.own q 2 0 n, iA a, iA b, .fn (.func 54) []] [(q, .rows 46 2 (l.map FRef.cells))] (GP (fun _ : List FRef => mkRes []) (fun m => [(q, .rows 46 2 (m.map FRef.cells))]) (fun m => Sw a b l m ∧ SOn fLt a b m)) := by
 refine Zd (n := 60) Tryz.func151 rfl (by decide +kernel) rfl rfl ?_
 refine qS (qR (qM (qA (qN (qS (qR (qA (qN (qS (qR (qM (qM ?_))))))))))))
 refine qe (Zv (y := iA (b - a : Nat)) (eL) (congrArg iA (by omega))) ?_
 refine qA (qN (qS (qS (qR (qM ?_)))))
 refine qe eL ?_
 refine qe (Zv (y := iA ((b - a - 1) / 2 : Nat)) (Z0r rfl rfl rfl (by decide) (by (rw [Zb1 ha]; omega))) (congrArg iA (Zb1 ha))) ?_
 refine qA (qN (qB ?_))
 refine Zj (α := List FRef × Nat) (fun x => ⟨[(11, iA ((x.2 : Int) - 1)), (0, .own q 2 0 n), (8, iA a), (9, iA (0 : Nat)), (10, iA (b - a : Nat)), (3, .fn (.func 54) [])], [(q, .rows 46 2 (x.1.map FRef.cells))], [], 60⟩) (fun x => Sw a b l x.1 ∧ Heap fLt x.2 (b - a) a x.1 ∧ x.2 ≤ (b - a) + 1) (fun x => x.2) (l, (b - a - 1) / 2 + 1) ⟨.refl, Heap.none (by (try simp only) <;> omega), (by (try simp only) <;> omega)⟩ ?_ ?_
 ·exact Zb [0] ⟨(congrArg (fun n => some (iA n)) (by (try simp only) <;> omega)), rfl, rfl, rfl, rfl, rfl, trivial⟩ rfl (by decide) rfl rfl
 rintro x hJ
 have hm := hJ.1.len
 refine qS (qS (qR (qM ?_)))
 refine qe eI ?_
 refine qN ?_
 refine Z2 rfl ?_ ?_
 ·intro hc
  have hx : 0 < x.2 := by simp at hc; omega
  refine qK (qS (qB ?_))
  refine Z2j 11 rfl (show _ = ((x.2 - 1 : Nat) : Int) by omega) ?_
  refine qR (qM (qM (qM (qM (qM ?_)))))
  refine Z5 [_] _ (w0 rfl) rfl rfl rfl rfl (Zk (k := 0) rfl) (Zbs q n x.1 (by omega) hN (x.2 - 1) (b - a) a (by omega) (by omega) (by rw [show x.2 - 1 + 1 = x.2 from by omega]; exact hJ.2.1)) (fun v1 hv1 => ?_)
  refine qN (qR (qM ?_))
  refine qe eL ?_
  refine qA (qN ?_)
  refine ⟨(v1, x.2 - 1), ⟨hJ.1.trans (hv1.1.mono (Nat.le_refl _) (by omega) (by omega)), hv1.2, (by (try simp only) <;> omega)⟩, (by (try simp only) <;> omega), ?_⟩
  exact qp [0] ⟨(congrArg (fun n => some (iA n)) (by (try simp only) <;> omega)), rfl, rfl, rfl, rfl, rfl, trivial⟩
 ·intro hc
  have hx0 : x.2 = 0 := by simp at hc; omega
  refine qX (qS (qR (qM ?_)))
  refine qe eL ?_
  refine qA (qN (qB ?_))
  refine Zj (α := List FRef × Nat) (fun y => ⟨[(12, iA ((y.2 : Int) - 1)), (0, .own q 2 0 n), (8, iA a), (9, iA (0 : Nat)), (10, iA (b - a : Nat)), (3, .fn (.func 54) [])], [(q, .rows 46 2 (y.1.map FRef.cells))], [], 60⟩) (fun y => Sw a b l y.1 ∧ Pops fLt a b y.2 y.1 ∧ y.2 ≤ b - a) (fun y => y.2) (x.1, b - a) ⟨hJ.1, Pops.start ha (hx0 ▸ hJ.2.1), Nat.le_refl _⟩ ?_ ?_
  ·exact Zb [0] ⟨(congrArg (fun n => some (iA n)) (by (try simp only) <;> omega)), rfl, rfl, rfl, rfl, rfl, trivial⟩ rfl (by decide) rfl rfl
  rintro y hJ1
  have hm1 := hJ1.1.len
  refine qS (qS (qR (qM ?_)))
  refine qe eI ?_
  refine qN ?_
  refine Z2 rfl ?_ ?_
  ·intro hc
   have hy : 0 < y.2 := by simp at hc; omega
   have hsw := Pops.swap fLtT.ok (i := y.2 - 1) (by rw [show y.2 - 1 + 1 = y.2 from by omega]; exact hJ1.2.1) (by omega) (by omega : b ≤ y.1.length)
   refine qK (qS (qB (qS ?_)))
   refine Z2j 12 rfl (show _ = ((y.2 - 1 : Nat) : Int) by omega) ?_
   refine Z08 [0, 0, 0, 0, 0, 24, 0, 0, 0, 384, 960, 1984, 0, 0, 12288, 28672, 65475, 131011, 262143, 524287] [17, 19] [11, 15] rfl (by kernel_rfl) ?_
   refine wM2 (wM2 (wM2 (wM2 (wM2 ?_))))
   refine we eP ?_
   refine wM2 (wM2 (wM2 ?_))
   refine we eP ?_
   refine we (eO (a + (y.2 - 1))) ?_
   refine wLc 0 ?_
   refine wM2 (wM2 ?_)
   refine we (eO a) ?_
   refine wLc 0 ?_
   refine we (eO a) ?_
   refine Zm (f := FRef.cells) 0 (fun _ => rfl) (fun _ => rfl) (w0 rfl) rfl rfl rfl rfl (by first | omega | (simp; omega)) rfl rfl ?_
   refine we (eO (a + (y.2 - 1))) ?_
   refine Zm (f := FRef.cells) 0 (fun _ => rfl) (fun _ => rfl) (w0 rfl) rfl rfl rfl rfl (by first | omega | (simp; omega)) rfl rfl ?_
   refine .done (qR (qM (qM (qM (qM (qM ?_))))))
   refine Z5 [_] _ (w0 rfl) rfl rfl rfl rfl (Zk (k := 0) rfl) (Zbs q n (swp y.1 a (a + (y.2 - 1))) (by rw [Z21]; omega) hN 0 (y.2 - 1) a (by omega) (by omega) hsw.1) (fun v2 hv2 => ?_)
   refine qN (qR (qM ?_))
   refine qe eL ?_
   refine qA (qN ?_)
   refine ⟨(v2, y.2 - 1), ⟨(Sw.step _ _ hJ1.1 (by (try simp only) <;> omega) (by (try simp only) <;> omega) (by (try simp only) <;> omega)).trans (hv2.1.mono (Nat.le_refl _) (by omega) (by rw [Z21]; omega)), Pops.sift hsw.2.1 hsw.2.2 hv2.1 hv2.2, (by (try simp only) <;> omega)⟩, (by (try simp only) <;> omega), ?_⟩
   exact qp [0] ⟨(congrArg (fun n => some (iA n)) (by (try simp only) <;> omega)), rfl, rfl, rfl, rfl, rfl, trivial⟩
  ·intro hc
   have hy0 : y.2 = 0 := by simp at hc; omega
   refine qX ?_
   exact Zf rfl Z4 (.cons_cons _ .slnil) (gp y.1 ⟨hJ1.1, by have := hJ1.2.1.srt; rwa [hy0, Nat.add_zero] at this⟩ rfl rfl)
theorem Z3a (q n : Nat) (l : List FRef) (hn : l.length = n) (hN : n ≤ 140737488355328) (a b p : Nat) (hap : a ≤ p) (hpb : p < b) (hb : b ≤ n) : ACalls Tryz.prog 157 [.own q 2 0 n, iA a, iA b, iA p, .fn (.func 54) []] [(q, .rows 46 2 (l.map FRef.cells))] (GP (fun r : List FRef × Nat × Bool => .tup [iA r.2.1, bA r.2.2]) (fun r => [(q, .rows 46 2 (r.1.map FRef.cells))]) (fun r => Sw a b l r.1 ∧ a ≤ r.2.1 ∧ r.2.1 < b ∧ PartR fLt a b r.2.1 r.1)) := by
 have hm0 : Sw a b l (swp l a p) := .step _ _ .refl ⟨Nat.le_refl _, by omega⟩ ⟨hap, hpb⟩ (by (try simp only) <;> omega)
 have hl0 : (swp l a p).length = n := by rw [Z21]; exact hn
 refine Zd (n := 178) Tryz.func157 rfl (by decide +kernel) rfl rfl ?_
 refine qS (qR (qA (qA (qN (qS ?_)))))
 refine Z08 [0, 0, 0, 0, 0, 0, 48, 112, 0, 0, 768, 1792, 4083, 8179, 16383, 32767] [13, 15] [7, 11] rfl (by kernel_rfl) ?_
 refine wM2 (wM2 (wM2 (wM2 (wM2 (wM2 ?_)))))
 refine we (eO p) ?_
 refine wLc 0 ?_
 refine wM2 (wM2 ?_)
 refine we (eO a) ?_
 refine wLc 0 ?_
 refine we (eO a) ?_
 refine Zm (f := FRef.cells) 0 (fun _ => rfl) (fun _ => rfl) (w0 rfl) rfl rfl rfl rfl (by first | omega | (simp; omega)) rfl rfl ?_
 refine we (eO p) ?_
 refine Zm (f := FRef.cells) 0 (fun _ => rfl) (fun _ => rfl) (w0 rfl) rfl rfl rfl rfl (by first | omega | (simp; omega)) rfl rfl ?_
 refine .done (qS (qR (qM ?_)))
 refine qe eP ?_
 refine qM ?_
 refine qe (Zv (y := iA (b - 1 : Nat)) (eL) (congrArg iA (by (try simp only) <;> omega))) ?_
 refine qA (qA (qN (qS (qB ?_))))
 refine Zj (α := Nat) (fun x => ⟨[(12, iA x), (13, iA (b - 1 : Nat)), (0, .own q 2 0 n), (1, iA a), (4, .fn (.func 54) [])], [(q, .rows 46 2 ((swp l a p).map FRef.cells))], [], 178⟩) (fun x => a + 1 ≤ x ∧ x ≤ b ∧ ∀ k, a < k → k < x → fLt ((swp l a p).getD k default) ((swp l a p).getD a default) = true) (fun x => b - x) (a + 1) ⟨Nat.le_refl _, by omega, fun k h1 h2 => by omega⟩ ?_ ?_
 ·exact Zb [0] ⟨rfl, rfl, rfl, rfl, rfl, trivial⟩ rfl (by decide) rfl rfl
 rintro x hJ
 refine qS (qS ?_)
 refine Zz [0, 0, 3, 7, 15, 15, 15, 111, 239, 15, 15, 1551, 3599, 8191, 16383, 32767] 16 rfl (by kernel_rfl) ?_
 refine cM2 (cM2 ?_)
 refine ce eI ?_
 refine cM2 (cTM (cTM (cTM ?_)))
 refine Zc (wT rfl rfl rfl rfl) rfl (fun hg => (Z1 x rfl (Ze hg rfl) (Ze hg rfl) (by (try simp at hg) <;> omega) (by (try simp at hg) <;> omega) (by omega))) ?_
 refine Zq (f := FRef.cells) 0 (wT rfl rfl rfl rfl) rfl rfl (fun hg => (Ze hg rfl)) rfl (fun hg => by (try simp at hg) <;> omega) (fun _ => Z01 rfl) ?_
 refine cTM (cTM ?_)
 refine Zc (wT rfl rfl rfl rfl) rfl (fun hg => (Z1 a rfl (Ze hg rfl) (Ze hg rfl) (by (try simp at hg) <;> omega) (by (try simp at hg) <;> omega) (by omega))) ?_
 refine Zq (f := FRef.cells) 0 (wT rfl rfl rfl rfl) rfl rfl (fun hg => (Ze hg rfl)) rfl (fun hg => by (try simp at hg) <;> omega) (fun _ => Z01 rfl) ?_
 refine Zc (wT rfl rfl rfl rfl) rfl (fun hg => (Z8 [] rfl (Ze hg rfl) (Zg (Ze hg rfl) (Zg (Ze hg rfl) Z05)) (Z0z _ _) List.nodup_nil)) ?_
 refine Zc (wT rfl rfl rfl rfl) rfl (fun hg => (Zr rfl (Ze hg rfl) rfl rfl)) ?_
 refine ce (Zs rfl rfl rfl (fun h => h)) ?_
 refine .done (qN ?_)
 refine Z2 rfl ?_ ?_
 ·intro hc
  have hle : x ≤ (b - 1) := by have := Z27 hc; simpa using this
  have hv := Z28 hc
  refine qK (qB (qR (qM ?_)))
  refine qe eP ?_
  refine qA (qN ?_)
  refine ⟨(x + 1), ⟨by omega, by omega, fun k h1 h2 => by rcases Nat.lt_succ_iff_lt_or_eq.1 h2 with h | h; exact hJ.2.2 k h1 h; rw [h]; exact hv⟩, (by (try simp only) <;> omega), ?_⟩
  exact qp [0] ⟨rfl, rfl, rfl, rfl, rfl, trivial⟩
 ·intro hc
  have hA : (b - 1) < x ∨ fLt ((swp l a p).getD x default) ((swp l a p).getD a default) = false := by rcases Bool.and_eq_false_iff.1 hc with h | h; exact .inl (by simpa using h); exact .inr h
  refine qX (qS (qB ?_))
  refine Zj (α := Nat) (fun y => ⟨[(12, iA x), (13, iA y), (0, .own q 2 0 n), (1, iA a), (4, .fn (.func 54) [])], [(q, .rows 46 2 ((swp l a p).map FRef.cells))], [], 178⟩) (fun y => y < b ∧ x ≤ y + 1 ∧ ∀ k, y < k → k < b → fLt ((swp l a p).getD k default) ((swp l a p).getD a default) = false) (fun y => y) (b - 1) ⟨by omega, by omega, fun k h1 h2 => by omega⟩ ?_ ?_
  ·exact Zb [0] ⟨rfl, rfl, rfl, rfl, rfl, trivial⟩ rfl (by decide) rfl rfl
  rintro y hJ1
  refine qS (qS ?_)
  refine Zz [0, 0, 3, 7, 15, 15, 15, 111, 239, 15, 15, 1551, 3599, 8191, 16383, 32767, 65535] 17 rfl (by kernel_rfl) ?_
  refine cM2 (cM2 ?_)
  refine ce eI ?_
  refine cM2 (cTM (cTM (cTM ?_)))
  refine Zc (wT rfl rfl rfl rfl) rfl (fun hg => (Z1 y rfl (Ze hg rfl) (Ze hg rfl) (by (try simp at hg) <;> omega) (by (try simp at hg) <;> omega) (by omega))) ?_
  refine Zq (f := FRef.cells) 0 (wT rfl rfl rfl rfl) rfl rfl (fun hg => (Ze hg rfl)) rfl (fun hg => by (try simp at hg) <;> omega) (fun _ => Z01 rfl) ?_
  refine cTM (cTM ?_)
  refine Zc (wT rfl rfl rfl rfl) rfl (fun hg => (Z1 a rfl (Ze hg rfl) (Ze hg rfl) (by (try simp at hg) <;> omega) (by (try simp at hg) <;> omega) (by omega))) ?_
  refine Zq (f := FRef.cells) 0 (wT rfl rfl rfl rfl) rfl rfl (fun hg => (Ze hg rfl)) rfl (fun hg => by (try simp at hg) <;> omega) (fun _ => Z01 rfl) ?_
  refine Zc (wT rfl rfl rfl rfl) rfl (fun hg => (Z8 [] rfl (Ze hg rfl) (Zg (Ze hg rfl) (Zg (Ze hg rfl) Z05)) (Z0z _ _) List.nodup_nil)) ?_
  refine Zc (wT rfl rfl rfl rfl) rfl (fun hg => (Zr rfl (Ze hg rfl) rfl rfl)) ?_
  refine Zc (wT rfl rfl rfl rfl) rfl (fun hg => (Z03 rfl (Ze hg rfl))) ?_
  refine ce (Zs rfl rfl rfl (fun h => h)) ?_
  refine .done (qN ?_)
  refine Z2 rfl ?_ ?_
  ·intro hc
   have hle : x ≤ y := by have := Z27 hc; simpa using this
   have hv := Z28 hc
   refine qK (qB (qR (qM ?_)))
   refine qe eL ?_
   refine qA (qN ?_)
   refine ⟨(y - 1), ⟨by omega, by omega, fun k h1 h2 => by by_cases e : k = y; rw [e]; exact Z1u hv; exact hJ1.2.2 k (by (try simp only) <;> omega) h2⟩, (by (try simp only) <;> omega), ?_⟩
   exact qp [0] ⟨rfl, (congrArg (fun n => some (iA n)) (by (try simp only) <;> omega)), rfl, rfl, rfl, trivial⟩
  ·intro hc
   have hB : y < x ∨ (!fLt ((swp l a p).getD y default) ((swp l a p).getD a default)) = false := by rcases Bool.and_eq_false_iff.1 hc with h | h; exact .inl (by simpa using h); exact .inr h
   refine qX (qS (qS (qR (qM (qM ?_)))))
   refine qe eI ?_
   refine qN ?_
   refine Z2 rfl ?_ ?_
   ·intro hc
    have hgt : y < x := by simpa using hc
    refine qS ?_
    refine Z08 [0, 0, 0, 0, 0, 0, 48, 112, 0, 0, 768, 1792, 4083, 8179, 16383, 32767] [13, 15] [7, 11] rfl (by kernel_rfl) ?_
    refine wM2 (wM2 (wM2 (wM2 (wM2 (wM2 ?_)))))
    refine we (eO a) ?_
    refine wLc 0 ?_
    refine wM2 (wM2 ?_)
    refine we (eO y) ?_
    refine wLc 0 ?_
    refine we (eO y) ?_
    refine Zm (f := FRef.cells) 0 (fun _ => rfl) (fun _ => rfl) (w0 rfl) rfl rfl rfl rfl (by first | omega | (simp; omega)) rfl rfl ?_
    refine we (eO a) ?_
    refine Zm (f := FRef.cells) 0 (fun _ => rfl) (fun _ => rfl) (w0 rfl) rfl rfl rfl rfl (by first | omega | (simp; omega)) rfl rfl ?_
    refine .done (qS (qR (qM (qA (qA (qN (qE ?_)))))))
    exact Zf rfl (Z7 rfl (Z7 rfl Z4)) (.cons_cons _ .slnil) (gp (swp (swp l a p) y a, y, true) ⟨.step _ _ hm0 (by (try simp only) <;> omega) (by (try simp only) <;> omega) (by (try simp only) <;> omega), by simp only; omega, by simp only; omega, Part.fin ⟨hJ.2.2, hJ1.2.2⟩ (by (try simp only) <;> omega) (by (try simp only) <;> omega) (by (try simp only) <;> omega) (by (try simp only) <;> omega) (by (try simp only) <;> omega)⟩ rfl rfl)
   ·intro hc
    have hxy : x ≤ y := by simpa using hc
    have hne : x < y := Z2b (f := fun k => fLt ((swp l a p).getD k default) ((swp l a p).getD a default)) (by omega) (hA.resolve_left (by omega)) (Z2c (hB.resolve_left (by omega)))
    refine qK (qS ?_)
    refine Z08 [0, 0, 0, 0, 0, 0, 48, 112, 0, 0, 768, 1792, 4083, 8179, 16383, 32767] [13, 15] [7, 11] rfl (by kernel_rfl) ?_
    refine wM2 (wM2 (wM2 (wM2 (wM2 (wM2 ?_)))))
    refine we (eO y) ?_
    refine wLc 0 ?_
    refine wM2 (wM2 ?_)
    refine we (eO x) ?_
    refine wLc 0 ?_
    refine we (eO x) ?_
    refine Zm (f := FRef.cells) 0 (fun _ => rfl) (fun _ => rfl) (w0 rfl) rfl rfl rfl rfl (by first | omega | (simp; omega)) rfl rfl ?_
    refine we (eO y) ?_
    refine Zm (f := FRef.cells) 0 (fun _ => rfl) (fun _ => rfl) (w0 rfl) rfl rfl rfl rfl (by first | omega | (simp; omega)) rfl rfl ?_
    refine .done (qS (qR (qM ?_)))
    refine qe eP ?_
    refine qA (qN (qS (qR (qM ?_))))
    refine qe eL ?_
    refine qA (qN (qS (qB ?_)))
    refine Zj (α := List FRef × Nat × Nat) (fun z => ⟨[(12, iA z.2.1), (13, iA z.2.2), (0, .own q 2 0 n), (1, iA a), (4, .fn (.func 54) [])], [(q, .rows 46 2 (z.1.map FRef.cells))], [], 178⟩) (fun z => Sw a b l z.1 ∧ a + 1 ≤ z.2.1 ∧ z.2.1 ≤ z.2.2 + 1 ∧ z.2.2 < b ∧ Part fLt a b z.2.1 z.2.2 z.1) (fun z => z.2.2 + 1 - z.2.1) (swp (swp l a p) x y, x + 1, y - 1) ⟨.step _ _ hm0 (by (try simp only) <;> omega) (by (try simp only) <;> omega) (by (try simp only) <;> omega), (by (try simp only) <;> omega), (by (try simp only) <;> omega), (by (try simp only) <;> omega), Part.swap (i := x) (j := y) ⟨hJ.2.2, hJ1.2.2⟩ (by (try simp only) <;> omega) (by (try simp only) <;> omega) (by (try simp only) <;> omega) (by (try simp only) <;> omega) (hA.resolve_left (by (try simp only) <;> omega)) (Z2c (hB.resolve_left (by (try simp only) <;> omega)))⟩ ?_ ?_
    ·exact Zb [0] ⟨rfl, (congrArg (fun n => some (iA n)) (by (try simp only) <;> omega)), rfl, rfl, rfl, trivial⟩ rfl (by decide) rfl rfl
    rintro z hJ2
    have hm2 := hJ2.1.len
    refine qB (qS (qB ?_))
    refine Zj (α := Nat) (fun u => ⟨[(12, iA u), (13, iA z.2.2), (0, .own q 2 0 n), (1, iA a), (4, .fn (.func 54) [])], [(q, .rows 46 2 (z.1.map FRef.cells))], [], 178⟩) (fun u => z.2.1 ≤ u ∧ u ≤ z.2.2 + 1 ∧ Part fLt a b u z.2.2 z.1) (fun u => b - u) z.2.1 ⟨Nat.le_refl _, hJ2.2.2.1, hJ2.2.2.2.2⟩ ?_ ?_
    ·exact Zb [0] ⟨rfl, rfl, rfl, rfl, rfl, trivial⟩ rfl (by decide) rfl rfl
    rintro u hJ3
    refine qS (qS ?_)
    refine Zz [0, 0, 3, 7, 15, 15, 15, 111, 239, 15, 15, 1551, 3599, 8191, 16383, 32767] 16 rfl (by kernel_rfl) ?_
    refine cM2 (cM2 ?_)
    refine ce eI ?_
    refine cM2 (cTM (cTM (cTM ?_)))
    refine Zc (wT rfl rfl rfl rfl) rfl (fun hg => (Z1 u rfl (Ze hg rfl) (Ze hg rfl) (by (try simp at hg) <;> omega) (by (try simp at hg) <;> omega) (by omega))) ?_
    refine Zq (f := FRef.cells) 0 (wT rfl rfl rfl rfl) rfl rfl (fun hg => (Ze hg rfl)) rfl (fun hg => by (try simp at hg) <;> omega) (fun _ => Z01 rfl) ?_
    refine cTM (cTM ?_)
    refine Zc (wT rfl rfl rfl rfl) rfl (fun hg => (Z1 a rfl (Ze hg rfl) (Ze hg rfl) (by (try simp at hg) <;> omega) (by (try simp at hg) <;> omega) (by omega))) ?_
    refine Zq (f := FRef.cells) 0 (wT rfl rfl rfl rfl) rfl rfl (fun hg => (Ze hg rfl)) rfl (fun hg => by (try simp at hg) <;> omega) (fun _ => Z01 rfl) ?_
    refine Zc (wT rfl rfl rfl rfl) rfl (fun hg => (Z8 [] rfl (Ze hg rfl) (Zg (Ze hg rfl) (Zg (Ze hg rfl) Z05)) (Z0z _ _) List.nodup_nil)) ?_
    refine Zc (wT rfl rfl rfl rfl) rfl (fun hg => (Zr rfl (Ze hg rfl) rfl rfl)) ?_
    refine ce (Zs rfl rfl rfl (fun h => h)) ?_
    refine .done (qN ?_)
    refine Z2 rfl ?_ ?_
    ·intro hc
     have hle : u ≤ z.2.2 := by have := Z27 hc; simpa using this
     have hv := Z28 hc
     refine qK (qB (qR (qM ?_)))
     refine qe eP ?_
     refine qA (qN ?_)
     refine ⟨(u + 1), ⟨by omega, by omega, ⟨fun k h1 h2 => by rcases Nat.lt_succ_iff_lt_or_eq.1 h2 with h | h; exact hJ3.2.2.lo k h1 h; rw [h]; exact hv, hJ3.2.2.hi⟩⟩, (by (try simp only) <;> omega), ?_⟩
     exact qp [0] ⟨rfl, rfl, rfl, rfl, rfl, trivial⟩
    ·intro hc
     have hC : z.2.2 < u ∨ fLt (z.1.getD u default) (z.1.getD a default) = false := by rcases Bool.and_eq_false_iff.1 hc with h | h; exact .inl (by simpa using h); exact .inr h
     refine qX (qS (qB ?_))
     refine Zj (α := Nat) (fun v => ⟨[(12, iA u), (13, iA v), (0, .own q 2 0 n), (1, iA a), (4, .fn (.func 54) [])], [(q, .rows 46 2 (z.1.map FRef.cells))], [], 178⟩) (fun v => v ≤ z.2.2 ∧ u ≤ v + 1 ∧ Part fLt a b u v z.1) (fun v => v) z.2.2 ⟨Nat.le_refl _, hJ3.2.1, hJ3.2.2⟩ ?_ ?_
     ·exact Zb [0] ⟨rfl, rfl, rfl, rfl, rfl, trivial⟩ rfl (by decide) rfl rfl
     rintro v hJ4
     refine qS (qS ?_)
     refine Zz [0, 0, 3, 7, 15, 15, 15, 111, 239, 15, 15, 1551, 3599, 8191, 16383, 32767, 65535] 17 rfl (by kernel_rfl) ?_
     refine cM2 (cM2 ?_)
     refine ce eI ?_
     refine cM2 (cTM (cTM (cTM ?_)))
     refine Zc (wT rfl rfl rfl rfl) rfl (fun hg => (Z1 v rfl (Ze hg rfl) (Ze hg rfl) (by (try simp at hg) <;> omega) (by (try simp at hg) <;> omega) (by omega))) ?_
     refine Zq (f := FRef.cells) 0 (wT rfl rfl rfl rfl) rfl rfl (fun hg => (Ze hg rfl)) rfl (fun hg => by (try simp at hg) <;> omega) (fun _ => Z01 rfl) ?_
     refine cTM (cTM ?_)
     refine Zc (wT rfl rfl rfl rfl) rfl (fun hg => (Z1 a rfl (Ze hg rfl) (Ze hg rfl) (by (try simp at hg) <;> omega) (by (try simp at hg) <;> omega) (by omega))) ?_
     refine Zq (f := FRef.cells) 0 (wT rfl rfl rfl rfl) rfl rfl (fun hg => (Ze hg rfl)) rfl (fun hg => by (try simp at hg) <;> omega) (fun _ => Z01 rfl) ?_
     refine Zc (wT rfl rfl rfl rfl) rfl (fun hg => (Z8 [] rfl (Ze hg rfl) (Zg (Ze hg rfl) (Zg (Ze hg rfl) Z05)) (Z0z _ _) List.nodup_nil)) ?_
     refine Zc (wT rfl rfl rfl rfl) rfl (fun hg => (Zr rfl (Ze hg rfl) rfl rfl)) ?_
     refine Zc (wT rfl rfl rfl rfl) rfl (fun hg => (Z03 rfl (Ze hg rfl))) ?_
     refine ce (Zs rfl rfl rfl (fun h => h)) ?_
     refine .done (qN ?_)
     refine Z2 rfl ?_ ?_
     ·intro hc
      have hle : u ≤ v := by have := Z27 hc; simpa using this
      have hv := Z28 hc
      refine qK (qB (qR (qM ?_)))
      refine qe eL ?_
      refine qA (qN ?_)
      refine ⟨(v - 1), ⟨by omega, by omega, ⟨hJ4.2.2.lo, fun k h1 h2 => by by_cases e : k = v; rw [e]; exact Z1u hv; exact hJ4.2.2.hi k (by (try simp only) <;> omega) h2⟩⟩, (by (try simp only) <;> omega), ?_⟩
      exact qp [0] ⟨rfl, (congrArg (fun n => some (iA n)) (by (try simp only) <;> omega)), rfl, rfl, rfl, trivial⟩
     ·intro hc
      have hD : v < u ∨ (!fLt (z.1.getD v default) (z.1.getD a default)) = false := by rcases Bool.and_eq_false_iff.1 hc with h | h; exact .inl (by simpa using h); exact .inr h
      refine qX (qS (qS (qR (qM (qM ?_)))))
      refine qe eI ?_
      refine qN ?_
      refine Z2 rfl ?_ ?_
      ·intro hc
       have hgt : v < u := by simpa using hc
       refine qX (qS ?_)
       refine Z08 [0, 0, 0, 0, 0, 0, 48, 112, 0, 0, 768, 1792, 4083, 8179, 16383, 32767] [13, 15] [7, 11] rfl (by kernel_rfl) ?_
       refine wM2 (wM2 (wM2 (wM2 (wM2 (wM2 ?_)))))
       refine we (eO a) ?_
       refine wLc 0 ?_
       refine wM2 (wM2 ?_)
       refine we (eO v) ?_
       refine wLc 0 ?_
       refine we (eO v) ?_
       refine Zm (f := FRef.cells) 0 (fun _ => rfl) (fun _ => rfl) (w0 rfl) rfl rfl rfl rfl (by first | omega | (simp; omega)) rfl rfl ?_
       refine we (eO a) ?_
       refine Zm (f := FRef.cells) 0 (fun _ => rfl) (fun _ => rfl) (w0 rfl) rfl rfl rfl rfl (by first | omega | (simp; omega)) rfl rfl ?_
       refine .done (qS (qR (qM (qA (qA (qN (qE ?_)))))))
       exact Zf rfl (Z7 rfl (Z7 rfl Z4)) (.cons_cons _ .slnil) (gp (swp z.1 v a, v, false) ⟨.step _ _ hJ2.1 (by (try simp only) <;> omega) (by (try simp only) <;> omega) (by (try simp only) <;> omega), by simp only; omega, by simp only; omega, hJ4.2.2.fin (by (try simp only) <;> omega) (by (try simp only) <;> omega) (by (try simp only) <;> omega) (by (try simp only) <;> omega) (by (try simp only) <;> omega)⟩ rfl rfl)
      ·intro hc
       have huv : u ≤ v := by simpa using hc
       have hne : u < v := Z2b (f := fun k => fLt (z.1.getD k default) (z.1.getD a default)) (by omega) (hC.resolve_left (by omega)) (Z2c (hD.resolve_left (by omega)))
       refine qK (qS ?_)
       refine Z08 [0, 0, 0, 0, 0, 0, 48, 112, 0, 0, 768, 1792, 4083, 8179, 16383, 32767] [13, 15] [7, 11] rfl (by kernel_rfl) ?_
       refine wM2 (wM2 (wM2 (wM2 (wM2 (wM2 ?_)))))
       refine we (eO v) ?_
       refine wLc 0 ?_
       refine wM2 (wM2 ?_)
       refine we (eO u) ?_
       refine wLc 0 ?_
       refine we (eO u) ?_
       refine Zm (f := FRef.cells) 0 (fun _ => rfl) (fun _ => rfl) (w0 rfl) rfl rfl rfl rfl (by first | omega | (simp; omega)) rfl rfl ?_
       refine we (eO v) ?_
       refine Zm (f := FRef.cells) 0 (fun _ => rfl) (fun _ => rfl) (w0 rfl) rfl rfl rfl rfl (by first | omega | (simp; omega)) rfl rfl ?_
       refine .done (qS (qR (qM ?_)))
       refine qe eP ?_
       refine qA (qN (qR (qM ?_)))
       refine qe eL ?_
       refine qA (qN ?_)
       refine ⟨(swp z.1 u v, u + 1, v - 1), ⟨.step _ _ hJ2.1 (by (try simp only) <;> omega) (by (try simp only) <;> omega) (by (try simp only) <;> omega), (by (try simp only) <;> omega), (by (try simp only) <;> omega), (by (try simp only) <;> omega), hJ4.2.2.swap (i := u) (j := v) (by (try simp only) <;> omega) (by (try simp only) <;> omega) (by (try simp only) <;> omega) (by (try simp only) <;> omega) (hC.resolve_left (by (try simp only) <;> omega)) (Z2c (hD.resolve_left (by (try simp only) <;> omega)))⟩, (by (try simp only) <;> omega), ?_⟩
       exact qp [0] ⟨rfl, (congrArg (fun n => some (iA n)) (by (try simp only) <;> omega)), rfl, rfl, rfl, trivial⟩
theorem Z2r (q n : Nat) (l : List FRef) (hn : l.length = n) (hN : n ≤ 140737488355328) (a b p : Nat) (hap : a ≤ p) (hpb : p < b) (hb : b ≤ n) : ACalls Tryz.prog 156 [.own q 2 0 n, iA a, iA b, iA p, .fn (.func 54) []] [(q, .rows 46 2 (l.map FRef.cells))] (GP (fun r : List FRef × Nat => iA r.2) (fun r => [(q, .rows 46 2 (r.1.map FRef.cells))]) (fun r => Sw a b l r.1 ∧ a < r.2 ∧ r.2 ≤ b ∧ r.1.getD a default = l.getD p default ∧ ∃ j, r.2 = j + 1 ∧ PartE fLt a b r.2 j r.1)) := by
 have hm0 : Sw a b l (swp l a p) := .step _ _ .refl ⟨Nat.le_refl _, by omega⟩ ⟨hap, hpb⟩ (by omega)
 have hl0 : (swp l a p).length = n := by rw [Z21]; exact hn
 refine Zd (n := 90) Tryz.func156 rfl (by decide +kernel) rfl rfl ?_
 refine qS (qR (qA (qN (qS ?_))))
 refine Z08 [0, 0, 0, 0, 0, 0, 48, 112, 0, 0, 768, 1792, 4083, 8179, 16383, 32767] [13, 15] [7, 11] rfl (by kernel_rfl) ?_
 refine wM2 (wM2 (wM2 (wM2 (wM2 (wM2 ?_)))))
 refine we (eO p) ?_
 refine wLc 0 ?_
 refine wM2 (wM2 ?_)
 refine we (eO a) ?_
 refine wLc 0 ?_
 refine we (eO a) ?_
 refine Zm (f := FRef.cells) 0 (fun _ => rfl) (fun _ => rfl) (w0 rfl) rfl rfl rfl rfl (by first | omega | (simp; omega)) rfl rfl ?_
 refine we (eO p) ?_
 refine Zm (f := FRef.cells) 0 (fun _ => rfl) (fun _ => rfl) (w0 rfl) rfl rfl rfl rfl (by first | omega | (simp; omega)) rfl rfl ?_
 refine .done (qS (qR (qM ?_)))
 refine qe eP ?_
 refine qM ?_
 refine qe (Zv (y := iA (b - 1 : Nat)) (eL) (congrArg iA (by omega))) ?_
 refine qA (qA (qN (qS (qB ?_))))
 refine Zj (α := List FRef × Nat × Nat) (fun z => ⟨[(11, iA z.2.1), (12, iA z.2.2), (0, .own q 2 0 n), (1, iA a), (4, .fn (.func 54) [])], [(q, .rows 46 2 (z.1.map FRef.cells))], [], 90⟩) (fun z => Sw a b l z.1 ∧ a + 1 ≤ z.2.1 ∧ z.2.1 ≤ z.2.2 + 1 ∧ z.2.2 < b ∧ z.1.getD a default = l.getD p default ∧ PartE fLt a b z.2.1 z.2.2 z.1) (fun z => z.2.2 + 1 - z.2.1) ((swp l a p), a + 1, b - 1) ⟨hm0, (by (try simp only) <;> omega), (by (try simp only) <;> omega), (by (try simp only) <;> omega), Z68 (by omega) (by omega), ⟨fun k h1 h2 => by (try simp only at h1 h2); omega, fun k h1 h2 => by (try simp only at h1 h2); omega⟩⟩ ?_ ?_
 ·exact Zb [0] ⟨rfl, rfl, rfl, rfl, rfl, trivial⟩ rfl (by decide) rfl rfl
 rintro z hJ2
 have hm2 := hJ2.1.len
 refine qB (qS (qB ?_))
 refine Zj (α := Nat) (fun u => ⟨[(11, iA u), (12, iA z.2.2), (0, .own q 2 0 n), (1, iA a), (4, .fn (.func 54) [])], [(q, .rows 46 2 (z.1.map FRef.cells))], [], 90⟩) (fun u => z.2.1 ≤ u ∧ u ≤ z.2.2 + 1 ∧ PartE fLt a b u z.2.2 z.1) (fun u => b - u) z.2.1 ⟨Nat.le_refl _, hJ2.2.2.1, hJ2.2.2.2.2.2⟩ ?_ ?_
 ·exact Zb [0] ⟨rfl, rfl, rfl, rfl, rfl, trivial⟩ rfl (by decide) rfl rfl
 rintro u hJ3
 refine qS (qS ?_)
 refine Zz [0, 0, 3, 7, 15, 15, 15, 111, 239, 15, 15, 1551, 3599, 8191, 16383, 32767, 65535] 17 rfl (by kernel_rfl) ?_
 refine cM2 (cM2 ?_)
 refine ce eI ?_
 refine cM2 (cTM (cTM (cTM ?_)))
 refine Zc (wT rfl rfl rfl rfl) rfl (fun hg => (Z1 a rfl (Ze hg rfl) (Ze hg rfl) (by (try simp at hg) <;> omega) (by (try simp at hg) <;> omega) (by omega))) ?_
 refine Zq (f := FRef.cells) 0 (wT rfl rfl rfl rfl) rfl rfl (fun hg => (Ze hg rfl)) rfl (fun hg => by (try simp at hg) <;> omega) (fun _ => Z01 rfl) ?_
 refine cTM (cTM ?_)
 refine Zc (wT rfl rfl rfl rfl) rfl (fun hg => (Z1 u rfl (Ze hg rfl) (Ze hg rfl) (by (try simp at hg) <;> omega) (by (try simp at hg) <;> omega) (by omega))) ?_
 refine Zq (f := FRef.cells) 0 (wT rfl rfl rfl rfl) rfl rfl (fun hg => (Ze hg rfl)) rfl (fun hg => by (try simp at hg) <;> omega) (fun _ => Z01 rfl) ?_
 refine Zc (wT rfl rfl rfl rfl) rfl (fun hg => (Z8 [] rfl (Ze hg rfl) (Zg (Ze hg rfl) (Zg (Ze hg rfl) Z05)) (Z0z _ _) List.nodup_nil)) ?_
 refine Zc (wT rfl rfl rfl rfl) rfl (fun hg => (Zr rfl (Ze hg rfl) rfl rfl)) ?_
 refine Zc (wT rfl rfl rfl rfl) rfl (fun hg => (Z03 rfl (Ze hg rfl))) ?_
 refine ce (Zs rfl rfl rfl (fun h => h)) ?_
 refine .done (qN ?_)
 refine Z2 rfl ?_ ?_
 ·intro hc
  have hle : u ≤ z.2.2 := by have := Z27 hc; simpa using this
  have hv := Z28 hc
  refine qK (qB (qR (qM ?_)))
  refine qe eP ?_
  refine qA (qN ?_)
  refine ⟨(u + 1), ⟨by omega, by omega, ⟨fun k h1 h2 => by rcases Nat.lt_succ_iff_lt_or_eq.1 h2 with h | h; exact hJ3.2.2.lo k h1 h; rw [h]; exact Z1u hv, hJ3.2.2.hi⟩⟩, (by omega), ?_⟩
  exact qp [0] ⟨rfl, rfl, rfl, rfl, rfl, trivial⟩
 ·intro hc
  have hC : z.2.2 < u ∨ (!fLt (z.1.getD a default) (z.1.getD u default)) = false := by rcases Bool.and_eq_false_iff.1 hc with h | h; exact .inl (by simpa using h); exact .inr h
  refine qX (qS (qB ?_))
  refine Zj (α := Nat) (fun v => ⟨[(11, iA u), (12, iA v), (0, .own q 2 0 n), (1, iA a), (4, .fn (.func 54) [])], [(q, .rows 46 2 (z.1.map FRef.cells))], [], 90⟩) (fun v => v ≤ z.2.2 ∧ u ≤ v + 1 ∧ PartE fLt a b u v z.1) (fun v => v) z.2.2 ⟨Nat.le_refl _, hJ3.2.1, hJ3.2.2⟩ ?_ ?_
  ·exact Zb [0] ⟨rfl, rfl, rfl, rfl, rfl, trivial⟩ rfl (by decide) rfl rfl
  rintro v hJ4
  refine qS (qS ?_)
  refine Zz [0, 0, 3, 7, 15, 15, 15, 111, 239, 15, 15, 1551, 3599, 8191, 16383, 32767] 16 rfl (by kernel_rfl) ?_
  refine cM2 (cM2 ?_)
  refine ce eI ?_
  refine cM2 (cTM (cTM (cTM ?_)))
  refine Zc (wT rfl rfl rfl rfl) rfl (fun hg => (Z1 a rfl (Ze hg rfl) (Ze hg rfl) (by (try simp at hg) <;> omega) (by (try simp at hg) <;> omega) (by omega))) ?_
  refine Zq (f := FRef.cells) 0 (wT rfl rfl rfl rfl) rfl rfl (fun hg => (Ze hg rfl)) rfl (fun hg => by (try simp at hg) <;> omega) (fun _ => Z01 rfl) ?_
  refine cTM (cTM ?_)
  refine Zc (wT rfl rfl rfl rfl) rfl (fun hg => (Z1 v rfl (Ze hg rfl) (Ze hg rfl) (by (try simp at hg) <;> omega) (by (try simp at hg) <;> omega) (by omega))) ?_
  refine Zq (f := FRef.cells) 0 (wT rfl rfl rfl rfl) rfl rfl (fun hg => (Ze hg rfl)) rfl (fun hg => by (try simp at hg) <;> omega) (fun _ => Z01 rfl) ?_
  refine Zc (wT rfl rfl rfl rfl) rfl (fun hg => (Z8 [] rfl (Ze hg rfl) (Zg (Ze hg rfl) (Zg (Ze hg rfl) Z05)) (Z0z _ _) List.nodup_nil)) ?_
  refine Zc (wT rfl rfl rfl rfl) rfl (fun hg => (Zr rfl (Ze hg rfl) rfl rfl)) ?_
  refine ce (Zs rfl rfl rfl (fun h => h)) ?_
  refine .done (qN ?_)
  refine Z2 rfl ?_ ?_
  ·intro hc
   have hle : u ≤ v := by have := Z27 hc; simpa using this
   have hv := Z28 hc
   refine qK (qB (qR (qM ?_)))
   refine qe eL ?_
   refine qA (qN ?_)
   refine ⟨(v - 1), ⟨by omega, by omega, ⟨hJ4.2.2.lo, fun k h1 h2 => by by_cases e : k = v; rw [e]; exact hv; exact hJ4.2.2.hi k (by omega) h2⟩⟩, (by omega), ?_⟩
   exact qp [0] ⟨rfl, (congrArg (fun n => some (iA n)) (by omega)), rfl, rfl, rfl, trivial⟩
  ·intro hc
   have hD : v < u ∨ fLt (z.1.getD a default) (z.1.getD v default) = false := by rcases Bool.and_eq_false_iff.1 hc with h | h; exact .inl (by simpa using h); exact .inr h
   refine qX (qS (qS (qR (qM (qM ?_)))))
   refine qe eI ?_
   refine qN ?_
   refine Z2 rfl ?_ ?_
   ·intro hc
    have hgt : v < u := by simpa using hc
    refine qX (qS (qR (qM (qA (qN (qE ?_))))))
    exact Zf rfl (Z7 rfl Z4) (.cons_cons _ .slnil) (gp (z.1, u) ⟨hJ2.1, (by (try simp only) <;> omega), (by (try simp only) <;> omega), hJ2.2.2.2.2.1, v, (by (try simp only) <;> omega), hJ4.2.2⟩ rfl rfl)
   ·intro hc
    have huv : u ≤ v := by simpa using hc
    have hne : u < v := Z3i (f := fun k => fLt (z.1.getD a default) (z.1.getD k default)) (by omega) (Z2c (hC.resolve_left (by omega))) (hD.resolve_left (by omega))
    refine qK (qS ?_)
    refine Z08 [0, 0, 0, 0, 0, 0, 48, 112, 0, 0, 768, 1792, 4083, 8179, 16383, 32767] [13, 15] [7, 11] rfl (by kernel_rfl) ?_
    refine wM2 (wM2 (wM2 (wM2 (wM2 (wM2 ?_)))))
    refine we (eO v) ?_
    refine wLc 0 ?_
    refine wM2 (wM2 ?_)
    refine we (eO u) ?_
    refine wLc 0 ?_
    refine we (eO u) ?_
    refine Zm (f := FRef.cells) 0 (fun _ => rfl) (fun _ => rfl) (w0 rfl) rfl rfl rfl rfl (by first | omega | (simp; omega)) rfl rfl ?_
    refine we (eO v) ?_
    refine Zm (f := FRef.cells) 0 (fun _ => rfl) (fun _ => rfl) (w0 rfl) rfl rfl rfl rfl (by first | omega | (simp; omega)) rfl rfl ?_
    refine .done (qS (qR (qM ?_)))
    refine qe eP ?_
    refine qA (qN (qR (qM ?_)))
    refine qe eL ?_
    refine qA (qN ?_)
    refine ⟨(swp z.1 u v, u + 1, v - 1), ⟨.step _ _ hJ2.1 (by (try simp only) <;> omega) (by (try simp only) <;> omega) (by (try simp only) <;> omega), (by (try simp only) <;> omega), (by (try simp only) <;> omega), (by (try simp only) <;> omega), (Z2l (by (try simp only) <;> omega) (by (try simp only) <;> omega) (by (try simp only) <;> omega) (by (try simp only) <;> omega)).trans hJ2.2.2.2.2.1, hJ4.2.2.swap (i := u) (j := v) (by (try simp only) <;> omega) (by (try simp only) <;> omega) (by (try simp only) <;> omega) (by (try simp only) <;> omega) (Z2c (hC.resolve_left (by (try simp only) <;> omega))) (hD.resolve_left (by (try simp only) <;> omega))⟩, (by (try simp only) <;> omega), ?_⟩
    exact qp [0] ⟨rfl, (congrArg (fun n => some (iA n)) (by (try simp only) <;> omega)), rfl, rfl, rfl, trivial⟩
theorem Zex (q n : Nat) (l : List FRef) (hn : l.length = n) (hN : n ≤ 140737488355328) (a b : Nat) (ha : a < b) (hb : b ≤ n) : ACalls Tryz.prog 154 [.own q 2 0 n, iA a, iA b, .fn (.func 54) []] [(q, .rows 46 2 (l.map FRef.cells))] (GP (fun _ : List FRef => mkRes []) (fun m => [(q, .rows 46 2 (m.map FRef.cells))]) (fun m => Sw a b l m)) := by
 refine Zd (n := 34) Tryz.func154 rfl (by decide +kernel) rfl rfl ?_
 refine qS (qR (qM (qA (qN (qS (qR (qM ?_)))))))
 refine qe (Zv (y := iA (b - 1 : Nat)) (eL) (congrArg iA (by omega))) ?_
 refine qA (qN (qB ?_))
 refine Zj (α := List FRef × Nat × Nat) (fun z => ⟨[(8, iA z.2.1), (9, iA z.2.2), (0, .own q 2 0 n), (3, .fn (.func 54) [])], [(q, .rows 46 2 (z.1.map FRef.cells))], [], 34⟩) (fun z => Sw a b l z.1 ∧ a ≤ z.2.1 ∧ z.2.2 < b) (fun z => z.2.2 - z.2.1) (l, a, b - 1) ⟨.refl, (by (try simp only) <;> omega), (by (try simp only) <;> omega)⟩ ?_ ?_
 ·exact Zb [0] ⟨rfl, rfl, rfl, rfl, trivial⟩ rfl (by decide) rfl rfl
 rintro z hJ
 have hm := hJ.1.len
 refine qS (qS (qR (qM (qM ?_))))
 refine qe eI ?_
 refine qN ?_
 refine Z2 rfl ?_ ?_
 ·intro hc
  have hlt : z.2.1 < z.2.2 := by simpa using hc
  refine qK (qB (qS ?_))
  refine Z08 [0, 0, 0, 0, 0, 0, 48, 112, 0, 0, 768, 1792, 4083, 8179, 16383, 32767] [13, 15] [7, 11] rfl (by kernel_rfl) ?_
  refine wM2 (wM2 (wM2 (wM2 (wM2 (wM2 ?_)))))
  refine we (Z1 z.2.2 rfl rfl rfl (by omega) (by omega) (by omega)) ?_
  refine wLc 0 ?_
  refine wM2 (wM2 ?_)
  refine we (Z1 z.2.1 rfl rfl rfl (by omega) (by omega) (by omega)) ?_
  refine wLc 0 ?_
  refine we (Z1 z.2.1 rfl rfl rfl (by omega) (by omega) (by omega)) ?_
  refine Zm (f := FRef.cells) 0 (fun _ => rfl) (fun _ => rfl) (w0 rfl) rfl rfl rfl rfl (by first | omega | (simp; omega)) rfl rfl ?_
  refine we (Z1 z.2.2 rfl rfl rfl (by omega) (by omega) (by omega)) ?_
  refine Zm (f := FRef.cells) 0 (fun _ => rfl) (fun _ => rfl) (w0 rfl) rfl rfl rfl rfl (by first | omega | (simp; omega)) rfl rfl ?_
  refine .done (qS (qR (qM ?_)))
  refine qe eP ?_
  refine qA (qN (qR (qM ?_)))
  refine qe eL ?_
  refine qA (qN ?_)
  refine ⟨(swp z.1 z.2.1 z.2.2, z.2.1 + 1, z.2.2 - 1), ⟨.step _ _ hJ.1 (by (try simp only) <;> omega) (by (try simp only) <;> omega) (by (try simp only) <;> omega), (by (try simp only) <;> omega), (by (try simp only) <;> omega)⟩, (by (try simp only) <;> omega), ?_⟩
  exact qp [0] ⟨rfl, (congrArg (fun n => some (iA n)) (by (try simp only) <;> omega)), rfl, rfl, trivial⟩
 ·intro hc
  refine qX ?_
  exact Zf rfl Z4 (.cons_cons _ .slnil) (gp z.1 hJ.1 rfl rfl)
theorem Z5o (q si n : Nat) (l : List FRef) (hn : l.length = n) (c : Int) (a b : Nat) (ha : a < n) (hb : b < n) : ACalls Tryz.prog 188 [.own q 2 0 n, iA a, iA b, .ptr si 1 0 0, .fn (.func 54) []] [(q, .rows 46 2 (l.map FRef.cells)), (si, .rows 3 1 [[iA c]])] (GP (fun r : Nat × Nat × Int => .tup [iA r.1, iA r.2.1]) (fun r => [(q, .rows 46 2 (l.map FRef.cells)), (si, .rows 3 1 [[iA r.2.2]])]) (fun r => (r.1 = a ∧ r.2.1 = b) ∨ (r.1 = b ∧ r.2.1 = a))) := by
 refine Zd (n := 32) Tryz.func188 rfl (by decide +kernel) rfl rfl ?_
 refine qS (qR (qA (qA (qN (qS (qS ?_))))))
 refine Z0j 11 rfl (by kernel_rfl) ?_
 refine cM2 (cM2 (cM2 ?_))
 refine ce (eO b) ?_
 refine Za 0 (w0 rfl) rfl rfl rfl rfl (Z0g (by omega)) (Z01 rfl) ?_
 refine cM2 (cM2 ?_)
 refine ce (eO a) ?_
 refine Za 0 (w0 rfl) rfl rfl rfl rfl (Z0g (by omega)) (Z01 rfl) ?_
 refine ce (Z8 [] rfl rfl rfl (Z0z _ _) List.nodup_nil) ?_
 refine ce eI ?_
 refine .done (qN ?_)
 refine Z2 rfl ?_ ?_
 ·intro hc
  refine qS (qR (qM ?_))
  refine qe (Z02 rfl rfl rfl) ?_
  refine qL 1 Z3 ?_
  refine qe (Z9 rfl rfl rfl rfl) ?_
  refine qe (Z02 rfl rfl rfl) ?_
  refine Zw 1 (w0 rfl) rfl rfl rfl rfl rfl rfl rfl rfl rfl ?_
  refine qN (qS (qR (qM (qM (qA (qA (qN (qE ?_))))))))
  exact Zf rfl (Z7 rfl (Z7 rfl Z4)) (.cons_cons _ (.cons_cons _ .slnil)) (gp (b, a, _) (.inr ⟨rfl, rfl⟩) rfl rfl)
 ·intro hc
  refine qK (qS (qR (qM (qM (qA (qA (qN (qE ?_))))))))
  exact Zf rfl (Z7 rfl (Z7 rfl Z4)) (.cons_cons _ (.cons_cons _ .slnil)) (gp (a, b, _) (.inl ⟨rfl, rfl⟩) rfl rfl)
theorem Z5k (q si n : Nat) (l : List FRef) (hn : l.length = n) (hN : n ≤ 140737488355328) (c : Int) (a b d : Nat) (ha : a < n) (hb : b < n) (hd : d < n) : ACalls Tryz.prog 183 [.own q 2 0 n, iA a, iA b, iA d, .ptr si 1 0 0, .fn (.func 54) []] [(q, .rows 46 2 (l.map FRef.cells)), (si, .rows 3 1 [[iA c]])] (GP (fun r : Nat × Int => iA r.1) (fun r => [(q, .rows 46 2 (l.map FRef.cells)), (si, .rows 3 1 [[iA r.2]])]) (fun r => r.1 = a ∨ r.1 = b ∨ r.1 = d)) := by
 refine Zd (n := 41) Tryz.func183 rfl (by decide +kernel) rfl rfl ?_
 refine qS (qR (qA (qN (qS (qR (qM (qM (qM (qM (qM ?_))))))))))
 refine Z5 [_, _] _ (w0 rfl) rfl rfl rfl rfl (Z0s (k := 0) (j := 0) rfl rfl) (Z5o q si n l hn _ _ _ (by omega) (by omega)) (fun v1 hv1 => ?_)
 refine qM ?_
 refine qe (Zi rfl rfl rfl) ?_
 refine qe (Zi rfl rfl rfl) ?_
 refine qA (qA (qN (qS (qR (qM (qM (qM (qM (qM ?_)))))))))
 refine Z5 [_, _] _ (w0 rfl) rfl rfl rfl rfl (Z0s (k := 0) (j := 0) rfl rfl) (Z5o q si n l hn _ _ _ (by omega) (by omega)) (fun v2 hv2 => ?_)
 refine qM ?_
 refine qe (Zi rfl rfl rfl) ?_
 refine qe (Zi rfl rfl rfl) ?_
 refine qA (qA (qN (qS (qR (qM (qM (qM (qM (qM ?_)))))))))
 refine Z5 [_, _] _ (w0 rfl) rfl rfl rfl rfl (Z0s (k := 0) (j := 0) rfl rfl) (Z5o q si n l hn _ _ _ (by omega) (by omega)) (fun v3 hv3 => ?_)
 refine qM ?_
 refine qe (Zi rfl rfl rfl) ?_
 refine qe (Zi rfl rfl rfl) ?_
 refine qA (qA (qN (qS (qR (qM (qA (qN (qE ?_))))))))
 exact Zf rfl (Z7 rfl Z4) (.cons_cons _ (.cons_cons _ .slnil)) (gp (v3.2.1, _) (by (try simp only) <;> omega) rfl rfl)
theorem Z5h (q si n : Nat) (l : List FRef) (hn : l.length = n) (hN : n ≤ 140737488355328) (c : Int) (a : Nat) (h1 : 1 ≤ a) (ha : a + 1 < n) : ACalls Tryz.prog 182 [.own q 2 0 n, iA a, .ptr si 1 0 0, .fn (.func 54) []] [(q, .rows 46 2 (l.map FRef.cells)), (si, .rows 3 1 [[iA c]])] (GP (fun r : Nat × Int => iA r.1) (fun r => [(q, .rows 46 2 (l.map FRef.cells)), (si, .rows 3 1 [[iA r.2]])]) (fun r => r.1 + 1 = a ∨ r.1 = a ∨ r.1 = a + 1)) := by
 refine Zd (n := 18) Tryz.func182 rfl (by decide +kernel) rfl rfl ?_
 refine qS (qR (qA (qN (qS (qR (qM (qM ?_)))))))
 refine qe (Zv (y := iA (a - 1 : Nat)) (eL) (congrArg iA (by omega))) ?_
 refine qM (qM ?_)
 refine qe eP ?_
 refine qM (qM ?_)
 refine Z5 [_, _] _ (w0 rfl) rfl rfl rfl rfl (Z0s (k := 0) (j := 0) rfl rfl) (Z5k q si n l hn hN _ (a - 1) a (a + 1) (by omega) (by omega) (by omega)) (fun v1 hv1 => ?_)
 refine qA (qN (qE ?_))
 exact Zf rfl (Z7 rfl Z4) (.cons_cons _ (.cons_cons _ .slnil)) (gp (v1.1, _) (by (try simp only) <;> omega) rfl rfl)
theorem Z9h (q n : Nat) (l : List FRef) (hn : l.length = n) (hN : n ≤ 140737488355328) (a b : Nat) (hab : a + 12 < b) (hb : b ≤ n) : ACalls Tryz.prog 153 [.own q 2 0 n, iA a, iA b, .fn (.func 54) []] [(q, .rows 46 2 (l.map FRef.cells))] (GP (fun r : Nat × Int => .tup [iA r.1, iA r.2]) (fun r => [(q, .rows 46 2 (l.map FRef.cells))]) (fun r => a ≤ r.1 ∧ r.1 < b)) := by
 refine Zd (n := 63) Tryz.func153 rfl (by decide +kernel) rfl rfl ?_
 refine qS (qR (qA (qA (qN (qS (qR (qM (qM ?_))))))))
 refine qe (Zv (y := iA (b - a : Nat)) (eL) (congrArg iA (by omega))) ?_
 refine qA (qN (qS (qR ?_)))
 refine Zy (w0 rfl) rfl (fun id => Z0b id rfl rfl rfl) (fun id1 => ?_)
 refine qN (qS (qR (qM (qM ?_))))
 refine qe (Zv (y := iA ((b - a) / 4 : Nat)) (Z0r rfl rfl rfl (by decide) (Z0l (b - a) 4 (by omega))) (congrArg iA (Z1p (b - a) 4))) ?_
 refine qe (Z9 rfl rfl rfl (Z1c (by omega))) ?_
 refine qe (Zv (y := iA (a + (b - a) / 4 * 1 : Nat)) (eP) (congrArg iA (by omega))) ?_
 refine qA (qN (qS (qR (qM (qM ?_)))))
 refine qe (Zv (y := iA ((b - a) / 4 : Nat)) (Z0r rfl rfl rfl (by decide) (Z0l (b - a) 4 (by omega))) (congrArg iA (Z1p (b - a) 4))) ?_
 refine qe (Z9 rfl rfl rfl (Z1c (by omega))) ?_
 refine qe (Zv (y := iA (a + (b - a) / 4 * 2 : Nat)) (eP) (congrArg iA (by omega))) ?_
 refine qA (qN (qS (qR (qM (qM ?_)))))
 refine qe (Zv (y := iA ((b - a) / 4 : Nat)) (Z0r rfl rfl rfl (by decide) (Z0l (b - a) 4 (by omega))) (congrArg iA (Z1p (b - a) 4))) ?_
 refine qe (Z9 rfl rfl rfl (Z1c (by omega))) ?_
 refine qe (Zv (y := iA (a + (b - a) / 4 * 3 : Nat)) (eP) (congrArg iA (by omega))) ?_
 refine qA (qN (qS (qS (qR (qM ?_)))))
 refine qe eI ?_
 refine qN ?_
 refine Z2 rfl ?_ ?_
 ·intro hc
  refine qS (qS (qR (qM ?_)))
  refine qe eI ?_
  refine qN ?_
  refine Z2 rfl ?_ ?_
  ·intro hc
   refine qS (qR (qM (qM (qM ?_))))
   refine Z5 [_, _] _ (w0 rfl) rfl rfl rfl rfl (Z0s (k := 1) (j := 0) rfl rfl) (Z5h q _ n l hn hN _ _ (by omega) (by omega)) (fun v2 hv2 => ?_)
   refine qA (qN (qS (qR (qM (qM (qM ?_))))))
   refine Z5 [_, _] _ (w0 rfl) rfl rfl rfl rfl (Z0s (k := 0) (j := 0) rfl rfl) (Z5h q _ n l hn hN _ _ (by omega) (by omega)) (fun v3 hv3 => ?_)
   refine qA (qN (qR (qM (qM (qM ?_)))))
   refine Z5 [_, _] _ (w0 rfl) rfl rfl rfl rfl (Z0s (k := 0) (j := 0) rfl rfl) (Z5h q _ n l hn hN _ _ (by omega) (by omega)) (fun v4 hv4 => ?_)
   refine qA (qN (qR (qM (qM (qM (qM (qM ?_)))))))
   refine Z5 [_, _] _ (w0 rfl) rfl rfl rfl rfl (Z0s (k := 0) (j := 0) rfl rfl) (Z5k q _ n l hn hN _ _ _ _ (by omega) (by omega) (by omega)) (fun v5 hv5 => ?_)
   refine qA (qN (qS (qR ?_)))
   refine qL 1 Z3 ?_
   refine qN (qB (qS (qR ?_)))
   refine qe eI ?_
   refine qA (qN ?_)
   refine Z2 rfl ?_ ?_
   ·intro hc
    refine qS (qR (qM (qA (qA (qN (qE ?_))))))
    exact Zf rfl (Z7 rfl (Z7 rfl Z4)) (.cons_cons _ (.cons _ .slnil)) (gp (v5.1, 1) ⟨(by (try simp only) <;> omega), (by (try simp only) <;> omega)⟩ rfl rfl)
   ·intro hc
    refine qS (qR ?_)
    refine qe eI ?_
    refine qA (qN ?_)
    refine Z2 rfl ?_ ?_
    ·intro hc
     refine qS (qR (qM (qA (qA (qN (qE ?_))))))
     exact Zf rfl (Z7 rfl (Z7 rfl Z4)) (.cons_cons _ (.cons _ .slnil)) (gp (v5.1, 2) ⟨(by (try simp only) <;> omega), (by (try simp only) <;> omega)⟩ rfl rfl)
    ·intro hc
     refine qS (qR (qM (qA (qA (qN (qE ?_))))))
     exact Zf rfl (Z7 rfl (Z7 rfl Z4)) (.cons_cons _ (.cons _ .slnil)) (gp (v5.1, 0) ⟨(by (try simp only) <;> omega), (by (try simp only) <;> omega)⟩ rfl rfl)
  ·intro hc
   refine qK (qR (qM (qM (qM (qM (qM ?_))))))
   refine Z5 [_, _] _ (w0 rfl) rfl rfl rfl rfl (Z0s (k := 1) (j := 0) rfl rfl) (Z5k q _ n l hn hN _ _ _ _ (by omega) (by omega) (by omega)) (fun v6 hv6 => ?_)
   refine qA (qN (qS (qR ?_)))
   refine qL 1 Z3 ?_
   refine qN (qB (qS (qR ?_)))
   refine qe eI ?_
   refine qA (qN ?_)
   refine Z2 rfl ?_ ?_
   ·intro hc
    refine qS (qR (qM (qA (qA (qN (qE ?_))))))
    exact Zf rfl (Z7 rfl (Z7 rfl Z4)) (.cons_cons _ (.cons _ .slnil)) (gp (v6.1, 1) ⟨(by (try simp only) <;> omega), (by (try simp only) <;> omega)⟩ rfl rfl)
   ·intro hc
    refine qS (qR ?_)
    refine qe eI ?_
    refine qA (qN ?_)
    refine Z2 rfl ?_ ?_
    ·intro hc
     refine qS (qR (qM (qA (qA (qN (qE ?_))))))
     exact Zf rfl (Z7 rfl (Z7 rfl Z4)) (.cons_cons _ (.cons _ .slnil)) (gp (v6.1, 2) ⟨(by (try simp only) <;> omega), (by (try simp only) <;> omega)⟩ rfl rfl)
    ·intro hc
     refine qS (qR (qM (qA (qA (qN (qE ?_))))))
     exact Zf rfl (Z7 rfl (Z7 rfl Z4)) (.cons_cons _ (.cons _ .slnil)) (gp (v6.1, 0) ⟨(by (try simp only) <;> omega), (by (try simp only) <;> omega)⟩ rfl rfl)
 ·intro hc
  exfalso; simp at hc; omega
theorem Z3o (q n : Nat) (l : List FRef) (hn : l.length = n) (hN : n ≤ 140737488355328) (a b : Nat) (ha : a < b) (hb : b ≤ n) (hbd : Bd fLt a b l) : ACalls Tryz.prog 155 [.own q 2 0 n, iA a, iA b, .fn (.func 54) []] [(q, .rows 46 2 (l.map FRef.cells))] (GP (fun r : List FRef × Bool => bA r.2) (fun r => [(q, .rows 46 2 (r.1.map FRef.cells))]) (fun r => Sw a b l r.1 ∧ (r.2 = true → SAdj fLt a b r.1))) := by
 refine Zd (n := 141) Tryz.func155 rfl (by decide +kernel) rfl rfl ?_
 refine qS (qR (qA (qN (qS (qR (qM ?_))))))
 refine qe eP ?_
 refine qA (qN (qS (qS (qR (qA (qN (qB ?_)))))))
 refine Zj (α := List FRef × Nat × Nat) (fun x => ⟨[(10, iA x.2.2), (9, iA x.2.1), (0, .own q 2 0 n), (1, iA a), (2, iA b), (3, .fn (.func 54) [])], [(q, .rows 46 2 (x.1.map FRef.cells))], [], 141⟩) (fun x => Sw a b l x.1 ∧ a + 1 ≤ x.2.1 ∧ x.2.1 ≤ b ∧ x.2.2 ≤ 5 ∧ SAdj fLt a x.2.1 x.1) (fun x => 5 - x.2.2) (l, a + 1, 0) ⟨.refl, (by (try simp only) <;> omega), (by (try simp only) <;> omega), (by (try simp only) <;> omega), SAdj.refl1 (by (try simp only) <;> omega)⟩ ?_ ?_
 ·exact Zb [0] ⟨rfl, rfl, rfl, rfl, rfl, rfl, trivial⟩ rfl (by decide) rfl rfl
 rintro x hJ
 have hm := hJ.1.len
 refine qS (qS (qR (qM ?_)))
 refine qe eI ?_
 refine qN ?_
 refine Z2 rfl ?_ ?_
 ·intro hc
  have hx5 : x.2.2 < 5 := by simp at hc; omega
  refine qK (qS (qB (qS (qB ?_))))
  refine Zj (α := Nat) (fun u => ⟨[(9, iA u), (10, iA x.2.2), (0, .own q 2 0 n), (1, iA a), (2, iA b), (3, .fn (.func 54) [])], [(q, .rows 46 2 (x.1.map FRef.cells))], [], 141⟩) (fun u => x.2.1 ≤ u ∧ u ≤ b ∧ SAdj fLt a u x.1) (fun u => b - u) x.2.1 ⟨Nat.le_refl _, hJ.2.2.1, hJ.2.2.2.2⟩ ?_ ?_
  ·exact Zb [0] ⟨rfl, rfl, rfl, rfl, rfl, rfl, trivial⟩ rfl (by decide) rfl rfl
  rintro u hJ1
  refine qS (qS ?_)
  refine Zz [0, 0, 3, 7, 15, 15, 15, 111, 239, 15, 15, 1039, 3599, 7695, 16383, 32767, 65535, 131071] 18 rfl (by kernel_rfl) ?_
  refine cM2 (cM2 ?_)
  refine ce eI ?_
  refine cM2 (cTM (cTM (cTM ?_)))
  refine Zc (wT rfl rfl rfl rfl) rfl (fun hg => (Z1 u rfl (Ze hg rfl) (Ze hg rfl) (by (try simp at hg) <;> omega) (by (try simp at hg) <;> omega) (by omega))) ?_
  refine Zq (f := FRef.cells) 0 (wT rfl rfl rfl rfl) rfl rfl (fun hg => (Ze hg rfl)) rfl (fun hg => by (try simp at hg) <;> omega) (fun _ => Z01 rfl) ?_
  refine cTM (cTM ?_)
  refine Zc (wT rfl rfl rfl rfl) rfl (fun hg => (Z9 rfl (Ze hg rfl) rfl (Z0c (by omega)))) ?_
  refine Zc (wT rfl rfl rfl rfl) rfl (fun hg => (Z1 (u - 1) rfl (Ze hg rfl) (Ze hg rfl) (by (try simp at hg) <;> omega) (by (try simp at hg) <;> omega) (by omega))) ?_
  refine Zq (f := FRef.cells) 0 (wT rfl rfl rfl rfl) rfl rfl (fun hg => (Ze hg rfl)) rfl (fun hg => by (try simp at hg) <;> omega) (fun _ => Z01 rfl) ?_
  refine Zc (wT rfl rfl rfl rfl) rfl (fun hg => (Z8 [] rfl (Ze hg rfl) (Zg (Ze hg rfl) (Zg (Ze hg rfl) Z05)) (Z0z _ _) List.nodup_nil)) ?_
  refine Zc (wT rfl rfl rfl rfl) rfl (fun hg => (Zr rfl (Ze hg rfl) rfl rfl)) ?_
  refine Zc (wT rfl rfl rfl rfl) rfl (fun hg => (Z03 rfl (Ze hg rfl))) ?_
  refine ce (Zs rfl rfl rfl (fun h => h)) ?_
  refine .done (qN ?_)
  refine Z2 rfl ?_ ?_
  ·intro hc
   have hle : u < b := by have := Z27 hc; simpa using this
   have hv := Z28 hc
   refine qK (qB (qR (qM ?_)))
   refine qe eP ?_
   refine qA (qN ?_)
   refine ⟨(u + 1), ⟨by omega, by omega, hJ1.2.2.succ (Z1u hv)⟩, (by omega), ?_⟩
   exact qp [0] ⟨rfl, rfl, rfl, rfl, rfl, rfl, trivial⟩
  ·intro hc
   refine qX (qS (qS (qR (qM (qM ?_)))))
   refine qe eI ?_
   refine qN ?_
   refine Z2 rfl ?_ ?_
   ·intro hc
    have heq : u = b := by simp at hc; omega
    refine qS (qR (qA (qN (qE ?_))))
    exact Zf rfl (Z7 rfl Z4) (.cons_cons _ .slnil) (gp (x.1, true) ⟨hJ.1, fun _ => heq ▸ hJ1.2.2⟩ rfl rfl)
   ·intro hc
    have hne : u < b := by simp at hc; omega
    refine qK (qS (qS (qR (qM (qM ?_)))))
    refine qe eL ?_
    refine qe eI ?_
    refine qN ?_
    refine Z2 rfl ?_ ?_
    ·intro hc
     refine qS (qR (qA (qN (qE ?_))))
     exact Zf rfl (Z7 rfl Z4) (.cons_cons _ .slnil) (gp (x.1, false) ⟨hJ.1, nofun⟩ rfl rfl)
    ·intro hc
     refine qK (qS ?_)
     refine Z08 [0, 0, 0, 0, 8, 0, 0, 64, 224, 480, 0, 0, 3072, 7168, 16355, 32739, 65535, 131071] [15, 17] [9, 13] rfl (by kernel_rfl) ?_
     refine wM2 (wM2 (wM2 (wM2 ?_)))
     refine we eL ?_
     refine wM2 (wM2 ?_)
     refine we eL ?_
     refine we (eO (u - 1)) ?_
     refine wLc 0 ?_
     refine wM2 (wM2 ?_)
     refine we (eO u) ?_
     refine wLc 0 ?_
     refine we (eO u) ?_
     refine Zm (f := FRef.cells) 0 (fun _ => rfl) (fun _ => rfl) (w0 rfl) rfl rfl rfl rfl (by first | omega | (simp; omega)) rfl rfl ?_
     refine we (eO (u - 1)) ?_
     refine Zm (f := FRef.cells) 0 (fun _ => rfl) (fun _ => rfl) (w0 rfl) rfl rfl rfl rfl (by first | omega | (simp; omega)) rfl rfl ?_
     refine .done (qS (qS (qR (qM (qM ?_)))))
     refine qe eL ?_
     refine qe eI ?_
     refine qN ?_
     refine Z2 rfl ?_ ?_
     ·intro hc
      have hsw : Sw a b l (swp x.1 u (u - 1)) := .step _ _ hJ.1 (by omega) (by omega) (by omega)
      have hu2 : a + 2 ≤ u := by simp at hc; omega
      have hs0 : SAdj fLt a (u - 1) (swp x.1 u (u - 1)) := (hJ1.2.2.le (by omega)).swp_ge (by omega) (by omega) (by omega) (by omega)
      refine qS (qR (qM ?_))
      refine qe (Zv (y := iA (u - 1 : Nat)) (eL) (congrArg iA (by omega))) ?_
      refine qA (qN (qB ?_))
      refine Zj (α := List FRef × Nat) (fun y => ⟨[(11, iA y.2), (9, iA u), (10, iA x.2.2), (0, .own q 2 0 n), (1, iA a), (2, iA b), (3, .fn (.func 54) [])], [(q, .rows 46 2 (y.1.map FRef.cells))], [], 141⟩) (fun y => Sw a b l y.1 ∧ a ≤ y.2 ∧ y.2 ≤ u - 1 ∧ Ins fLt a y.2 (u - 1) y.1) (fun y => y.2) ((swp x.1 u (u - 1)), u - 1) ⟨hsw, (by (try simp only) <;> omega), (by (try simp only) <;> omega), Ins.start hs0⟩ ?_ ?_
      ·exact Zb [0] ⟨rfl, rfl, rfl, rfl, rfl, rfl, rfl, trivial⟩ rfl (by decide) rfl rfl
      rintro y hJ3
      have hm3 := hJ3.1.len
      refine qS (qS (qR (qM ?_)))
      refine qe eI ?_
      refine qN ?_
      refine Z2 rfl ?_ ?_
      ·intro hc
       have hy1 : 1 ≤ y.2 := by simp at hc; omega
       refine qK (qS (qB (qS (qS ?_))))
       refine Zz [0, 0, 0, 6, 14, 0, 0, 64, 224, 480, 1023, 2047, 4095] 13 rfl (by kernel_rfl) ?_
       refine cM2 (cM2 (cM2 ?_))
       refine ce (Z1 y.2 rfl rfl rfl (by omega) (by omega) (by omega)) ?_
       refine Za 0 (w0 rfl) rfl rfl rfl rfl (Z0g (by omega)) (Z01 rfl) ?_
       refine cM2 (cM2 ?_)
       refine ce eL ?_
       refine ce (eO (y.2 - 1)) ?_
       refine Za 0 (w0 rfl) rfl rfl rfl rfl (Z0g (by omega)) (Z01 rfl) ?_
       refine ce (Z8 [] rfl rfl rfl (Z0z _ _) List.nodup_nil) ?_
       refine ce eI ?_
       refine ce (Z03 rfl rfl) ?_
       refine .done (qN ?_)
       refine Z2 rfl ?_ ?_
       ·intro hc
        have hsw := hJ3.1
        have hsa : SAdj fLt a u y.1 := (hJ3.2.2.2.done (.inr (Z1u hc))).le (by omega)
        refine qX (qS (qR (qM (qM ?_))))
        refine qe eL ?_
        refine qe eI ?_
        refine qN ?_
        refine Z2 rfl ?_ ?_
        ·intro hc
         have hu3 : u + 2 ≤ b := by simp at hc; omega
         refine qS (qR (qM ?_))
         refine qe eP ?_
         refine qA (qN (qB ?_))
         refine Zj (α := List FRef × Nat) (fun w => ⟨[(12, iA w.2), (9, iA u), (10, iA x.2.2), (0, .own q 2 0 n), (1, iA a), (2, iA b), (3, .fn (.func 54) [])], [(q, .rows 46 2 (w.1.map FRef.cells))], [], 141⟩) (fun w => Sw a b l w.1 ∧ u + 1 ≤ w.2 ∧ w.2 ≤ b ∧ SAdj fLt a u w.1) (fun w => b - w.2) (y.1, u + 1) ⟨hsw, (by (try simp only) <;> omega), (by (try simp only) <;> omega), hsa⟩ ?_ ?_
         ·exact Zb [0] ⟨rfl, rfl, rfl, rfl, rfl, rfl, rfl, trivial⟩ rfl (by decide) rfl rfl
         rintro w hJ4
         have hm4 := hJ4.1.len
         refine qS (qS (qR (qM (qM ?_))))
         refine qe eI ?_
         refine qN ?_
         refine Z2 rfl ?_ ?_
         ·intro hc
          have hw1 : w.2 < b := by simpa using hc
          refine qK (qS (qB (qS (qS ?_))))
          refine Zz [0, 0, 0, 6, 14, 0, 0, 64, 224, 480, 1023, 2047, 4095] 13 rfl (by kernel_rfl) ?_
          refine cM2 (cM2 (cM2 ?_))
          refine ce (Z1 w.2 rfl rfl rfl (by omega) (by omega) (by omega)) ?_
          refine Za 0 (w0 rfl) rfl rfl rfl rfl (Z0g (by omega)) (Z01 rfl) ?_
          refine cM2 (cM2 ?_)
          refine ce eL ?_
          refine ce (eO (w.2 - 1)) ?_
          refine Za 0 (w0 rfl) rfl rfl rfl rfl (Z0g (by omega)) (Z01 rfl) ?_
          refine ce (Z8 [] rfl rfl rfl (Z0z _ _) List.nodup_nil) ?_
          refine ce eI ?_
          refine ce (Z03 rfl rfl) ?_
          refine .done (qN ?_)
          refine Z2 rfl ?_ ?_
          ·intro hc
           have hsw := hJ4.1
           have hsa := hJ4.2.2.2
           refine qX (qR (qM ?_))
           refine qe eP ?_
           refine qA (qN ?_)
           refine ⟨(w.1, u, x.2.2 + 1), ⟨hsw, (by (try simp only) <;> omega), (by (try simp only) <;> omega), (by (try simp only) <;> omega), hsa⟩, (by (try simp only) <;> omega), ?_⟩
           exact qp [0] ⟨rfl, rfl, rfl, rfl, rfl, rfl, trivial⟩
          ·intro hc
           refine qK ?_
           refine Z08 [0, 0, 0, 0, 8, 0, 0, 64, 224, 480, 0, 0, 3072, 7168, 16355, 32739, 65535, 131071] [15, 17] [9, 13] rfl (by kernel_rfl) ?_
           refine wM2 (wM2 (wM2 (wM2 ?_)))
           refine we eL ?_
           refine wM2 (wM2 ?_)
           refine we eL ?_
           refine we (eO (w.2 - 1)) ?_
           refine wLc 0 ?_
           refine wM2 (wM2 ?_)
           refine we (Z1 w.2 rfl rfl rfl (by omega) (by omega) (by omega)) ?_
           refine wLc 0 ?_
           refine we (Z1 w.2 rfl rfl rfl (by omega) (by omega) (by omega)) ?_
           refine Zm (f := FRef.cells) 0 (fun _ => rfl) (fun _ => rfl) (w0 rfl) rfl rfl rfl rfl (by first | omega | (simp; omega)) rfl rfl ?_
           refine we (eO (w.2 - 1)) ?_
           refine Zm (f := FRef.cells) 0 (fun _ => rfl) (fun _ => rfl) (w0 rfl) rfl rfl rfl rfl (by first | omega | (simp; omega)) rfl rfl ?_
           refine .done (qR (qM ?_))
           refine qe eP ?_
           refine qA (qN ?_)
           refine ⟨(swp w.1 w.2 (w.2 - 1), w.2 + 1), ⟨.step _ _ hJ4.1 (by (try simp only) <;> omega) (by (try simp only) <;> omega) (by (try simp only) <;> omega), (by (try simp only) <;> omega), (by (try simp only) <;> omega), hJ4.2.2.2.swp_ge (by (try simp only) <;> omega) (by (try simp only) <;> omega) (by (try simp only) <;> omega) (by (try simp only) <;> omega)⟩, (by (try simp only) <;> omega), ?_⟩
           exact qp [0] ⟨rfl, rfl, rfl, rfl, rfl, rfl, rfl, trivial⟩
         ·intro hc
          have hsw := hJ4.1
          have hsa := hJ4.2.2.2
          refine qX (qR (qM ?_))
          refine qe eP ?_
          refine qA (qN ?_)
          refine ⟨(w.1, u, x.2.2 + 1), ⟨hsw, (by (try simp only) <;> omega), (by (try simp only) <;> omega), (by (try simp only) <;> omega), hsa⟩, (by (try simp only) <;> omega), ?_⟩
          exact qp [0] ⟨rfl, rfl, rfl, rfl, rfl, rfl, trivial⟩
        ·intro hc
         refine qK (qR (qM ?_))
         refine qe eP ?_
         refine qA (qN ?_)
         refine ⟨(y.1, u, x.2.2 + 1), ⟨hsw, (by (try simp only) <;> omega), (by (try simp only) <;> omega), (by (try simp only) <;> omega), hsa⟩, (by (try simp only) <;> omega), ?_⟩
         exact qp [0] ⟨rfl, rfl, rfl, rfl, rfl, rfl, trivial⟩
       ·intro hc
        have hlt := Z2c hc
        have hgt := (hbd.sw hJ3.1).gt (j := y.2) (by omega) (by omega) hy1 hlt
        refine qK ?_
        refine Z08 [0, 0, 0, 0, 8, 0, 0, 64, 224, 480, 0, 0, 3072, 7168, 16355, 32739, 65535, 131071] [15, 17] [9, 13] rfl (by kernel_rfl) ?_
        refine wM2 (wM2 (wM2 (wM2 ?_)))
        refine we eL ?_
        refine wM2 (wM2 ?_)
        refine we eL ?_
        refine we (eO (y.2 - 1)) ?_
        refine wLc 0 ?_
        refine wM2 (wM2 ?_)
        refine we (Z1 y.2 rfl rfl rfl (by omega) (by omega) (by omega)) ?_
        refine wLc 0 ?_
        refine we (Z1 y.2 rfl rfl rfl (by omega) (by omega) (by omega)) ?_
        refine Zm (f := FRef.cells) 0 (fun _ => rfl) (fun _ => rfl) (w0 rfl) rfl rfl rfl rfl (by first | omega | (simp; omega)) rfl rfl ?_
        refine we (eO (y.2 - 1)) ?_
        refine Zm (f := FRef.cells) 0 (fun _ => rfl) (fun _ => rfl) (w0 rfl) rfl rfl rfl rfl (by first | omega | (simp; omega)) rfl rfl ?_
        refine .done (qR (qM ?_))
        refine qe eL ?_
        refine qA (qN ?_)
        refine ⟨(swp y.1 y.2 (y.2 - 1), y.2 - 1), ⟨.step _ _ hJ3.1 (by (try simp only) <;> omega) (by (try simp only) <;> omega) (by (try simp only) <;> omega), (by (try simp only) <;> omega), (by (try simp only) <;> omega), hJ3.2.2.2.step fLtT.ok hgt (by (try simp only) <;> omega) (by (try simp only) <;> omega) hlt⟩, (by (try simp only) <;> omega), ?_⟩
        exact qp [0] ⟨(congrArg (fun n => some (iA n)) (by (try simp only) <;> omega)), rfl, rfl, rfl, rfl, rfl, rfl, trivial⟩
      ·intro hc
       have hy0 : y.2 = 0 := by simp at hc; omega
       have hsw := hJ3.1
       have hsa : SAdj fLt a u y.1 := (hJ3.2.2.2.done (.inl (by omega))).le (by omega)
       refine qX (qS (qR (qM (qM ?_))))
       refine qe eL ?_
       refine qe eI ?_
       refine qN ?_
       refine Z2 rfl ?_ ?_
       ·intro hc
        have hu3 : u + 2 ≤ b := by simp at hc; omega
        refine qS (qR (qM ?_))
        refine qe eP ?_
        refine qA (qN (qB ?_))
        refine Zj (α := List FRef × Nat) (fun w => ⟨[(12, iA w.2), (9, iA u), (10, iA x.2.2), (0, .own q 2 0 n), (1, iA a), (2, iA b), (3, .fn (.func 54) [])], [(q, .rows 46 2 (w.1.map FRef.cells))], [], 141⟩) (fun w => Sw a b l w.1 ∧ u + 1 ≤ w.2 ∧ w.2 ≤ b ∧ SAdj fLt a u w.1) (fun w => b - w.2) (y.1, u + 1) ⟨hsw, (by (try simp only) <;> omega), (by (try simp only) <;> omega), hsa⟩ ?_ ?_
        ·exact Zb [0] ⟨rfl, rfl, rfl, rfl, rfl, rfl, rfl, trivial⟩ rfl (by decide) rfl rfl
        rintro w hJ4
        have hm4 := hJ4.1.len
        refine qS (qS (qR (qM (qM ?_))))
        refine qe eI ?_
        refine qN ?_
        refine Z2 rfl ?_ ?_
        ·intro hc
         have hw1 : w.2 < b := by simpa using hc
         refine qK (qS (qB (qS (qS ?_))))
         refine Zz [0, 0, 0, 6, 14, 0, 0, 64, 224, 480, 1023, 2047, 4095] 13 rfl (by kernel_rfl) ?_
         refine cM2 (cM2 (cM2 ?_))
         refine ce (Z1 w.2 rfl rfl rfl (by omega) (by omega) (by omega)) ?_
         refine Za 0 (w0 rfl) rfl rfl rfl rfl (Z0g (by omega)) (Z01 rfl) ?_
         refine cM2 (cM2 ?_)
         refine ce eL ?_
         refine ce (eO (w.2 - 1)) ?_
         refine Za 0 (w0 rfl) rfl rfl rfl rfl (Z0g (by omega)) (Z01 rfl) ?_
         refine ce (Z8 [] rfl rfl rfl (Z0z _ _) List.nodup_nil) ?_
         refine ce eI ?_
         refine ce (Z03 rfl rfl) ?_
         refine .done (qN ?_)
         refine Z2 rfl ?_ ?_
         ·intro hc
          have hsw := hJ4.1
          have hsa := hJ4.2.2.2
          refine qX (qR (qM ?_))
          refine qe eP ?_
          refine qA (qN ?_)
          refine ⟨(w.1, u, x.2.2 + 1), ⟨hsw, (by (try simp only) <;> omega), (by (try simp only) <;> omega), (by (try simp only) <;> omega), hsa⟩, (by (try simp only) <;> omega), ?_⟩
          exact qp [0] ⟨rfl, rfl, rfl, rfl, rfl, rfl, trivial⟩
         ·intro hc
          refine qK ?_
          refine Z08 [0, 0, 0, 0, 8, 0, 0, 64, 224, 480, 0, 0, 3072, 7168, 16355, 32739, 65535, 131071] [15, 17] [9, 13] rfl (by kernel_rfl) ?_
          refine wM2 (wM2 (wM2 (wM2 ?_)))
          refine we eL ?_
          refine wM2 (wM2 ?_)
          refine we eL ?_
          refine we (eO (w.2 - 1)) ?_
          refine wLc 0 ?_
          refine wM2 (wM2 ?_)
          refine we (Z1 w.2 rfl rfl rfl (by omega) (by omega) (by omega)) ?_
          refine wLc 0 ?_
          refine we (Z1 w.2 rfl rfl rfl (by omega) (by omega) (by omega)) ?_
          refine Zm (f := FRef.cells) 0 (fun _ => rfl) (fun _ => rfl) (w0 rfl) rfl rfl rfl rfl (by first | omega | (simp; omega)) rfl rfl ?_
          refine we (eO (w.2 - 1)) ?_
          refine Zm (f := FRef.cells) 0 (fun _ => rfl) (fun _ => rfl) (w0 rfl) rfl rfl rfl rfl (by first | omega | (simp; omega)) rfl rfl ?_
          refine .done (qR (qM ?_))
          refine qe eP ?_
          refine qA (qN ?_)
          refine ⟨(swp w.1 w.2 (w.2 - 1), w.2 + 1), ⟨.step _ _ hJ4.1 (by (try simp only) <;> omega) (by (try simp only) <;> omega) (by (try simp only) <;> omega), (by (try simp only) <;> omega), (by (try simp only) <;> omega), hJ4.2.2.2.swp_ge (by (try simp only) <;> omega) (by (try simp only) <;> omega) (by (try simp only) <;> omega) (by (try simp only) <;> omega)⟩, (by (try simp only) <;> omega), ?_⟩
          exact qp [0] ⟨rfl, rfl, rfl, rfl, rfl, rfl, rfl, trivial⟩
        ·intro hc
         have hsw := hJ4.1
         have hsa := hJ4.2.2.2
         refine qX (qR (qM ?_))
         refine qe eP ?_
         refine qA (qN ?_)
         refine ⟨(w.1, u, x.2.2 + 1), ⟨hsw, (by (try simp only) <;> omega), (by (try simp only) <;> omega), (by (try simp only) <;> omega), hsa⟩, (by (try simp only) <;> omega), ?_⟩
         exact qp [0] ⟨rfl, rfl, rfl, rfl, rfl, rfl, trivial⟩
       ·intro hc
        refine qK (qR (qM ?_))
        refine qe eP ?_
        refine qA (qN ?_)
        refine ⟨(y.1, u, x.2.2 + 1), ⟨hsw, (by (try simp only) <;> omega), (by (try simp only) <;> omega), (by (try simp only) <;> omega), hsa⟩, (by (try simp only) <;> omega), ?_⟩
        exact qp [0] ⟨rfl, rfl, rfl, rfl, rfl, rfl, trivial⟩
     ·intro hc
      have hsw : Sw a b l (swp x.1 u (u - 1)) := .step _ _ hJ.1 (by omega) (by omega) (by omega)
      have hu2 : u = a + 1 := by simp at hc; omega
      have hsa : SAdj fLt a u (swp x.1 u (u - 1)) := SAdj.refl1 (by omega)
      refine qK (qS (qR (qM (qM ?_))))
      refine qe eL ?_
      refine qe eI ?_
      refine qN ?_
      refine Z2 rfl ?_ ?_
      ·intro hc
       have hu3 : u + 2 ≤ b := by simp at hc; omega
       refine qS (qR (qM ?_))
       refine qe eP ?_
       refine qA (qN (qB ?_))
       refine Zj (α := List FRef × Nat) (fun w => ⟨[(12, iA w.2), (9, iA u), (10, iA x.2.2), (0, .own q 2 0 n), (1, iA a), (2, iA b), (3, .fn (.func 54) [])], [(q, .rows 46 2 (w.1.map FRef.cells))], [], 141⟩) (fun w => Sw a b l w.1 ∧ u + 1 ≤ w.2 ∧ w.2 ≤ b ∧ SAdj fLt a u w.1) (fun w => b - w.2) ((swp x.1 u (u - 1)), u + 1) ⟨hsw, (by (try simp only) <;> omega), (by (try simp only) <;> omega), hsa⟩ ?_ ?_
       ·exact Zb [0] ⟨rfl, rfl, rfl, rfl, rfl, rfl, rfl, trivial⟩ rfl (by decide) rfl rfl
       rintro w hJ4
       have hm4 := hJ4.1.len
       refine qS (qS (qR (qM (qM ?_))))
       refine qe eI ?_
       refine qN ?_
       refine Z2 rfl ?_ ?_
       ·intro hc
        have hw1 : w.2 < b := by simpa using hc
        refine qK (qS (qB (qS (qS ?_))))
        refine Zz [0, 0, 0, 6, 14, 0, 0, 64, 224, 480, 1023, 2047, 4095] 13 rfl (by kernel_rfl) ?_
        refine cM2 (cM2 (cM2 ?_))
        refine ce (Z1 w.2 rfl rfl rfl (by omega) (by omega) (by omega)) ?_
        refine Za 0 (w0 rfl) rfl rfl rfl rfl (Z0g (by omega)) (Z01 rfl) ?_
        refine cM2 (cM2 ?_)
        refine ce eL ?_
        refine ce (eO (w.2 - 1)) ?_
        refine Za 0 (w0 rfl) rfl rfl rfl rfl (Z0g (by omega)) (Z01 rfl) ?_
        refine ce (Z8 [] rfl rfl rfl (Z0z _ _) List.nodup_nil) ?_
        refine ce eI ?_
        refine ce (Z03 rfl rfl) ?_
        refine .done (qN ?_)
        refine Z2 rfl ?_ ?_
        ·intro hc
         have hsw := hJ4.1
         have hsa := hJ4.2.2.2
         refine qX (qR (qM ?_))
         refine qe eP ?_
         refine qA (qN ?_)
         refine ⟨(w.1, u, x.2.2 + 1), ⟨hsw, (by (try simp only) <;> omega), (by (try simp only) <;> omega), (by (try simp only) <;> omega), hsa⟩, (by (try simp only) <;> omega), ?_⟩
         exact qp [0] ⟨rfl, rfl, rfl, rfl, rfl, rfl, trivial⟩
        ·intro hc
         refine qK ?_
         refine Z08 [0, 0, 0, 0, 8, 0, 0, 64, 224, 480, 0, 0, 3072, 7168, 16355, 32739, 65535, 131071] [15, 17] [9, 13] rfl (by kernel_rfl) ?_
         refine wM2 (wM2 (wM2 (wM2 ?_)))
         refine we eL ?_
         refine wM2 (wM2 ?_)
         refine we eL ?_
         refine we (eO (w.2 - 1)) ?_
         refine wLc 0 ?_
         refine wM2 (wM2 ?_)
         refine we (Z1 w.2 rfl rfl rfl (by omega) (by omega) (by omega)) ?_
         refine wLc 0 ?_
         refine we (Z1 w.2 rfl rfl rfl (by omega) (by omega) (by omega)) ?_
         refine Zm (f := FRef.cells) 0 (fun _ => rfl) (fun _ => rfl) (w0 rfl) rfl rfl rfl rfl (by first | omega | (simp; omega)) rfl rfl ?_
         refine we (eO (w.2 - 1)) ?_
         refine Zm (f := FRef.cells) 0 (fun _ => rfl) (fun _ => rfl) (w0 rfl) rfl rfl rfl rfl (by first | omega | (simp; omega)) rfl rfl ?_
         refine .done (qR (qM ?_))
         refine qe eP ?_
         refine qA (qN ?_)
         refine ⟨(swp w.1 w.2 (w.2 - 1), w.2 + 1), ⟨.step _ _ hJ4.1 (by (try simp only) <;> omega) (by (try simp only) <;> omega) (by (try simp only) <;> omega), (by (try simp only) <;> omega), (by (try simp only) <;> omega), hJ4.2.2.2.swp_ge (by (try simp only) <;> omega) (by (try simp only) <;> omega) (by (try simp only) <;> omega) (by (try simp only) <;> omega)⟩, (by (try simp only) <;> omega), ?_⟩
         exact qp [0] ⟨rfl, rfl, rfl, rfl, rfl, rfl, rfl, trivial⟩
       ·intro hc
        have hsw := hJ4.1
        have hsa := hJ4.2.2.2
        refine qX (qR (qM ?_))
        refine qe eP ?_
        refine qA (qN ?_)
        refine ⟨(w.1, u, x.2.2 + 1), ⟨hsw, (by (try simp only) <;> omega), (by (try simp only) <;> omega), (by (try simp only) <;> omega), hsa⟩, (by (try simp only) <;> omega), ?_⟩
        exact qp [0] ⟨rfl, rfl, rfl, rfl, rfl, rfl, trivial⟩
      ·intro hc
       refine qK (qR (qM ?_))
       refine qe eP ?_
       refine qA (qN ?_)
       refine ⟨((swp x.1 u (u - 1)), u, x.2.2 + 1), ⟨hsw, (by (try simp only) <;> omega), (by (try simp only) <;> omega), (by (try simp only) <;> omega), hsa⟩, (by (try simp only) <;> omega), ?_⟩
       exact qp [0] ⟨rfl, rfl, rfl, rfl, rfl, rfl, trivial⟩
 ·intro hc
  refine qX (qS (qR (qA (qN (qE ?_)))))
  exact Zf rfl (Z7 rfl Z4) (.cons_cons _ .slnil) (gp (x.1, false) ⟨hJ.1, nofun⟩ rfl rfl)
theorem Zdb (q n : Nat) (l : List FRef) (hn : l.length = n) (hN : n ≤ 140737488355328) (a b : Nat) (hab : a + 12 < b) (hb : b ≤ n) : ACalls Tryz.prog 152 [.own q 2 0 n, iA a, iA b, .fn (.func 54) []] [(q, .rows 46 2 (l.map FRef.cells))] (GP (fun _ : List FRef => mkRes []) (fun m => [(q, .rows 46 2 (m.map FRef.cells))]) (fun m => Sw a b l m)) := by
 refine Zd (n := 67) Tryz.func152 rfl (by decide +kernel) rfl rfl ?_
 refine qS (qR (qM (qM ?_)))
 refine qe (Zv (y := iA (b - a : Nat)) (eL) (congrArg iA (by omega))) ?_
 refine qA (qN (qS (qR (qM ?_))))
 refine qe eI ?_
 refine qN ?_
 refine Z2 rfl ?_ ?_
 ·intro hc
  refine qS (qR (qM ?_))
  refine qe (Z0i rfl rfl) ?_
  refine Zy (w0 rfl) rfl (fun id => Z0b id rfl rfl rfl) (fun id1 => ?_)
  refine Zw 0 (w0 rfl) rfl rfl rfl rfl rfl rfl rfl rfl rfl ?_
  refine qN (qS (qR (qM ?_)))
  refine Z23 (w0 rfl) rfl rfl rfl rfl (Z5n (b - a) (by omega) (by omega)) (fun v2 hv2 => ?_)
  refine qA (qN (qS (qR (qM (qM ?_)))))
  refine qe (Zv (y := iA ((b - a) / 4 : Nat)) (Z0r rfl rfl rfl (by decide) (Z0l (b - a) 4 (by omega))) (congrArg iA (Z1p (b - a) 4))) ?_
  refine qe (Z9 rfl rfl rfl (Z1c (by omega))) ?_
  refine qe eP ?_
  refine qe (Zv (y := iA (a + (b - a) / 4 * 2 - 1 : Nat)) (eL) (congrArg iA (by omega))) ?_
  refine qA (qN (qB ?_))
  refine Zj (α := List FRef × Nat × Int) (fun x => ⟨[(11, iA x.2.1), (8, iA (b - a : Nat)), (9, .ptr id1 1 0 0), (10, xA v2), (0, .own q 2 0 n), (1, iA a), (3, .fn (.func 54) [])], [(q, .rows 46 2 (x.1.map FRef.cells)), (id1, .rows 186 1 [[xA x.2.2]])], [], 67⟩) (fun x => Sw a b l x.1 ∧ a ≤ x.2.1) (fun x => a + (b - a) / 4 * 2 + 2 - x.2.1) (l, a + (b - a) / 4 * 2 - 1, IntKind.u64.wrap (b - a : Nat)) ⟨.refl, (by (try simp only) <;> omega)⟩ ?_ ?_
  ·exact Zb [1, 0] ⟨rfl, rfl, rfl, rfl, rfl, rfl, rfl, trivial⟩ rfl (by decide) rfl rfl
  rintro x hJ
  have hm := hJ.1.len
  refine qS (qS (qR (qM (qM (qM ?_)))))
  refine qe (Zv (y := iA ((b - a : Nat) / 4 : Nat)) (Z0r rfl rfl rfl (by decide) (Z0l (b - a : Nat) 4 (by omega))) (congrArg iA (Z1p (b - a : Nat) 4))) ?_
  refine qe (Z9 rfl rfl rfl (Z1c (by omega))) ?_
  refine qe eP ?_
  refine qe (Zv (y := iA (a + (b - a) / 4 * 2 + 1 : Nat)) (eP) (congrArg iA (by omega))) ?_
  refine qe eI ?_
  refine qN ?_
  refine Z2 rfl ?_ ?_
  ·intro hc
   have hx : x.2.1 ≤ a + (b - a) / 4 * 2 + 1 := by simp at hc; omega
   refine qK (qS (qB (qS (qR ?_))))
   refine Z5 [_] _ (w0 rfl) rfl rfl rfl rfl (Zk (k := 1) rfl) (Z8r _ _) (fun v3 hv3 => ?_)
   refine qM ?_
   refine qe (Z9 rfl rfl rfl rfl) ?_
   refine qe (Z3r rfl (by simp) rfl rfl) ?_
   refine qe (Z0i rfl rfl) ?_
   refine qA (qN (qS (qS ?_)))
   refine Z6t 12 rfl (fun ot hot => ?_)
   have ho := Zb4 (v := v3) (m := v2) hv2.1 (by omega)
   rw [← hot] at ho
   refine qR (qM (qM ?_))
   refine qe eI ?_
   refine qN ?_
   refine Z2 rfl ?_ ?_
   ·intro hc
    have hge : ((b - a : Nat) : Int) ≤ ot := by simpa using hc
    refine qR (qM (qM ?_))
    refine qe eL ?_
    refine qA (qN ?_)
    refine Z2j 12 rfl (show _ = (((ot - (b - a : Nat)).toNat : Nat) : Int) by omega) ?_
    refine Z08 [0, 0, 0, 0, 0, 24, 0, 0, 0, 384, 960, 1984, 0, 0, 12288, 28672, 65475, 131011, 262143, 524287] [17, 19] [11, 15] rfl (by kernel_rfl) ?_
    refine wM2 (wM2 (wM2 (wM2 (wM2 ?_))))
    refine we eP ?_
    refine wM2 (wM2 (wM2 ?_))
    refine we eP ?_
    refine we (eO (a + (ot - (b - a : Nat)).toNat)) ?_
    refine wLc 1 ?_
    refine wM2 (wM2 ?_)
    refine we (Z1 x.2.1 rfl rfl rfl (by omega) (by omega) (by omega)) ?_
    refine wLc 1 ?_
    refine we (Z1 x.2.1 rfl rfl rfl (by omega) (by omega) (by omega)) ?_
    refine Zm (f := FRef.cells) 1 (fun _ => rfl) (fun _ => rfl) (w0 rfl) rfl rfl rfl rfl (by first | omega | (simp; omega)) rfl rfl ?_
    refine we (eO (a + (ot - (b - a : Nat)).toNat)) ?_
    refine Zm (f := FRef.cells) 1 (fun _ => rfl) (fun _ => rfl) (w0 rfl) rfl rfl rfl rfl (by first | omega | (simp; omega)) rfl rfl ?_
    refine .done (qR (qM ?_))
    refine qe eP ?_
    refine qA (qN ?_)
    refine ⟨(swp x.1 x.2.1 (a + (ot - (b - a : Nat)).toNat), x.2.1 + 1, v3), ⟨.step _ _ hJ.1 (by (try simp only) <;> omega) (by (try simp only) <;> omega) (by (try simp only) <;> omega), (by (try simp only) <;> omega)⟩, (by (try simp only) <;> omega), ?_⟩
    exact qp [1, 0] ⟨rfl, rfl, rfl, rfl, rfl, rfl, rfl, trivial⟩
   ·intro hc
    have hlt : ot < ((b - a : Nat) : Int) := by simpa using hc
    refine qK ?_
    refine Z2j 12 rfl (show _ = ((ot.toNat : Nat) : Int) by omega) ?_
    refine Z08 [0, 0, 0, 0, 0, 24, 0, 0, 0, 384, 960, 1984, 0, 0, 12288, 28672, 65475, 131011, 262143, 524287] [17, 19] [11, 15] rfl (by kernel_rfl) ?_
    refine wM2 (wM2 (wM2 (wM2 (wM2 ?_))))
    refine we eP ?_
    refine wM2 (wM2 (wM2 ?_))
    refine we eP ?_
    refine we (eO (a + ot.toNat)) ?_
    refine wLc 1 ?_
    refine wM2 (wM2 ?_)
    refine we (Z1 x.2.1 rfl rfl rfl (by omega) (by omega) (by omega)) ?_
    refine wLc 1 ?_
    refine we (Z1 x.2.1 rfl rfl rfl (by omega) (by omega) (by omega)) ?_
    refine Zm (f := FRef.cells) 1 (fun _ => rfl) (fun _ => rfl) (w0 rfl) rfl rfl rfl rfl (by first | omega | (simp; omega)) rfl rfl ?_
    refine we (eO (a + ot.toNat)) ?_
    refine Zm (f := FRef.cells) 1 (fun _ => rfl) (fun _ => rfl) (w0 rfl) rfl rfl rfl rfl (by first | omega | (simp; omega)) rfl rfl ?_
    refine .done (qR (qM ?_))
    refine qe eP ?_
    refine qA (qN ?_)
    refine ⟨(swp x.1 x.2.1 (a + ot.toNat), x.2.1 + 1, v3), ⟨.step _ _ hJ.1 (by (try simp only) <;> omega) (by (try simp only) <;> omega) (by (try simp only) <;> omega), (by (try simp only) <;> omega)⟩, (by (try simp only) <;> omega), ?_⟩
    exact qp [1, 0] ⟨rfl, rfl, rfl, rfl, rfl, rfl, rfl, trivial⟩
  ·intro hc
   refine qX ?_
   exact Zf rfl Z4 (.cons_cons _ (.cons _ .slnil)) (gp x.1 hJ.1 rfl rfl)
 ·intro hc
  exfalso; simp at hc; omega
set_option maxHeartbeats 1000000 in
theorem Zgi (q n : Nat) (hN : n ≤ 140737488355328) (k : Nat) : ∀ (l : List FRef) (hn : l.length = n) (a b : Nat) (lim : Int) (hk : b - a ≤ k) (ha : a ≤ b) (hb : b ≤ n) (hbd : Bd fLt a b l), ACalls Tryz.prog 127 [.own q 2 0 n, iA a, iA b, iA lim, .fn (.func 54) []] [(q, .rows 46 2 (l.map FRef.cells))] (GP (fun _ : List FRef => mkRes []) (fun m => [(q, .rows 46 2 (m.map FRef.cells))]) (fun m => Sw a b l m ∧ SOn fLt a b m)) := by
 induction k using Nat.strongRecOn with
 | _ k ih =>
 intro l hn a b lim hk ha hb hbd
 refine Zd (n := 148) Tryz.func127 rfl (by decide +kernel) rfl rfl ?_
 refine qS (qR (qA (qN (qS (qR (qA (qN (qB ?_))))))))
 refine Zj (α := List FRef × Nat × Nat × Int × Bool × Bool) (fun x => ⟨[(10, bA x.2.2.2.2.1), (11, bA x.2.2.2.2.2), (0, .own q 2 0 n), (1, iA x.2.1), (2, iA x.2.2.1), (3, iA x.2.2.2.1), (4, .fn (.func 54) [])], [(q, .rows 46 2 (x.1.map FRef.cells))], [], 148⟩) (fun x => Rest fLt a b l x.2.1 x.2.2.1 x.1) (fun x => x.2.2.1 - x.2.1) (l, a, b, lim, true, true) (Rest.start ha hbd) ?_ ?_
 ·exact Zb [0] ⟨rfl, rfl, rfl, rfl, rfl, rfl, rfl, trivial⟩ rfl (by decide) rfl rfl
 rintro x hJ
 have hm := hJ.sw.len
 have hA := hJ.ha
 have hB := hJ.hb
 have hAB := hJ.hab
 refine qB (qS (qR (qM (qM ?_))))
 refine qe (Zv (y := iA (x.2.2.1 - x.2.1 : Nat)) (eL) (congrArg iA (by omega))) ?_
 refine qA (qN (qS (qS (qR (qM ?_)))))
 refine qe eI ?_
 refine qN ?_
 refine Z2 rfl ?_ ?_
 ·intro hc
  refine qS (qR (qM (qM (qM (qM ?_)))))
  refine Z5 [_] _ (w0 rfl) rfl rfl rfl rfl (Zk (k := 0) rfl) (Zag q n x.1 (by omega) hN x.2.1 x.2.2.1 hAB (by omega)) (fun v1 hv1 => ?_)
  refine qN (qE ?_)
  exact Zf rfl Z4 (.cons_cons _ .slnil) (gp v1 ⟨hJ.sw.trans (hv1.1.mono hA hB (by omega)), hJ.fin _ hv1.1 (hv1.2.on fLtT.ok)⟩ rfl rfl)
 ·intro hc
  have hlen : 12 < x.2.2.1 - x.2.1 := by simp at hc; omega
  refine qK (qS (qS (qR (qM ?_))))
  refine qe eI ?_
  refine qN ?_
  refine Z2 rfl ?_ ?_
  ·intro hc
   refine qS (qR (qM (qM (qM (qM ?_)))))
   refine Z5 [_] _ (w0 rfl) rfl rfl rfl rfl (Zk (k := 0) rfl) (Z8l q n x.1 (by omega) hN x.2.1 x.2.2.1 hAB (by omega)) (fun v2 hv2 => ?_)
   refine qN (qE ?_)
   exact Zf rfl Z4 (.cons_cons _ .slnil) (gp v2 ⟨hJ.sw.trans (hv2.1.mono hA hB (by omega)), hJ.fin _ hv2.1 hv2.2⟩ rfl rfl)
  ·intro hc
   refine qK (qS (qS (qR (qM ?_))))
   refine qe (Z03 rfl rfl) ?_
   refine qN ?_
   refine Z2 rfl ?_ ?_
   ·intro hc
    refine qS (qR (qM (qM (qM (qM ?_)))))
    refine Z5 [_] _ (w0 rfl) rfl rfl rfl rfl (Zk (k := 0) rfl) (Zdb q n x.1 (by omega) hN x.2.1 x.2.2.1 (by omega) (by omega)) (fun v3 hv3 => ?_)
    have hJ1 := hJ.move (by omega) hv3
    refine qN (qR (qM ?_))
    refine qe (Z9 rfl rfl rfl rfl) ?_
    refine qA (qN (qS (qR (qM (qM (qM (qM ?_)))))))
    refine Z5 [_] _ (w0 rfl) rfl rfl rfl rfl (Zk (k := 0) rfl) (Z9h q n _ (by have := hJ1.sw.len; omega) hN x.2.1 x.2.2.1 (by omega) (by omega)) (fun v4 hv4 => ?_)
    refine qM ?_
    refine qe (Zi rfl rfl rfl) ?_
    refine qe (Zi rfl rfl rfl) ?_
    refine qA (qA (qN (qS (qS ?_))))
    refine Z0h 13 rfl (fun pv hpv => ?_)
    have hp : x.2.1 ≤ pv ∧ pv < x.2.2.1 := by rw [hpv]; exact hv4
    refine qR (qM ?_)
    refine qe eI ?_
    refine qN ?_
    refine Z2 rfl ?_ ?_
    ·intro hc
     refine qS (qR (qM (qM (qM (qM ?_)))))
     refine Z5 [_] _ (w0 rfl) rfl rfl rfl rfl (Zk (k := 0) rfl) (Zex q n _ (by have := hJ1.sw.len; omega) hN x.2.1 x.2.2.1 (by omega) (by omega)) (fun v5 hv5 => ?_)
     have hJ2 := hJ1.move (by omega) hv5
     refine qN (qS (qR (qM ?_)))
     refine qe eL ?_
     refine qM (qM ?_)
     refine qe eL ?_
     refine qe (Zv (y := iA (x.2.2.1 - 1 - (pv - x.2.1) : Nat)) (eL) (congrArg iA (by omega))) ?_
     refine qA (qN (qR (qA (qN (qS (qS ?_))))))
     refine Z0h 13 rfl (fun p2 hp2 => ?_)
     have hp2' : x.2.1 ≤ p2 ∧ p2 < x.2.2.1 := by omega
     refine qR (qM (qM (qTM ?_)))
     refine qe (Zs rfl rfl rfl (fun h => h)) ?_
     refine qM (qTM ?_)
     refine Zp (wT rfl rfl rfl rfl) rfl (fun hg => (Zr rfl (Ze hg rfl) rfl rfl)) ?_
     refine qe (Zs rfl rfl rfl (fun h => h)) ?_
     refine qN ?_
     refine Z2 rfl ?_ ?_
     ·intro hc
      refine qS (qR (qM (qM (qM (qM ?_)))))
      refine Z5 [_] _ (w0 rfl) rfl rfl rfl rfl (Zk (k := 0) rfl) (Z3o q n _ (by have := hJ2.sw.len; omega) hN x.2.1 x.2.2.1 (by omega) (by omega) hJ2.bd) (fun v6 hv6 => ?_)
      have hJ3 := hJ2.move (by omega) hv6.1
      refine qN ?_
      refine Z2 rfl ?_ ?_
      ·intro hc
       refine qE ?_
       exact Zf rfl Z4 (.cons_cons _ .slnil) (gp v6.1 ⟨hJ3.sw, hJ2.fin _ hv6.1 ((hv6.2 hc).on fLtT.ok)⟩ rfl rfl)
      ·intro hc
       have hl3 := hJ3.sw.len
       refine qK (qS (qS ?_))
       refine Zz [0, 1, 3, 7, 7, 7, 39, 119, 247, 7, 7, 1543, 3591, 8191, 16383, 32767, 65535] 17 rfl (by kernel_rfl) ?_
       refine cM2 ?_
       refine ce eI ?_
       refine cM2 (cTM (cTM (cTM ?_)))
       refine Zc (wT rfl rfl rfl rfl) rfl (fun hg => (Z9 rfl (Ze hg rfl) rfl (Z0c (by omega)))) ?_
       refine Zc (wT rfl rfl rfl rfl) rfl (fun hg => (Z1 (x.2.1 - 1) rfl (Ze hg rfl) (Ze hg rfl) (by (try simp at hg) <;> omega) (by (try simp at hg) <;> omega) (by omega))) ?_
       refine Zq (f := FRef.cells) 0 (wT rfl rfl rfl rfl) rfl rfl (fun hg => (Ze hg rfl)) rfl (fun hg => by (try simp at hg) <;> omega) (fun _ => Z01 rfl) ?_
       refine cTM (cTM ?_)
       refine Zc (wT rfl rfl rfl rfl) rfl (fun hg => (Z1 p2 rfl (Ze hg rfl) (Ze hg rfl) (by (try simp at hg) <;> omega) (by (try simp at hg) <;> omega) (by omega))) ?_
       refine Zq (f := FRef.cells) 0 (wT rfl rfl rfl rfl) rfl rfl (fun hg => (Ze hg rfl)) rfl (fun hg => by (try simp at hg) <;> omega) (fun _ => Z01 rfl) ?_
       refine Zc (wT rfl rfl rfl rfl) rfl (fun hg => (Z8 [] rfl (Ze hg rfl) (Zg (Ze hg rfl) (Zg (Ze hg rfl) Z05)) (Z0z _ _) List.nodup_nil)) ?_
       refine Zc (wT rfl rfl rfl rfl) rfl (fun hg => (Zr rfl (Ze hg rfl) rfl rfl)) ?_
       refine Zc (wT rfl rfl rfl rfl) rfl (fun hg => (Z03 rfl (Ze hg rfl))) ?_
       refine ce (Zs rfl rfl rfl (fun h => h)) ?_
       refine .done (qN ?_)
       refine Z2 rfl ?_ ?_
       ·intro hc
        have ha0 : 0 < x.2.1 := by have := Z27 hc; simpa using this
        have hpe := Z1u (Z28 hc)
        refine qS (qR (qM (qM (qM (qM (qM ?_))))))
        refine Z5 [_] _ (w0 rfl) rfl rfl rfl rfl (Zk (k := 0) rfl) (Z2r q n _ (by omega) hN x.2.1 x.2.2.1 p2 hp2'.1 hp2'.2 (by omega)) (fun v7 hv7 => ?_)
        refine qA (qN (qS (qR (qM (qA (qN (qX ?_)))))))
        refine ⟨(v7.1, v7.2, x.2.2.1, IntKind.i64.wrap (x.2.2.2.1 - 1), x.2.2.2.2.1, x.2.2.2.2.2), (by obtain ⟨j, e, he⟩ := hv7.2.2.2.2; exact (hJ3.move (by omega) hv7.1).equal fLtT.ok (by omega) ha0 (by rw [hv7.1.out (.inl (by omega)), hv7.2.2.2.1]; exact hpe) he e hv7.2.1 hv7.2.2.1), (by (try simp only) <;> (have := hv7.2.1; omega)), ?_⟩
        exact qp [0] ⟨rfl, rfl, rfl, rfl, rfl, rfl, rfl, trivial⟩
       ·intro hc
        refine qK (qS (qR (qM (qM (qM (qM (qM ?_)))))))
        refine Z5 [_] _ (w0 rfl) rfl rfl rfl rfl (Zk (k := 0) rfl) (Z3a q n _ (by omega) hN x.2.1 x.2.2.1 p2 hp2'.1 hp2'.2 (by omega)) (fun v8 hv8 => ?_)
        refine qM ?_
        refine qe (Zi rfl rfl rfl) ?_
        refine qe (Zi rfl rfl rfl) ?_
        refine qA (qA (qN (qS (qR (qM (qA (qN (qS ?_))))))))
        have hJ4 := hJ3.move (by omega) hv8.1
        have hl4 := hJ4.sw.len
        have hmid : x.2.1 ≤ v8.2.1 ∧ v8.2.1 < x.2.2.1 := ⟨hv8.2.1, hv8.2.2.1⟩
        refine qR (qM (qM ?_))
        refine qe eL ?_
        refine qM (qM ?_)
        refine qe eL ?_
        refine qA (qA (qN (qS (qR (qM ?_)))))
        refine qe (Zv (y := iA ((x.2.2.1 - x.2.1) / 8 : Nat)) (Z0r rfl rfl rfl (by decide) (Z0l (x.2.2.1 - x.2.1) 8 (by omega))) (congrArg iA (Z1p (x.2.2.1 - x.2.1) 8))) ?_
        refine qA (qN (qS (qR (qM (qM ?_)))))
        refine qe eI ?_
        refine qN ?_
        refine Z2 rfl ?_ ?_
        ·intro hc
         refine qS (qR (qM (qM ?_)))
         refine qe eI ?_
         refine qA (qN (qS ?_))
         refine Z0f 10 rfl (fun wb hwb => ?_)
         refine qR (qM (qM (qM (qM (qM ?_)))))
         refine Z5 [_] _ (w0 rfl) rfl rfl rfl rfl (Zk (k := 0) rfl) (ih (v8.2.1 - x.2.1) (by omega) _ (by omega) x.2.1 v8.2.1 _ (Nat.le_refl _) (by omega) (by omega) (hJ4.bd.le (by omega))) (fun v9 hv9 => ?_)
         refine qN (qR (qM ?_))
         refine qe eP ?_
         refine qA (qN ?_)
         refine ⟨(v9, v8.2.1 + 1, x.2.2.1, IntKind.i64.wrap (x.2.2.2.1 - 1), wb, v8.2.2), (hJ4.lower fLtT.ok (by omega) hmid hv8.2.2.2 hv9.1 hv9.2), (by (try simp only) <;> omega), ?_⟩
         exact qp [0] ⟨rfl, rfl, rfl, rfl, rfl, rfl, rfl, trivial⟩
        ·intro hc
         refine qS (qR (qM (qM ?_)))
         refine qe eI ?_
         refine qA (qN (qS ?_))
         refine Z0f 10 rfl (fun wb hwb => ?_)
         refine qR (qM (qM ?_))
         refine qe eP ?_
         refine qM (qM (qM ?_))
         refine Z5 [_] _ (w0 rfl) rfl rfl rfl rfl (Zk (k := 0) rfl) (ih (x.2.2.1 - (v8.2.1 + 1)) (by omega) _ (by omega) (v8.2.1 + 1) x.2.2.1 _ (Nat.le_refl _) (by omega) (by omega) hv8.2.2.2.bd) (fun v10 hv10 => ?_)
         refine qN (qR (qM (qA (qN ?_))))
         refine ⟨(v10, x.2.1, v8.2.1, IntKind.i64.wrap (x.2.2.2.1 - 1), wb, v8.2.2), (hJ4.upper fLtT.ok (by omega) hmid hv8.2.2.2 hv10.1 hv10.2), (by (try simp only) <;> omega), ?_⟩
         exact qp [0] ⟨rfl, rfl, rfl, rfl, rfl, rfl, rfl, trivial⟩
     ·intro hc
      have hJ3 := hJ2
      have hl3 := hJ3.sw.len
      refine qK (qS (qS ?_))
      refine Zz [0, 1, 3, 7, 7, 7, 39, 119, 247, 7, 7, 1543, 3591, 8191, 16383, 32767, 65535] 17 rfl (by kernel_rfl) ?_
      refine cM2 ?_
      refine ce eI ?_
      refine cM2 (cTM (cTM (cTM ?_)))
      refine Zc (wT rfl rfl rfl rfl) rfl (fun hg => (Z9 rfl (Ze hg rfl) rfl (Z0c (by omega)))) ?_
      refine Zc (wT rfl rfl rfl rfl) rfl (fun hg => (Z1 (x.2.1 - 1) rfl (Ze hg rfl) (Ze hg rfl) (by (try simp at hg) <;> omega) (by (try simp at hg) <;> omega) (by omega))) ?_
      refine Zq (f := FRef.cells) 0 (wT rfl rfl rfl rfl) rfl rfl (fun hg => (Ze hg rfl)) rfl (fun hg => by (try simp at hg) <;> omega) (fun _ => Z01 rfl) ?_
      refine cTM (cTM ?_)
      refine Zc (wT rfl rfl rfl rfl) rfl (fun hg => (Z1 p2 rfl (Ze hg rfl) (Ze hg rfl) (by (try simp at hg) <;> omega) (by (try simp at hg) <;> omega) (by omega))) ?_
      refine Zq (f := FRef.cells) 0 (wT rfl rfl rfl rfl) rfl rfl (fun hg => (Ze hg rfl)) rfl (fun hg => by (try simp at hg) <;> omega) (fun _ => Z01 rfl) ?_
      refine Zc (wT rfl rfl rfl rfl) rfl (fun hg => (Z8 [] rfl (Ze hg rfl) (Zg (Ze hg rfl) (Zg (Ze hg rfl) Z05)) (Z0z _ _) List.nodup_nil)) ?_
      refine Zc (wT rfl rfl rfl rfl) rfl (fun hg => (Zr rfl (Ze hg rfl) rfl rfl)) ?_
      refine Zc (wT rfl rfl rfl rfl) rfl (fun hg => (Z03 rfl (Ze hg rfl))) ?_
      refine ce (Zs rfl rfl rfl (fun h => h)) ?_
      refine .done (qN ?_)
      refine Z2 rfl ?_ ?_
      ·intro hc
       have ha0 : 0 < x.2.1 := by have := Z27 hc; simpa using this
       have hpe := Z1u (Z28 hc)
       refine qS (qR (qM (qM (qM (qM (qM ?_))))))
       refine Z5 [_] _ (w0 rfl) rfl rfl rfl rfl (Zk (k := 0) rfl) (Z2r q n _ (by omega) hN x.2.1 x.2.2.1 p2 hp2'.1 hp2'.2 (by omega)) (fun v11 hv11 => ?_)
       refine qA (qN (qS (qR (qM (qA (qN (qX ?_)))))))
       refine ⟨(v11.1, v11.2, x.2.2.1, IntKind.i64.wrap (x.2.2.2.1 - 1), x.2.2.2.2.1, x.2.2.2.2.2), (by obtain ⟨j, e, he⟩ := hv11.2.2.2.2; exact (hJ3.move (by omega) hv11.1).equal fLtT.ok (by omega) ha0 (by rw [hv11.1.out (.inl (by omega)), hv11.2.2.2.1]; exact hpe) he e hv11.2.1 hv11.2.2.1), (by (try simp only) <;> (have := hv11.2.1; omega)), ?_⟩
       exact qp [0] ⟨rfl, rfl, rfl, rfl, rfl, rfl, rfl, trivial⟩
      ·intro hc
       refine qK (qS (qR (qM (qM (qM (qM (qM ?_)))))))
       refine Z5 [_] _ (w0 rfl) rfl rfl rfl rfl (Zk (k := 0) rfl) (Z3a q n _ (by omega) hN x.2.1 x.2.2.1 p2 hp2'.1 hp2'.2 (by omega)) (fun v12 hv12 => ?_)
       refine qM ?_
       refine qe (Zi rfl rfl rfl) ?_
       refine qe (Zi rfl rfl rfl) ?_
       refine qA (qA (qN (qS (qR (qM (qA (qN (qS ?_))))))))
       have hJ4 := hJ3.move (by omega) hv12.1
       have hl4 := hJ4.sw.len
       have hmid : x.2.1 ≤ v12.2.1 ∧ v12.2.1 < x.2.2.1 := ⟨hv12.2.1, hv12.2.2.1⟩
       refine qR (qM (qM ?_))
       refine qe eL ?_
       refine qM (qM ?_)
       refine qe eL ?_
       refine qA (qA (qN (qS (qR (qM ?_)))))
       refine qe (Zv (y := iA ((x.2.2.1 - x.2.1) / 8 : Nat)) (Z0r rfl rfl rfl (by decide) (Z0l (x.2.2.1 - x.2.1) 8 (by omega))) (congrArg iA (Z1p (x.2.2.1 - x.2.1) 8))) ?_
       refine qA (qN (qS (qR (qM (qM ?_)))))
       refine qe eI ?_
       refine qN ?_
       refine Z2 rfl ?_ ?_
       ·intro hc
        refine qS (qR (qM (qM ?_)))
        refine qe eI ?_
        refine qA (qN (qS ?_))
        refine Z0f 10 rfl (fun wb hwb => ?_)
        refine qR (qM (qM (qM (qM (qM ?_)))))
        refine Z5 [_] _ (w0 rfl) rfl rfl rfl rfl (Zk (k := 0) rfl) (ih (v12.2.1 - x.2.1) (by omega) _ (by omega) x.2.1 v12.2.1 _ (Nat.le_refl _) (by omega) (by omega) (hJ4.bd.le (by omega))) (fun v13 hv13 => ?_)
        refine qN (qR (qM ?_))
        refine qe eP ?_
        refine qA (qN ?_)
        refine ⟨(v13, v12.2.1 + 1, x.2.2.1, IntKind.i64.wrap (x.2.2.2.1 - 1), wb, v12.2.2), (hJ4.lower fLtT.ok (by omega) hmid hv12.2.2.2 hv13.1 hv13.2), (by (try simp only) <;> omega), ?_⟩
        exact qp [0] ⟨rfl, rfl, rfl, rfl, rfl, rfl, rfl, trivial⟩
       ·intro hc
        refine qS (qR (qM (qM ?_)))
        refine qe eI ?_
        refine qA (qN (qS ?_))
        refine Z0f 10 rfl (fun wb hwb => ?_)
        refine qR (qM (qM ?_))
        refine qe eP ?_
        refine qM (qM (qM ?_))
        refine Z5 [_] _ (w0 rfl) rfl rfl rfl rfl (Zk (k := 0) rfl) (ih (x.2.2.1 - (v12.2.1 + 1)) (by omega) _ (by omega) (v12.2.1 + 1) x.2.2.1 _ (Nat.le_refl _) (by omega) (by omega) hv12.2.2.2.bd) (fun v14 hv14 => ?_)
        refine qN (qR (qM (qA (qN ?_))))
        refine ⟨(v14, x.2.1, v12.2.1, IntKind.i64.wrap (x.2.2.2.1 - 1), wb, v12.2.2), (hJ4.upper fLtT.ok (by omega) hmid hv12.2.2.2 hv14.1 hv14.2), (by (try simp only) <;> omega), ?_⟩
        exact qp [0] ⟨rfl, rfl, rfl, rfl, rfl, rfl, rfl, trivial⟩
    ·intro hc
     have hJ2 := hJ1
     refine qK (qS (qS ?_))
     refine Z0h 13 rfl (fun p2 hp2 => ?_)
     have hp2' : x.2.1 ≤ p2 ∧ p2 < x.2.2.1 := by omega
     refine qR (qM (qM (qTM ?_)))
     refine qe (Zs rfl rfl rfl (fun h => h)) ?_
     refine qM (qTM ?_)
     refine Zp (wT rfl rfl rfl rfl) rfl (fun hg => (Zr rfl (Ze hg rfl) rfl rfl)) ?_
     refine qe (Zs rfl rfl rfl (fun h => h)) ?_
     refine qN ?_
     refine Z2 rfl ?_ ?_
     ·intro hc
      refine qS (qR (qM (qM (qM (qM ?_)))))
      refine Z5 [_] _ (w0 rfl) rfl rfl rfl rfl (Zk (k := 0) rfl) (Z3o q n _ (by have := hJ2.sw.len; omega) hN x.2.1 x.2.2.1 (by omega) (by omega) hJ2.bd) (fun v15 hv15 => ?_)
      have hJ3 := hJ2.move (by omega) hv15.1
      refine qN ?_
      refine Z2 rfl ?_ ?_
      ·intro hc
       refine qE ?_
       exact Zf rfl Z4 (.cons_cons _ .slnil) (gp v15.1 ⟨hJ3.sw, hJ2.fin _ hv15.1 ((hv15.2 hc).on fLtT.ok)⟩ rfl rfl)
      ·intro hc
       have hl3 := hJ3.sw.len
       refine qK (qS (qS ?_))
       refine Zz [0, 1, 3, 7, 7, 7, 39, 119, 247, 7, 7, 1543, 3591, 8191, 16383, 32767, 65535] 17 rfl (by kernel_rfl) ?_
       refine cM2 ?_
       refine ce eI ?_
       refine cM2 (cTM (cTM (cTM ?_)))
       refine Zc (wT rfl rfl rfl rfl) rfl (fun hg => (Z9 rfl (Ze hg rfl) rfl (Z0c (by omega)))) ?_
       refine Zc (wT rfl rfl rfl rfl) rfl (fun hg => (Z1 (x.2.1 - 1) rfl (Ze hg rfl) (Ze hg rfl) (by (try simp at hg) <;> omega) (by (try simp at hg) <;> omega) (by omega))) ?_
       refine Zq (f := FRef.cells) 0 (wT rfl rfl rfl rfl) rfl rfl (fun hg => (Ze hg rfl)) rfl (fun hg => by (try simp at hg) <;> omega) (fun _ => Z01 rfl) ?_
       refine cTM (cTM ?_)
       refine Zc (wT rfl rfl rfl rfl) rfl (fun hg => (Z1 p2 rfl (Ze hg rfl) (Ze hg rfl) (by (try simp at hg) <;> omega) (by (try simp at hg) <;> omega) (by omega))) ?_
       refine Zq (f := FRef.cells) 0 (wT rfl rfl rfl rfl) rfl rfl (fun hg => (Ze hg rfl)) rfl (fun hg => by (try simp at hg) <;> omega) (fun _ => Z01 rfl) ?_
       refine Zc (wT rfl rfl rfl rfl) rfl (fun hg => (Z8 [] rfl (Ze hg rfl) (Zg (Ze hg rfl) (Zg (Ze hg rfl) Z05)) (Z0z _ _) List.nodup_nil)) ?_
       refine Zc (wT rfl rfl rfl rfl) rfl (fun hg => (Zr rfl (Ze hg rfl) rfl rfl)) ?_
       refine Zc (wT rfl rfl rfl rfl) rfl (fun hg => (Z03 rfl (Ze hg rfl))) ?_
       refine ce (Zs rfl rfl rfl (fun h => h)) ?_
       refine .done (qN ?_)
       refine Z2 rfl ?_ ?_
       ·intro hc
        have ha0 : 0 < x.2.1 := by have := Z27 hc; simpa using this
        have hpe := Z1u (Z28 hc)
        refine qS (qR (qM (qM (qM (qM (qM ?_))))))
        refine Z5 [_] _ (w0 rfl) rfl rfl rfl rfl (Zk (k := 0) rfl) (Z2r q n _ (by omega) hN x.2.1 x.2.2.1 p2 hp2'.1 hp2'.2 (by omega)) (fun v16 hv16 => ?_)
        refine qA (qN (qS (qR (qM (qA (qN (qX ?_)))))))
        refine ⟨(v16.1, v16.2, x.2.2.1, IntKind.i64.wrap (x.2.2.2.1 - 1), x.2.2.2.2.1, x.2.2.2.2.2), (by obtain ⟨j, e, he⟩ := hv16.2.2.2.2; exact (hJ3.move (by omega) hv16.1).equal fLtT.ok (by omega) ha0 (by rw [hv16.1.out (.inl (by omega)), hv16.2.2.2.1]; exact hpe) he e hv16.2.1 hv16.2.2.1), (by (try simp only) <;> (have := hv16.2.1; omega)), ?_⟩
        exact qp [0] ⟨rfl, rfl, rfl, rfl, rfl, rfl, rfl, trivial⟩
       ·intro hc
        refine qK (qS (qR (qM (qM (qM (qM (qM ?_)))))))
        refine Z5 [_] _ (w0 rfl) rfl rfl rfl rfl (Zk (k := 0) rfl) (Z3a q n _ (by omega) hN x.2.1 x.2.2.1 p2 hp2'.1 hp2'.2 (by omega)) (fun v17 hv17 => ?_)
        refine qM ?_
        refine qe (Zi rfl rfl rfl) ?_
        refine qe (Zi rfl rfl rfl) ?_
        refine qA (qA (qN (qS (qR (qM (qA (qN (qS ?_))))))))
        have hJ4 := hJ3.move (by omega) hv17.1
        have hl4 := hJ4.sw.len
        have hmid : x.2.1 ≤ v17.2.1 ∧ v17.2.1 < x.2.2.1 := ⟨hv17.2.1, hv17.2.2.1⟩
        refine qR (qM (qM ?_))
        refine qe eL ?_
        refine qM (qM ?_)
        refine qe eL ?_
        refine qA (qA (qN (qS (qR (qM ?_)))))
        refine qe (Zv (y := iA ((x.2.2.1 - x.2.1) / 8 : Nat)) (Z0r rfl rfl rfl (by decide) (Z0l (x.2.2.1 - x.2.1) 8 (by omega))) (congrArg iA (Z1p (x.2.2.1 - x.2.1) 8))) ?_
        refine qA (qN (qS (qR (qM (qM ?_)))))
        refine qe eI ?_
        refine qN ?_
        refine Z2 rfl ?_ ?_
        ·intro hc
         refine qS (qR (qM (qM ?_)))
         refine qe eI ?_
         refine qA (qN (qS ?_))
         refine Z0f 10 rfl (fun wb hwb => ?_)
         refine qR (qM (qM (qM (qM (qM ?_)))))
         refine Z5 [_] _ (w0 rfl) rfl rfl rfl rfl (Zk (k := 0) rfl) (ih (v17.2.1 - x.2.1) (by omega) _ (by omega) x.2.1 v17.2.1 _ (Nat.le_refl _) (by omega) (by omega) (hJ4.bd.le (by omega))) (fun v18 hv18 => ?_)
         refine qN (qR (qM ?_))
         refine qe eP ?_
         refine qA (qN ?_)
         refine ⟨(v18, v17.2.1 + 1, x.2.2.1, IntKind.i64.wrap (x.2.2.2.1 - 1), wb, v17.2.2), (hJ4.lower fLtT.ok (by omega) hmid hv17.2.2.2 hv18.1 hv18.2), (by (try simp only) <;> omega), ?_⟩
         exact qp [0] ⟨rfl, rfl, rfl, rfl, rfl, rfl, rfl, trivial⟩
        ·intro hc
         refine qS (qR (qM (qM ?_)))
         refine qe eI ?_
         refine qA (qN (qS ?_))
         refine Z0f 10 rfl (fun wb hwb => ?_)
         refine qR (qM (qM ?_))
         refine qe eP ?_
         refine qM (qM (qM ?_))
         refine Z5 [_] _ (w0 rfl) rfl rfl rfl rfl (Zk (k := 0) rfl) (ih (x.2.2.1 - (v17.2.1 + 1)) (by omega) _ (by omega) (v17.2.1 + 1) x.2.2.1 _ (Nat.le_refl _) (by omega) (by omega) hv17.2.2.2.bd) (fun v19 hv19 => ?_)
         refine qN (qR (qM (qA (qN ?_))))
         refine ⟨(v19, x.2.1, v17.2.1, IntKind.i64.wrap (x.2.2.2.1 - 1), wb, v17.2.2), (hJ4.upper fLtT.ok (by omega) hmid hv17.2.2.2 hv19.1 hv19.2), (by (try simp only) <;> omega), ?_⟩
         exact qp [0] ⟨rfl, rfl, rfl, rfl, rfl, rfl, rfl, trivial⟩
     ·intro hc
      have hJ3 := hJ2
      have hl3 := hJ3.sw.len
      refine qK (qS (qS ?_))
      refine Zz [0, 1, 3, 7, 7, 7, 39, 119, 247, 7, 7, 1543, 3591, 8191, 16383, 32767, 65535] 17 rfl (by kernel_rfl) ?_
      refine cM2 ?_
      refine ce eI ?_
      refine cM2 (cTM (cTM (cTM ?_)))
      refine Zc (wT rfl rfl rfl rfl) rfl (fun hg => (Z9 rfl (Ze hg rfl) rfl (Z0c (by omega)))) ?_
      refine Zc (wT rfl rfl rfl rfl) rfl (fun hg => (Z1 (x.2.1 - 1) rfl (Ze hg rfl) (Ze hg rfl) (by (try simp at hg) <;> omega) (by (try simp at hg) <;> omega) (by omega))) ?_
      refine Zq (f := FRef.cells) 0 (wT rfl rfl rfl rfl) rfl rfl (fun hg => (Ze hg rfl)) rfl (fun hg => by (try simp at hg) <;> omega) (fun _ => Z01 rfl) ?_
      refine cTM (cTM ?_)
      refine Zc (wT rfl rfl rfl rfl) rfl (fun hg => (Z1 p2 rfl (Ze hg rfl) (Ze hg rfl) (by (try simp at hg) <;> omega) (by (try simp at hg) <;> omega) (by omega))) ?_
      refine Zq (f := FRef.cells) 0 (wT rfl rfl rfl rfl) rfl rfl (fun hg => (Ze hg rfl)) rfl (fun hg => by (try simp at hg) <;> omega) (fun _ => Z01 rfl) ?_
      refine Zc (wT rfl rfl rfl rfl) rfl (fun hg => (Z8 [] rfl (Ze hg rfl) (Zg (Ze hg rfl) (Zg (Ze hg rfl) Z05)) (Z0z _ _) List.nodup_nil)) ?_
      refine Zc (wT rfl rfl rfl rfl) rfl (fun hg => (Zr rfl (Ze hg rfl) rfl rfl)) ?_
      refine Zc (wT rfl rfl rfl rfl) rfl (fun hg => (Z03 rfl (Ze hg rfl))) ?_
      refine ce (Zs rfl rfl rfl (fun h => h)) ?_
      refine .done (qN ?_)
      refine Z2 rfl ?_ ?_
      ·intro hc
       have ha0 : 0 < x.2.1 := by have := Z27 hc; simpa using this
       have hpe := Z1u (Z28 hc)
       refine qS (qR (qM (qM (qM (qM (qM ?_))))))
       refine Z5 [_] _ (w0 rfl) rfl rfl rfl rfl (Zk (k := 0) rfl) (Z2r q n _ (by omega) hN x.2.1 x.2.2.1 p2 hp2'.1 hp2'.2 (by omega)) (fun v20 hv20 => ?_)
       refine qA (qN (qS (qR (qM (qA (qN (qX ?_)))))))
       refine ⟨(v20.1, v20.2, x.2.2.1, IntKind.i64.wrap (x.2.2.2.1 - 1), x.2.2.2.2.1, x.2.2.2.2.2), (by obtain ⟨j, e, he⟩ := hv20.2.2.2.2; exact (hJ3.move (by omega) hv20.1).equal fLtT.ok (by omega) ha0 (by rw [hv20.1.out (.inl (by omega)), hv20.2.2.2.1]; exact hpe) he e hv20.2.1 hv20.2.2.1), (by (try simp only) <;> (have := hv20.2.1; omega)), ?_⟩
       exact qp [0] ⟨rfl, rfl, rfl, rfl, rfl, rfl, rfl, trivial⟩
      ·intro hc
       refine qK (qS (qR (qM (qM (qM (qM (qM ?_)))))))
       refine Z5 [_] _ (w0 rfl) rfl rfl rfl rfl (Zk (k := 0) rfl) (Z3a q n _ (by omega) hN x.2.1 x.2.2.1 p2 hp2'.1 hp2'.2 (by omega)) (fun v21 hv21 => ?_)
       refine qM ?_
       refine qe (Zi rfl rfl rfl) ?_
       refine qe (Zi rfl rfl rfl) ?_
       refine qA (qA (qN (qS (qR (qM (qA (qN (qS ?_))))))))
       have hJ4 := hJ3.move (by omega) hv21.1
       have hl4 := hJ4.sw.len
       have hmid : x.2.1 ≤ v21.2.1 ∧ v21.2.1 < x.2.2.1 := ⟨hv21.2.1, hv21.2.2.1⟩
       refine qR (qM (qM ?_))
       refine qe eL ?_
       refine qM (qM ?_)
       refine qe eL ?_
       refine qA (qA (qN (qS (qR (qM ?_)))))
       refine qe (Zv (y := iA ((x.2.2.1 - x.2.1) / 8 : Nat)) (Z0r rfl rfl rfl (by decide) (Z0l (x.2.2.1 - x.2.1) 8 (by omega))) (congrArg iA (Z1p (x.2.2.1 - x.2.1) 8))) ?_
       refine qA (qN (qS (qR (qM (qM ?_)))))
       refine qe eI ?_
       refine qN ?_
       refine Z2 rfl ?_ ?_
       ·intro hc
        refine qS (qR (qM (qM ?_)))
        refine qe eI ?_
        refine qA (qN (qS ?_))
        refine Z0f 10 rfl (fun wb hwb => ?_)
        refine qR (qM (qM (qM (qM (qM ?_)))))
        refine Z5 [_] _ (w0 rfl) rfl rfl rfl rfl (Zk (k := 0) rfl) (ih (v21.2.1 - x.2.1) (by omega) _ (by omega) x.2.1 v21.2.1 _ (Nat.le_refl _) (by omega) (by omega) (hJ4.bd.le (by omega))) (fun v22 hv22 => ?_)
        refine qN (qR (qM ?_))
        refine qe eP ?_
        refine qA (qN ?_)
        refine ⟨(v22, v21.2.1 + 1, x.2.2.1, IntKind.i64.wrap (x.2.2.2.1 - 1), wb, v21.2.2), (hJ4.lower fLtT.ok (by omega) hmid hv21.2.2.2 hv22.1 hv22.2), (by (try simp only) <;> omega), ?_⟩
        exact qp [0] ⟨rfl, rfl, rfl, rfl, rfl, rfl, rfl, trivial⟩
       ·intro hc
        refine qS (qR (qM (qM ?_)))
        refine qe eI ?_
        refine qA (qN (qS ?_))
        refine Z0f 10 rfl (fun wb hwb => ?_)
        refine qR (qM (qM ?_))
        refine qe eP ?_
        refine qM (qM (qM ?_))
        refine Z5 [_] _ (w0 rfl) rfl rfl rfl rfl (Zk (k := 0) rfl) (ih (x.2.2.1 - (v21.2.1 + 1)) (by omega) _ (by omega) (v21.2.1 + 1) x.2.2.1 _ (Nat.le_refl _) (by omega) (by omega) hv21.2.2.2.bd) (fun v23 hv23 => ?_)
        refine qN (qR (qM (qA (qN ?_))))
        refine ⟨(v23, x.2.1, v21.2.1, IntKind.i64.wrap (x.2.2.2.1 - 1), wb, v21.2.2), (hJ4.upper fLtT.ok (by omega) hmid hv21.2.2.2 hv23.1 hv23.2), (by (try simp only) <;> omega), ?_⟩
        exact qp [0] ⟨rfl, rfl, rfl, rfl, rfl, rfl, rfl, trivial⟩
   ·intro hc
    have hJ1 := hJ
    refine qK (qS (qR (qM (qM (qM (qM ?_))))))
    refine Z5 [_] _ (w0 rfl) rfl rfl rfl rfl (Zk (k := 0) rfl) (Z9h q n _ (by have := hJ1.sw.len; omega) hN x.2.1 x.2.2.1 (by omega) (by omega)) (fun v24 hv24 => ?_)
    refine qM ?_
    refine qe (Zi rfl rfl rfl) ?_
    refine qe (Zi rfl rfl rfl) ?_
    refine qA (qA (qN (qS (qS ?_))))
    refine Z0h 13 rfl (fun pv hpv => ?_)
    have hp : x.2.1 ≤ pv ∧ pv < x.2.2.1 := by rw [hpv]; exact hv24
    refine qR (qM ?_)
    refine qe eI ?_
    refine qN ?_
    refine Z2 rfl ?_ ?_
    ·intro hc
     refine qS (qR (qM (qM (qM (qM ?_)))))
     refine Z5 [_] _ (w0 rfl) rfl rfl rfl rfl (Zk (k := 0) rfl) (Zex q n _ (by have := hJ1.sw.len; omega) hN x.2.1 x.2.2.1 (by omega) (by omega)) (fun v25 hv25 => ?_)
     have hJ2 := hJ1.move (by omega) hv25
     refine qN (qS (qR (qM ?_)))
     refine qe eL ?_
     refine qM (qM ?_)
     refine qe eL ?_
     refine qe (Zv (y := iA (x.2.2.1 - 1 - (pv - x.2.1) : Nat)) (eL) (congrArg iA (by omega))) ?_
     refine qA (qN (qR (qA (qN (qS (qS ?_))))))
     refine Z0h 13 rfl (fun p2 hp2 => ?_)
     have hp2' : x.2.1 ≤ p2 ∧ p2 < x.2.2.1 := by omega
     refine qR (qM (qM (qTM ?_)))
     refine qe (Zs rfl rfl rfl (fun h => h)) ?_
     refine qM (qTM ?_)
     refine Zp (wT rfl rfl rfl rfl) rfl (fun hg => (Zr rfl (Ze hg rfl) rfl rfl)) ?_
     refine qe (Zs rfl rfl rfl (fun h => h)) ?_
     refine qN ?_
     refine Z2 rfl ?_ ?_
     ·intro hc
      refine qS (qR (qM (qM (qM (qM ?_)))))
      refine Z5 [_] _ (w0 rfl) rfl rfl rfl rfl (Zk (k := 0) rfl) (Z3o q n _ (by have := hJ2.sw.len; omega) hN x.2.1 x.2.2.1 (by omega) (by omega) hJ2.bd) (fun v26 hv26 => ?_)
      have hJ3 := hJ2.move (by omega) hv26.1
      refine qN ?_
      refine Z2 rfl ?_ ?_
      ·intro hc
       refine qE ?_
       exact Zf rfl Z4 (.cons_cons _ .slnil) (gp v26.1 ⟨hJ3.sw, hJ2.fin _ hv26.1 ((hv26.2 hc).on fLtT.ok)⟩ rfl rfl)
      ·intro hc
       have hl3 := hJ3.sw.len
       refine qK (qS (qS ?_))
       refine Zz [0, 1, 3, 7, 7, 7, 39, 119, 247, 7, 7, 1543, 3591, 8191, 16383, 32767, 65535] 17 rfl (by kernel_rfl) ?_
       refine cM2 ?_
       refine ce eI ?_
       refine cM2 (cTM (cTM (cTM ?_)))
       refine Zc (wT rfl rfl rfl rfl) rfl (fun hg => (Z9 rfl (Ze hg rfl) rfl (Z0c (by omega)))) ?_
       refine Zc (wT rfl rfl rfl rfl) rfl (fun hg => (Z1 (x.2.1 - 1) rfl (Ze hg rfl) (Ze hg rfl) (by (try simp at hg) <;> omega) (by (try simp at hg) <;> omega) (by omega))) ?_
       refine Zq (f := FRef.cells) 0 (wT rfl rfl rfl rfl) rfl rfl (fun hg => (Ze hg rfl)) rfl (fun hg => by (try simp at hg) <;> omega) (fun _ => Z01 rfl) ?_
       refine cTM (cTM ?_)
       refine Zc (wT rfl rfl rfl rfl) rfl (fun hg => (Z1 p2 rfl (Ze hg rfl) (Ze hg rfl) (by (try simp at hg) <;> omega) (by (try simp at hg) <;> omega) (by omega))) ?_
       refine Zq (f := FRef.cells) 0 (wT rfl rfl rfl rfl) rfl rfl (fun hg => (Ze hg rfl)) rfl (fun hg => by (try simp at hg) <;> omega) (fun _ => Z01 rfl) ?_
       refine Zc (wT rfl rfl rfl rfl) rfl (fun hg => (Z8 [] rfl (Ze hg rfl) (Zg (Ze hg rfl) (Zg (Ze hg rfl) Z05)) (Z0z _ _) List.nodup_nil)) ?_
       refine Zc (wT rfl rfl rfl rfl) rfl (fun hg => (Zr rfl (Ze hg rfl) rfl rfl)) ?_
       refine Zc (wT rfl rfl rfl rfl) rfl (fun hg => (Z03 rfl (Ze hg rfl))) ?_
       refine ce (Zs rfl rfl rfl (fun h => h)) ?_
       refine .done (qN ?_)
       refine Z2 rfl ?_ ?_
       ·intro hc
        have ha0 : 0 < x.2.1 := by have := Z27 hc; simpa using this
        have hpe := Z1u (Z28 hc)
        refine qS (qR (qM (qM (qM (qM (qM ?_))))))
        refine Z5 [_] _ (w0 rfl) rfl rfl rfl rfl (Zk (k := 0) rfl) (Z2r q n _ (by omega) hN x.2.1 x.2.2.1 p2 hp2'.1 hp2'.2 (by omega)) (fun v27 hv27 => ?_)
        refine qA (qN (qS (qR (qM (qA (qN (qX ?_)))))))
        refine ⟨(v27.1, v27.2, x.2.2.1, x.2.2.2.1, x.2.2.2.2.1, x.2.2.2.2.2), (by obtain ⟨j, e, he⟩ := hv27.2.2.2.2; exact (hJ3.move (by omega) hv27.1).equal fLtT.ok (by omega) ha0 (by rw [hv27.1.out (.inl (by omega)), hv27.2.2.2.1]; exact hpe) he e hv27.2.1 hv27.2.2.1), (by (try simp only) <;> (have := hv27.2.1; omega)), ?_⟩
        exact qp [0] ⟨rfl, rfl, rfl, rfl, rfl, rfl, rfl, trivial⟩
       ·intro hc
        refine qK (qS (qR (qM (qM (qM (qM (qM ?_)))))))
        refine Z5 [_] _ (w0 rfl) rfl rfl rfl rfl (Zk (k := 0) rfl) (Z3a q n _ (by omega) hN x.2.1 x.2.2.1 p2 hp2'.1 hp2'.2 (by omega)) (fun v28 hv28 => ?_)
        refine qM ?_
        refine qe (Zi rfl rfl rfl) ?_
        refine qe (Zi rfl rfl rfl) ?_
        refine qA (qA (qN (qS (qR (qM (qA (qN (qS ?_))))))))
        have hJ4 := hJ3.move (by omega) hv28.1
        have hl4 := hJ4.sw.len
        have hmid : x.2.1 ≤ v28.2.1 ∧ v28.2.1 < x.2.2.1 := ⟨hv28.2.1, hv28.2.2.1⟩
        refine qR (qM (qM ?_))
        refine qe eL ?_
        refine qM (qM ?_)
        refine qe eL ?_
        refine qA (qA (qN (qS (qR (qM ?_)))))
        refine qe (Zv (y := iA ((x.2.2.1 - x.2.1) / 8 : Nat)) (Z0r rfl rfl rfl (by decide) (Z0l (x.2.2.1 - x.2.1) 8 (by omega))) (congrArg iA (Z1p (x.2.2.1 - x.2.1) 8))) ?_
        refine qA (qN (qS (qR (qM (qM ?_)))))
        refine qe eI ?_
        refine qN ?_
        refine Z2 rfl ?_ ?_
        ·intro hc
         refine qS (qR (qM (qM ?_)))
         refine qe eI ?_
         refine qA (qN (qS ?_))
         refine Z0f 10 rfl (fun wb hwb => ?_)
         refine qR (qM (qM (qM (qM (qM ?_)))))
         refine Z5 [_] _ (w0 rfl) rfl rfl rfl rfl (Zk (k := 0) rfl) (ih (v28.2.1 - x.2.1) (by omega) _ (by omega) x.2.1 v28.2.1 _ (Nat.le_refl _) (by omega) (by omega) (hJ4.bd.le (by omega))) (fun v29 hv29 => ?_)
         refine qN (qR (qM ?_))
         refine qe eP ?_
         refine qA (qN ?_)
         refine ⟨(v29, v28.2.1 + 1, x.2.2.1, x.2.2.2.1, wb, v28.2.2), (hJ4.lower fLtT.ok (by omega) hmid hv28.2.2.2 hv29.1 hv29.2), (by (try simp only) <;> omega), ?_⟩
         exact qp [0] ⟨rfl, rfl, rfl, rfl, rfl, rfl, rfl, trivial⟩
        ·intro hc
         refine qS (qR (qM (qM ?_)))
         refine qe eI ?_
         refine qA (qN (qS ?_))
         refine Z0f 10 rfl (fun wb hwb => ?_)
         refine qR (qM (qM ?_))
         refine qe eP ?_
         refine qM (qM (qM ?_))
         refine Z5 [_] _ (w0 rfl) rfl rfl rfl rfl (Zk (k := 0) rfl) (ih (x.2.2.1 - (v28.2.1 + 1)) (by omega) _ (by omega) (v28.2.1 + 1) x.2.2.1 _ (Nat.le_refl _) (by omega) (by omega) hv28.2.2.2.bd) (fun v30 hv30 => ?_)
         refine qN (qR (qM (qA (qN ?_))))
         refine ⟨(v30, x.2.1, v28.2.1, x.2.2.2.1, wb, v28.2.2), (hJ4.upper fLtT.ok (by omega) hmid hv28.2.2.2 hv30.1 hv30.2), (by (try simp only) <;> omega), ?_⟩
         exact qp [0] ⟨rfl, rfl, rfl, rfl, rfl, rfl, rfl, trivial⟩
     ·intro hc
      have hJ3 := hJ2
      have hl3 := hJ3.sw.len
      refine qK (qS (qS ?_))
      refine Zz [0, 1, 3, 7, 7, 7, 39, 119, 247, 7, 7, 1543, 3591, 8191, 16383, 32767, 65535] 17 rfl (by kernel_rfl) ?_
      refine cM2 ?_
      refine ce eI ?_
      refine cM2 (cTM (cTM (cTM ?_)))
      refine Zc (wT rfl rfl rfl rfl) rfl (fun hg => (Z9 rfl (Ze hg rfl) rfl (Z0c (by omega)))) ?_
      refine Zc (wT rfl rfl rfl rfl) rfl (fun hg => (Z1 (x.2.1 - 1) rfl (Ze hg rfl) (Ze hg rfl) (by (try simp at hg) <;> omega) (by (try simp at hg) <;> omega) (by omega))) ?_
      refine Zq (f := FRef.cells) 0 (wT rfl rfl rfl rfl) rfl rfl (fun hg => (Ze hg rfl)) rfl (fun hg => by (try simp at hg) <;> omega) (fun _ => Z01 rfl) ?_
      refine cTM (cTM ?_)
      refine Zc (wT rfl rfl rfl rfl) rfl (fun hg => (Z1 p2 rfl (Ze hg rfl) (Ze hg rfl) (by (try simp at hg) <;> omega) (by (try simp at hg) <;> omega) (by omega))) ?_
      refine Zq (f := FRef.cells) 0 (wT rfl rfl rfl rfl) rfl rfl (fun hg => (Ze hg rfl)) rfl (fun hg => by (try simp at hg) <;> omega) (fun _ => Z01 rfl) ?_
      refine Zc (wT rfl rfl rfl rfl) rfl (fun hg => (Z8 [] rfl (Ze hg rfl) (Zg (Ze hg rfl) (Zg (Ze hg rfl) Z05)) (Z0z _ _) List.nodup_nil)) ?_
      refine Zc (wT rfl rfl rfl rfl) rfl (fun hg => (Zr rfl (Ze hg rfl) rfl rfl)) ?_
      refine Zc (wT rfl rfl rfl rfl) rfl (fun hg => (Z03 rfl (Ze hg rfl))) ?_
      refine ce (Zs rfl rfl rfl (fun h => h)) ?_
      refine .done (qN ?_)
      refine Z2 rfl ?_ ?_
      ·intro hc
       have ha0 : 0 < x.2.1 := by have := Z27 hc; simpa using this
       have hpe := Z1u (Z28 hc)
       refine qS (qR (qM (qM (qM (qM (qM ?_))))))
       refine Z5 [_] _ (w0 rfl) rfl rfl rfl rfl (Zk (k := 0) rfl) (Z2r q n _ (by omega) hN x.2.1 x.2.2.1 p2 hp2'.1 hp2'.2 (by omega)) (fun v31 hv31 => ?_)
       refine qA (qN (qS (qR (qM (qA (qN (qX ?_)))))))
       refine ⟨(v31.1, v31.2, x.2.2.1, x.2.2.2.1, x.2.2.2.2.1, x.2.2.2.2.2), (by obtain ⟨j, e, he⟩ := hv31.2.2.2.2; exact (hJ3.move (by omega) hv31.1).equal fLtT.ok (by omega) ha0 (by rw [hv31.1.out (.inl (by omega)), hv31.2.2.2.1]; exact hpe) he e hv31.2.1 hv31.2.2.1), (by (try simp only) <;> (have := hv31.2.1; omega)), ?_⟩
       exact qp [0] ⟨rfl, rfl, rfl, rfl, rfl, rfl, rfl, trivial⟩
      ·intro hc
       refine qK (qS (qR (qM (qM (qM (qM (qM ?_)))))))
       refine Z5 [_] _ (w0 rfl) rfl rfl rfl rfl (Zk (k := 0) rfl) (Z3a q n _ (by omega) hN x.2.1 x.2.2.1 p2 hp2'.1 hp2'.2 (by omega)) (fun v32 hv32 => ?_)
       refine qM ?_
       refine qe (Zi rfl rfl rfl) ?_
       refine qe (Zi rfl rfl rfl) ?_
       refine qA (qA (qN (qS (qR (qM (qA (qN (qS ?_))))))))
       have hJ4 := hJ3.move (by omega) hv32.1
       have hl4 := hJ4.sw.len
       have hmid : x.2.1 ≤ v32.2.1 ∧ v32.2.1 < x.2.2.1 := ⟨hv32.2.1, hv32.2.2.1⟩
       refine qR (qM (qM ?_))
       refine qe eL ?_
       refine qM (qM ?_)
       refine qe eL ?_
       refine qA (qA (qN (qS (qR (qM ?_)))))
       refine qe (Zv (y := iA ((x.2.2.1 - x.2.1) / 8 : Nat)) (Z0r rfl rfl rfl (by decide) (Z0l (x.2.2.1 - x.2.1) 8 (by omega))) (congrArg iA (Z1p (x.2.2.1 - x.2.1) 8))) ?_
       refine qA (qN (qS (qR (qM (qM ?_)))))
       refine qe eI ?_
       refine qN ?_
       refine Z2 rfl ?_ ?_
       ·intro hc
        refine qS (qR (qM (qM ?_)))
        refine qe eI ?_
        refine qA (qN (qS ?_))
        refine Z0f 10 rfl (fun wb hwb => ?_)
        refine qR (qM (qM (qM (qM (qM ?_)))))
        refine Z5 [_] _ (w0 rfl) rfl rfl rfl rfl (Zk (k := 0) rfl) (ih (v32.2.1 - x.2.1) (by omega) _ (by omega) x.2.1 v32.2.1 _ (Nat.le_refl _) (by omega) (by omega) (hJ4.bd.le (by omega))) (fun v33 hv33 => ?_)
        refine qN (qR (qM ?_))
        refine qe eP ?_
        refine qA (qN ?_)
        refine ⟨(v33, v32.2.1 + 1, x.2.2.1, x.2.2.2.1, wb, v32.2.2), (hJ4.lower fLtT.ok (by omega) hmid hv32.2.2.2 hv33.1 hv33.2), (by (try simp only) <;> omega), ?_⟩
        exact qp [0] ⟨rfl, rfl, rfl, rfl, rfl, rfl, rfl, trivial⟩
       ·intro hc
        refine qS (qR (qM (qM ?_)))
        refine qe eI ?_
        refine qA (qN (qS ?_))
        refine Z0f 10 rfl (fun wb hwb => ?_)
        refine qR (qM (qM ?_))
        refine qe eP ?_
        refine qM (qM (qM ?_))
        refine Z5 [_] _ (w0 rfl) rfl rfl rfl rfl (Zk (k := 0) rfl) (ih (x.2.2.1 - (v32.2.1 + 1)) (by omega) _ (by omega) (v32.2.1 + 1) x.2.2.1 _ (Nat.le_refl _) (by omega) (by omega) hv32.2.2.2.bd) (fun v34 hv34 => ?_)
        refine qN (qR (qM (qA (qN ?_))))
        refine ⟨(v34, x.2.1, v32.2.1, x.2.2.2.1, wb, v32.2.2), (hJ4.upper fLtT.ok (by omega) hmid hv32.2.2.2 hv34.1 hv34.2), (by (try simp only) <;> omega), ?_⟩
        exact qp [0] ⟨rfl, rfl, rfl, rfl, rfl, rfl, rfl, trivial⟩
    ·intro hc
     have hJ2 := hJ1
     refine qK (qS (qS ?_))
     refine Z0h 13 rfl (fun p2 hp2 => ?_)
     have hp2' : x.2.1 ≤ p2 ∧ p2 < x.2.2.1 := by omega
     refine qR (qM (qM (qTM ?_)))
     refine qe (Zs rfl rfl rfl (fun h => h)) ?_
     refine qM (qTM ?_)
     refine Zp (wT rfl rfl rfl rfl) rfl (fun hg => (Zr rfl (Ze hg rfl) rfl rfl)) ?_
     refine qe (Zs rfl rfl rfl (fun h => h)) ?_
     refine qN ?_
     refine Z2 rfl ?_ ?_
     ·intro hc
      refine qS (qR (qM (qM (qM (qM ?_)))))
      refine Z5 [_] _ (w0 rfl) rfl rfl rfl rfl (Zk (k := 0) rfl) (Z3o q n _ (by have := hJ2.sw.len; omega) hN x.2.1 x.2.2.1 (by omega) (by omega) hJ2.bd) (fun v35 hv35 => ?_)
      have hJ3 := hJ2.move (by omega) hv35.1
      refine qN ?_
      refine Z2 rfl ?_ ?_
      ·intro hc
       refine qE ?_
       exact Zf rfl Z4 (.cons_cons _ .slnil) (gp v35.1 ⟨hJ3.sw, hJ2.fin _ hv35.1 ((hv35.2 hc).on fLtT.ok)⟩ rfl rfl)
      ·intro hc
       have hl3 := hJ3.sw.len
       refine qK (qS (qS ?_))
       refine Zz [0, 1, 3, 7, 7, 7, 39, 119, 247, 7, 7, 1543, 3591, 8191, 16383, 32767, 65535] 17 rfl (by kernel_rfl) ?_
       refine cM2 ?_
       refine ce eI ?_
       refine cM2 (cTM (cTM (cTM ?_)))
       refine Zc (wT rfl rfl rfl rfl) rfl (fun hg => (Z9 rfl (Ze hg rfl) rfl (Z0c (by omega)))) ?_
       refine Zc (wT rfl rfl rfl rfl) rfl (fun hg => (Z1 (x.2.1 - 1) rfl (Ze hg rfl) (Ze hg rfl) (by (try simp at hg) <;> omega) (by (try simp at hg) <;> omega) (by omega))) ?_
       refine Zq (f := FRef.cells) 0 (wT rfl rfl rfl rfl) rfl rfl (fun hg => (Ze hg rfl)) rfl (fun hg => by (try simp at hg) <;> omega) (fun _ => Z01 rfl) ?_
       refine cTM (cTM ?_)
       refine Zc (wT rfl rfl rfl rfl) rfl (fun hg => (Z1 p2 rfl (Ze hg rfl) (Ze hg rfl) (by (try simp at hg) <;> omega) (by (try simp at hg) <;> omega) (by omega))) ?_
       refine Zq (f := FRef.cells) 0 (wT rfl rfl rfl rfl) rfl rfl (fun hg => (Ze hg rfl)) rfl (fun hg => by (try simp at hg) <;> omega) (fun _ => Z01 rfl) ?_
       refine Zc (wT rfl rfl rfl rfl) rfl (fun hg => (Z8 [] rfl (Ze hg rfl) (Zg (Ze hg rfl) (Zg (Ze hg rfl) Z05)) (Z0z _ _) List.nodup_nil)) ?_
       refine Zc (wT rfl rfl rfl rfl) rfl (fun hg => (Zr rfl (Ze hg rfl) rfl rfl)) ?_
       refine Zc (wT rfl rfl rfl rfl) rfl (fun hg => (Z03 rfl (Ze hg rfl))) ?_
       refine ce (Zs rfl rfl rfl (fun h => h)) ?_
       refine .done (qN ?_)
       refine Z2 rfl ?_ ?_
       ·intro hc
        have ha0 : 0 < x.2.1 := by have := Z27 hc; simpa using this
        have hpe := Z1u (Z28 hc)
        refine qS (qR (qM (qM (qM (qM (qM ?_))))))
        refine Z5 [_] _ (w0 rfl) rfl rfl rfl rfl (Zk (k := 0) rfl) (Z2r q n _ (by omega) hN x.2.1 x.2.2.1 p2 hp2'.1 hp2'.2 (by omega)) (fun v36 hv36 => ?_)
        refine qA (qN (qS (qR (qM (qA (qN (qX ?_)))))))
        refine ⟨(v36.1, v36.2, x.2.2.1, x.2.2.2.1, x.2.2.2.2.1, x.2.2.2.2.2), (by obtain ⟨j, e, he⟩ := hv36.2.2.2.2; exact (hJ3.move (by omega) hv36.1).equal fLtT.ok (by omega) ha0 (by rw [hv36.1.out (.inl (by omega)), hv36.2.2.2.1]; exact hpe) he e hv36.2.1 hv36.2.2.1), (by (try simp only) <;> (have := hv36.2.1; omega)), ?_⟩
        exact qp [0] ⟨rfl, rfl, rfl, rfl, rfl, rfl, rfl, trivial⟩
       ·intro hc
        refine qK (qS (qR (qM (qM (qM (qM (qM ?_)))))))
        refine Z5 [_] _ (w0 rfl) rfl rfl rfl rfl (Zk (k := 0) rfl) (Z3a q n _ (by omega) hN x.2.1 x.2.2.1 p2 hp2'.1 hp2'.2 (by omega)) (fun v37 hv37 => ?_)
        refine qM ?_
        refine qe (Zi rfl rfl rfl) ?_
        refine qe (Zi rfl rfl rfl) ?_
        refine qA (qA (qN (qS (qR (qM (qA (qN (qS ?_))))))))
        have hJ4 := hJ3.move (by omega) hv37.1
        have hl4 := hJ4.sw.len
        have hmid : x.2.1 ≤ v37.2.1 ∧ v37.2.1 < x.2.2.1 := ⟨hv37.2.1, hv37.2.2.1⟩
        refine qR (qM (qM ?_))
        refine qe eL ?_
        refine qM (qM ?_)
        refine qe eL ?_
        refine qA (qA (qN (qS (qR (qM ?_)))))
        refine qe (Zv (y := iA ((x.2.2.1 - x.2.1) / 8 : Nat)) (Z0r rfl rfl rfl (by decide) (Z0l (x.2.2.1 - x.2.1) 8 (by omega))) (congrArg iA (Z1p (x.2.2.1 - x.2.1) 8))) ?_
        refine qA (qN (qS (qR (qM (qM ?_)))))
        refine qe eI ?_
        refine qN ?_
        refine Z2 rfl ?_ ?_
        ·intro hc
         refine qS (qR (qM (qM ?_)))
         refine qe eI ?_
         refine qA (qN (qS ?_))
         refine Z0f 10 rfl (fun wb hwb => ?_)
         refine qR (qM (qM (qM (qM (qM ?_)))))
         refine Z5 [_] _ (w0 rfl) rfl rfl rfl rfl (Zk (k := 0) rfl) (ih (v37.2.1 - x.2.1) (by omega) _ (by omega) x.2.1 v37.2.1 _ (Nat.le_refl _) (by omega) (by omega) (hJ4.bd.le (by omega))) (fun v38 hv38 => ?_)
         refine qN (qR (qM ?_))
         refine qe eP ?_
         refine qA (qN ?_)
         refine ⟨(v38, v37.2.1 + 1, x.2.2.1, x.2.2.2.1, wb, v37.2.2), (hJ4.lower fLtT.ok (by omega) hmid hv37.2.2.2 hv38.1 hv38.2), (by (try simp only) <;> omega), ?_⟩
         exact qp [0] ⟨rfl, rfl, rfl, rfl, rfl, rfl, rfl, trivial⟩
        ·intro hc
         refine qS (qR (qM (qM ?_)))
         refine qe eI ?_
         refine qA (qN (qS ?_))
         refine Z0f 10 rfl (fun wb hwb => ?_)
         refine qR (qM (qM ?_))
         refine qe eP ?_
         refine qM (qM (qM ?_))
         refine Z5 [_] _ (w0 rfl) rfl rfl rfl rfl (Zk (k := 0) rfl) (ih (x.2.2.1 - (v37.2.1 + 1)) (by omega) _ (by omega) (v37.2.1 + 1) x.2.2.1 _ (Nat.le_refl _) (by omega) (by omega) hv37.2.2.2.bd) (fun v39 hv39 => ?_)
         refine qN (qR (qM (qA (qN ?_))))
         refine ⟨(v39, x.2.1, v37.2.1, x.2.2.2.1, wb, v37.2.2), (hJ4.upper fLtT.ok (by omega) hmid hv37.2.2.2 hv39.1 hv39.2), (by (try simp only) <;> omega), ?_⟩
         exact qp [0] ⟨rfl, rfl, rfl, rfl, rfl, rfl, rfl, trivial⟩
     ·intro hc
      have hJ3 := hJ2
      have hl3 := hJ3.sw.len
      refine qK (qS (qS ?_))
      refine Zz [0, 1, 3, 7, 7, 7, 39, 119, 247, 7, 7, 1543, 3591, 8191, 16383, 32767, 65535] 17 rfl (by kernel_rfl) ?_
      refine cM2 ?_
      refine ce eI ?_
      refine cM2 (cTM (cTM (cTM ?_)))
      refine Zc (wT rfl rfl rfl rfl) rfl (fun hg => (Z9 rfl (Ze hg rfl) rfl (Z0c (by omega)))) ?_
      refine Zc (wT rfl rfl rfl rfl) rfl (fun hg => (Z1 (x.2.1 - 1) rfl (Ze hg rfl) (Ze hg rfl) (by (try simp at hg) <;> omega) (by (try simp at hg) <;> omega) (by omega))) ?_
      refine Zq (f := FRef.cells) 0 (wT rfl rfl rfl rfl) rfl rfl (fun hg => (Ze hg rfl)) rfl (fun hg => by (try simp at hg) <;> omega) (fun _ => Z01 rfl) ?_
      refine cTM (cTM ?_)
      refine Zc (wT rfl rfl rfl rfl) rfl (fun hg => (Z1 p2 rfl (Ze hg rfl) (Ze hg rfl) (by (try simp at hg) <;> omega) (by (try simp at hg) <;> omega) (by omega))) ?_
      refine Zq (f := FRef.cells) 0 (wT rfl rfl rfl rfl) rfl rfl (fun hg => (Ze hg rfl)) rfl (fun hg => by (try simp at hg) <;> omega) (fun _ => Z01 rfl) ?_
      refine Zc (wT rfl rfl rfl rfl) rfl (fun hg => (Z8 [] rfl (Ze hg rfl) (Zg (Ze hg rfl) (Zg (Ze hg rfl) Z05)) (Z0z _ _) List.nodup_nil)) ?_
      refine Zc (wT rfl rfl rfl rfl) rfl (fun hg => (Zr rfl (Ze hg rfl) rfl rfl)) ?_
      refine Zc (wT rfl rfl rfl rfl) rfl (fun hg => (Z03 rfl (Ze hg rfl))) ?_
      refine ce (Zs rfl rfl rfl (fun h => h)) ?_
      refine .done (qN ?_)
      refine Z2 rfl ?_ ?_
      ·intro hc
       have ha0 : 0 < x.2.1 := by have := Z27 hc; simpa using this
       have hpe := Z1u (Z28 hc)
       refine qS (qR (qM (qM (qM (qM (qM ?_))))))
       refine Z5 [_] _ (w0 rfl) rfl rfl rfl rfl (Zk (k := 0) rfl) (Z2r q n _ (by omega) hN x.2.1 x.2.2.1 p2 hp2'.1 hp2'.2 (by omega)) (fun v40 hv40 => ?_)
       refine qA (qN (qS (qR (qM (qA (qN (qX ?_)))))))
       refine ⟨(v40.1, v40.2, x.2.2.1, x.2.2.2.1, x.2.2.2.2.1, x.2.2.2.2.2), (by obtain ⟨j, e, he⟩ := hv40.2.2.2.2; exact (hJ3.move (by omega) hv40.1).equal fLtT.ok (by omega) ha0 (by rw [hv40.1.out (.inl (by omega)), hv40.2.2.2.1]; exact hpe) he e hv40.2.1 hv40.2.2.1), (by (try simp only) <;> (have := hv40.2.1; omega)), ?_⟩
       exact qp [0] ⟨rfl, rfl, rfl, rfl, rfl, rfl, rfl, trivial⟩
      ·intro hc
       refine qK (qS (qR (qM (qM (qM (qM (qM ?_)))))))
       refine Z5 [_] _ (w0 rfl) rfl rfl rfl rfl (Zk (k := 0) rfl) (Z3a q n _ (by omega) hN x.2.1 x.2.2.1 p2 hp2'.1 hp2'.2 (by omega)) (fun v41 hv41 => ?_)
       refine qM ?_
       refine qe (Zi rfl rfl rfl) ?_
       refine qe (Zi rfl rfl rfl) ?_
       refine qA (qA (qN (qS (qR (qM (qA (qN (qS ?_))))))))
       have hJ4 := hJ3.move (by omega) hv41.1
       have hl4 := hJ4.sw.len
       have hmid : x.2.1 ≤ v41.2.1 ∧ v41.2.1 < x.2.2.1 := ⟨hv41.2.1, hv41.2.2.1⟩
       refine qR (qM (qM ?_))
       refine qe eL ?_
       refine qM (qM ?_)
       refine qe eL ?_
       refine qA (qA (qN (qS (qR (qM ?_)))))
       refine qe (Zv (y := iA ((x.2.2.1 - x.2.1) / 8 : Nat)) (Z0r rfl rfl rfl (by decide) (Z0l (x.2.2.1 - x.2.1) 8 (by omega))) (congrArg iA (Z1p (x.2.2.1 - x.2.1) 8))) ?_
       refine qA (qN (qS (qR (qM (qM ?_)))))
       refine qe eI ?_
       refine qN ?_
       refine Z2 rfl ?_ ?_
       ·intro hc
        refine qS (qR (qM (qM ?_)))
        refine qe eI ?_
        refine qA (qN (qS ?_))
        refine Z0f 10 rfl (fun wb hwb => ?_)
        refine qR (qM (qM (qM (qM (qM ?_)))))
        refine Z5 [_] _ (w0 rfl) rfl rfl rfl rfl (Zk (k := 0) rfl) (ih (v41.2.1 - x.2.1) (by omega) _ (by omega) x.2.1 v41.2.1 _ (Nat.le_refl _) (by omega) (by omega) (hJ4.bd.le (by omega))) (fun v42 hv42 => ?_)
        refine qN (qR (qM ?_))
        refine qe eP ?_
        refine qA (qN ?_)
        refine ⟨(v42, v41.2.1 + 1, x.2.2.1, x.2.2.2.1, wb, v41.2.2), (hJ4.lower fLtT.ok (by omega) hmid hv41.2.2.2 hv42.1 hv42.2), (by (try simp only) <;> omega), ?_⟩
        exact qp [0] ⟨rfl, rfl, rfl, rfl, rfl, rfl, rfl, trivial⟩
       ·intro hc
        refine qS (qR (qM (qM ?_)))
        refine qe eI ?_
        refine qA (qN (qS ?_))
        refine Z0f 10 rfl (fun wb hwb => ?_)
        refine qR (qM (qM ?_))
        refine qe eP ?_
        refine qM (qM (qM ?_))
        refine Z5 [_] _ (w0 rfl) rfl rfl rfl rfl (Zk (k := 0) rfl) (ih (x.2.2.1 - (v41.2.1 + 1)) (by omega) _ (by omega) (v41.2.1 + 1) x.2.2.1 _ (Nat.le_refl _) (by omega) (by omega) hv41.2.2.2.bd) (fun v43 hv43 => ?_)
        refine qN (qR (qM (qA (qN ?_))))
        refine ⟨(v43, x.2.1, v41.2.1, x.2.2.2.1, wb, v41.2.2), (hJ4.upper fLtT.ok (by omega) hmid hv41.2.2.2 hv43.1 hv43.2), (by (try simp only) <;> omega), ?_⟩
        exact qp [0] ⟨rfl, rfl, rfl, rfl, rfl, rfl, rfl, trivial⟩
theorem Zfs (q n : Nat) (l : List FRef) (hn : l.length = n) (hN : n ≤ 140737488355328)  : ACalls Tryz.prog 97 [.own q 2 0 n, .fn (.func 54) []] [(q, .rows 46 2 (l.map FRef.cells))] (GP (fun _ : List FRef => mkRes []) (fun m => [(q, .rows 46 2 (m.map FRef.cells))]) (fun m => m.Perm l ∧ SOn fLt 0 n m)) := by
 refine Zd (n := 14) Tryz.func97 rfl (by decide +kernel) rfl rfl ?_
 refine qS (qR (qM ?_))
 refine qe (Zx rfl rfl rfl rfl) ?_
 refine qA (qN (qR (qM (qM (qM ?_)))))
 refine qe (Zv (y := xA n) (Z0i rfl rfl) (congrArg xA (Z37 (by omega)))) ?_
 refine Z23 (w0 rfl) rfl rfl rfl rfl (Z48 n (by omega)) (fun v1 hv1 => ?_)
 refine qM ?_
 refine Z5 [_] _ (w0 rfl) rfl rfl rfl rfl (Zk (k := 0) rfl) (Zgi q n hN n l hn 0 n _ (by omega) (by omega) (Nat.le_refl _) (.inl rfl)) (fun v2 hv2 => ?_)
 refine qN ?_
 exact Zf rfl Z4 (.cons_cons _ .slnil) (gp v2 ⟨hv2.1.perm, hv2.2⟩ rfl rfl)
end Go.Sx
