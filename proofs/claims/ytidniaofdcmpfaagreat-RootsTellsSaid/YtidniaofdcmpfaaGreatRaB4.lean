/- YtidniaofdcmpfaaGreatRaB4: texts of this claim, one behind the other. -/
import Derived.Deep.AppendSrc
import Derived.Laws.CopyRow
import Derived.WalkSpells
import Derived.Lib.Strings
import Derived.Test.YtidniaofdcmpfaaGreatRaB3
set_option linter.unusedVariables false
set_option linter.unusedSimpArgs false
set_option linter.unusedSectionVars false
set_option linter.unnecessarySimpa false
namespace Go.Sx
open Go Go.Proofs
theorem Zah (q n : Nat) (l : List MRef) (hn : l.length = n) (hN : n ≤ 140737488355328) (a b : Nat) (ha : a ≤ b) (hb : b ≤ n) : ACalls Tryz.prog 158 [.own q 3 0 n, iA a, iA b, .fn (.func 56) []] [(q, .rows 25 3 (l.map MRef.cells))] (GP (fun _ : List MRef => mkRes []) (fun m => [(q, .rows 25 3 (m.map MRef.cells))]) (fun m => Sw a b l m ∧ SAdj mLt a b m)) := by
 refine Zd (n := 53) Tryz.func158 rfl (by decide +kernel) rfl rfl ?_
 refine qS (qR (qM ?_))
 refine qe eP ?_
 refine qA (qN (qB ?_))
 refine Zj (α := List MRef × Nat) (fun x => ⟨[(8, iA x.2), (0, .own q 3 0 n), (1, iA a), (2, iA b), (3, .fn (.func 56) [])], [(q, .rows 25 3 (x.1.map MRef.cells))], [], 53⟩) (fun x => Sw a b l x.1 ∧ a + 1 ≤ x.2 ∧ SAdj mLt a x.2 x.1) (fun x => b - x.2) (l, a + 1) ⟨.refl, Nat.le_refl _, SAdj.refl1 (Nat.le_refl _)⟩ ?_ ?_
 ·exact Zb [0] ⟨rfl, rfl, rfl, rfl, rfl, trivial⟩ rfl (by decide) rfl rfl
 rintro x hJ
 have hm := hJ.1.len
 refine qS (qS (qR (qM (qM ?_))))
 refine qe eI ?_
 refine qN ?_
 refine Z2 rfl ?_ ?_
 ·intro hc
  have hx : x.2 < b := by simpa using hc
  refine qK (qS (qB (qS (qR (qM (qA (qN (qB ?_))))))))
  refine Zj (α := List MRef × Nat) (fun z => ⟨[(9, iA z.2), (8, iA x.2), (0, .own q 3 0 n), (1, iA a), (2, iA b), (3, .fn (.func 56) [])], [(q, .rows 25 3 (z.1.map MRef.cells))], [], 53⟩) (fun z => Sw a b l z.1 ∧ a ≤ z.2 ∧ z.2 ≤ x.2 ∧ Ins mLt a z.2 x.2 z.1) (fun z => z.2) (x.1, x.2) ⟨hJ.1, (by (try simp only) <;> omega), Nat.le_refl _, Ins.start hJ.2.2⟩ ?_ ?_
  ·exact Zb [0] ⟨rfl, rfl, rfl, rfl, rfl, rfl, trivial⟩ rfl (by decide) rfl rfl
  rintro z hJ2
  have hm2 := hJ2.1.len
  refine qS (qS ?_)
  refine Zz [0, 0, 3, 7, 15, 15, 15, 111, 239, 15, 15, 1039, 3599, 7695, 16383, 32767, 65535] 17 rfl (by kernel_rfl) ?_
  refine cM2 (cM2 ?_)
  refine ce eI ?_
  refine cM2 (cTM (cTM (cTM ?_)))
  refine Zc (wT rfl rfl rfl rfl) rfl (fun hg => (Z1 z.2 rfl (Ze hg rfl) (Ze hg rfl) (by (try simp at hg) <;> omega) (by (try simp at hg) <;> omega) (by omega))) ?_
  refine Zq (f := MRef.cells) 0 (wT rfl rfl rfl rfl) rfl rfl (fun hg => (Ze hg rfl)) rfl (fun hg => by (try simp at hg) <;> omega) (fun _ => Z01 rfl) ?_
  refine cTM (cTM ?_)
  refine Zc (wT rfl rfl rfl rfl) rfl (fun hg => (Z9 rfl (Ze hg rfl) rfl (Z0c (by omega)))) ?_
  refine Zc (wT rfl rfl rfl rfl) rfl (fun hg => (Z1 (z.2 - 1) rfl (Ze hg rfl) (Ze hg rfl) (by (try simp at hg) <;> omega) (by (try simp at hg) <;> omega) (by omega))) ?_
  refine Zq (f := MRef.cells) 0 (wT rfl rfl rfl rfl) rfl rfl (fun hg => (Ze hg rfl)) rfl (fun hg => by (try simp at hg) <;> omega) (fun _ => Z01 rfl) ?_
  refine Zc (wT rfl rfl rfl rfl) rfl (fun hg => (Z8 [] rfl (Ze hg rfl) (Zg (Ze hg rfl) (Zg (Ze hg rfl) Z05)) (Z0q _ _) List.nodup_nil)) ?_
  refine Zc (wT rfl rfl rfl rfl) rfl (fun hg => (Zr rfl (Ze hg rfl) rfl rfl)) ?_
  refine ce (Zs rfl rfl rfl (fun h => h)) ?_
  refine .done (qN ?_)
  refine Z2 rfl ?_ ?_
  ·intro hc
   have hk : a < z.2 := by have := Z27 hc; simpa using this
   have hlt : mLt (z.1.getD z.2 default) (z.1.getD (z.2 - 1) default) = true := Z28 hc
   refine qK (qS (qB ?_))
   refine Z08 [0, 0, 0, 0, 8, 0, 0, 64, 224, 480, 0, 0, 3072, 7168, 16355, 32739, 65535, 131071] [15, 17] [9, 13] rfl (by kernel_rfl) ?_
   refine wM2 (wM2 (wM2 (wM2 ?_)))
   refine we eL ?_
   refine wM2 (wM2 ?_)
   refine we eL ?_
   refine we (eO (z.2 - 1)) ?_
   refine wLc 0 ?_
   refine wM2 (wM2 ?_)
   refine we (Z1 z.2 rfl rfl rfl (by omega) (by omega) (by omega)) ?_
   refine wLc 0 ?_
   refine we (Z1 z.2 rfl rfl rfl (by omega) (by omega) (by omega)) ?_
   refine Zm (f := MRef.cells) 0 (fun _ => rfl) (fun _ => rfl) (w0 rfl) rfl rfl rfl rfl (by first | omega | (simp; omega)) rfl rfl ?_
   refine we (eO (z.2 - 1)) ?_
   refine Zm (f := MRef.cells) 0 (fun _ => rfl) (fun _ => rfl) (w0 rfl) rfl rfl rfl rfl (by first | omega | (simp; omega)) rfl rfl ?_
   refine .done (qR (qM ?_))
   refine qe eL ?_
   refine qA (qN ?_)
   refine ⟨(swp z.1 z.2 (z.2 - 1), z.2 - 1), ⟨.step _ _ hJ2.1 (by (try simp only) <;> omega) (by (try simp only) <;> omega) (by (try simp only) <;> omega), (by (try simp only) <;> omega), (by (try simp only) <;> omega), hJ2.2.2.2.step mLtT.ok hk (by (try simp only) <;> omega) (by (try simp only) <;> omega) hlt⟩, (by (try simp only) <;> omega), ?_⟩
   exact qp [0] ⟨(congrArg (fun n => some (iA n)) (by (try simp only) <;> omega)), rfl, rfl, rfl, rfl, rfl, trivial⟩
  ·intro hc
   have hst : z.2 ≤ a ∨ mLt (z.1.getD z.2 default) (z.1.getD (z.2 - 1) default) = false := by rcases Bool.and_eq_false_iff.1 hc with h | h; exact .inl (by simpa using h); exact .inr h
   have hdn := hJ2.2.2.2.done hst
   refine qX (qR (qM ?_))
   refine qe eP ?_
   refine qA (qN ?_)
   refine ⟨(z.1, x.2 + 1), ⟨hJ2.1, (by (try simp only) <;> omega), hdn⟩, (by (try simp only) <;> omega), ?_⟩
   exact qp [0] ⟨rfl, rfl, rfl, rfl, rfl, trivial⟩
 ·intro hc
  have hx : ¬ x.2 < b := by simpa using hc
  refine qX ?_
  exact Zf rfl Z4 (.cons_cons _ .slnil) (gp x.1 ⟨hJ.1, fun k h1 h2 => hJ.2.2 k h1 (by omega)⟩ rfl rfl)
theorem Zbt (q n : Nat) (l : List MRef) (hn : l.length = n) (hN : n ≤ 140737488355328) (lo hi f : Nat) (hf : f + hi ≤ n) (hlo : lo ≤ n) (hh : Heap mLt (lo + 1) hi f l) : ACalls Tryz.prog 184 [.own q 3 0 n, iA lo, iA hi, iA f, .fn (.func 56) []] [(q, .rows 25 3 (l.map MRef.cells))] (GP (fun _ : List MRef => mkRes []) (fun m => [(q, .rows 25 3 (m.map MRef.cells))]) (fun m => Sw f (f + hi) l m ∧ Heap mLt lo hi f m)) := by
 refine Zd (n := 82) Tryz.func184 rfl (by decide +kernel) rfl rfl ?_
 refine qS (qR (qM (qA (qN (qB ?_)))))
 refine Zj (α := List MRef × Nat) (fun z => ⟨[(10, iA z.2), (0, .own q 3 0 n), (2, iA hi), (3, iA f), (4, .fn (.func 56) [])], [(q, .rows 25 3 (z.1.map MRef.cells))], [], 82⟩) (fun z => Sw f (f + hi) l z.1 ∧ lo ≤ z.2 ∧ (z.2 < hi ∨ z.2 = lo) ∧ Sift mLt lo hi f z.2 z.1) (fun z => hi - z.2) (l, lo) ⟨.refl, Nat.le_refl _, .inr rfl, Sift.start hh⟩ ?_ ?_
 ·exact Zb [0] ⟨rfl, rfl, rfl, rfl, rfl, trivial⟩ rfl (by decide) rfl rfl
 rintro z hJ
 have hm := hJ.1.len
 have hz := hJ.2.2.1
 refine qB (qS (qR (qM ?_)))
 refine qe (Z9 rfl rfl rfl (Z1c (by omega))) ?_
 refine qe eP ?_
 refine qA (qN (qS (qS (qR (qM (qM ?_))))))
 refine qe eI ?_
 refine qN ?_
 refine Z2 rfl ?_ ?_
 ·intro hc
  have hleaf : hi ≤ 2 * z.2 + 1 := by simp at hc; omega
  refine qX ?_
  exact Zf rfl Z4 (.cons_cons _ .slnil) (gp z.1 ⟨hJ.1, hJ.2.2.2.leaf hleaf⟩ rfl rfl)
 ·intro hc
  have hch : 2 * z.2 + 1 < hi := by simp at hc; omega
  refine qK (qS (qS ?_))
  refine Zz [0, 1, 0, 7, 15, 31, 31, 31, 31, 415, 991, 2015, 31, 31, 31, 24607, 57375, 127007, 258079, 524287, 1048575, 2097151] 22 rfl (by kernel_rfl) ?_
  refine cM2 ?_
  refine ce eP ?_
  refine cM2 ?_
  refine ce eI ?_
  refine cM2 (cTM (cTM (cTM (cTM ?_))))
  refine Zc (wT rfl rfl rfl rfl) rfl (fun hg => (Z9 rfl (Ze hg rfl) (Ze hg rfl) (Zn (by omega)))) ?_
  refine Zc (wT rfl rfl rfl rfl) rfl (fun hg => (Z1 (f + ((2 * z.2) + 1)) rfl (Ze hg rfl) (Ze hg rfl) (by (try simp at hg) <;> omega) (by (try simp at hg) <;> omega) (by omega))) ?_
  refine Zq (f := MRef.cells) 0 (wT rfl rfl rfl rfl) rfl rfl (fun hg => (Ze hg rfl)) rfl (fun hg => by (try simp at hg) <;> omega) (fun _ => Z01 rfl) ?_
  refine cTM (cTM (cTM ?_))
  refine Zc (wT rfl rfl rfl rfl) rfl (fun hg => (Z9 rfl (Ze hg rfl) (Ze hg rfl) (Zn (by omega)))) ?_
  refine Zc (wT rfl rfl rfl rfl) rfl (fun hg => (Z9 rfl (Ze hg rfl) rfl (Zn (by omega)))) ?_
  refine Zc (wT rfl rfl rfl rfl) rfl (fun hg => (Z1 ((f + ((2 * z.2) + 1)) + 1) rfl (Ze hg rfl) (Ze hg rfl) (by (try simp at hg) <;> omega) (by (try simp at hg) <;> omega) (by omega))) ?_
  refine Zq (f := MRef.cells) 0 (wT rfl rfl rfl rfl) rfl rfl (fun hg => (Ze hg rfl)) rfl (fun hg => by (try simp at hg) <;> omega) (fun _ => Z01 rfl) ?_
  refine Zc (wT rfl rfl rfl rfl) rfl (fun hg => (Z8 [] rfl (Ze hg rfl) (Zg (Ze hg rfl) (Zg (Ze hg rfl) Z05)) (Z0q _ _) List.nodup_nil)) ?_
  refine Zc (wT rfl rfl rfl rfl) rfl (fun hg => (Zr rfl (Ze hg rfl) rfl rfl)) ?_
  refine ce (Zs rfl rfl rfl (fun h => h)) ?_
  refine .done (qN ?_)
  refine Z2 rfl ?_ ?_
  ·intro hc
   have hc1 : 2 * z.2 + 1 + 1 < hi := by have := Z27 hc; simp at this; omega
   have hl1 : mLt (hp z.1 f (2 * z.2 + 1)) (hp z.1 f (2 * z.2 + 1 + 1)) = true := Z28 hc
   have hmax : ∀ c, (c = 2 * z.2 + 1 ∨ c = 2 * z.2 + 2) → c < hi → mLt (hp z.1 f (2 * z.2 + 1 + 1)) (hp z.1 f c) = false := fun c h1 h2 => by rcases h1 with rfl | rfl; exact mLtT.ok.asy _ _ hl1; exact mLtT.ok.irr _
   refine qR (qM ?_)
   refine qe eP ?_
   refine qA (qN (qS (qS ?_)))
   refine Zz [0, 0, 0, 0, 12, 30, 62, 0, 0, 0, 768, 1920, 3968, 8191, 16383, 32767] 16 rfl (by kernel_rfl) ?_
   refine cM2 (cM2 (cM2 (cM2 ?_)))
   refine ce eP ?_
   refine ce (eO (f + z.2)) ?_
   refine Za 0 (w0 rfl) rfl rfl rfl rfl (Z0g (by omega)) (Z01 rfl) ?_
   refine cM2 (cM2 (cM2 ?_))
   refine ce eP ?_
   refine ce (Z1 (f + (((2 * z.2) + 1) + 1)) rfl rfl rfl (by omega) (by omega) (by omega)) ?_
   refine Za 0 (w0 rfl) rfl rfl rfl rfl (Z0g (by omega)) (Z01 rfl) ?_
   refine ce (Z8 [] rfl rfl rfl (Z0q _ _) List.nodup_nil) ?_
   refine ce eI ?_
   refine ce (Z03 rfl rfl) ?_
   refine .done (qN ?_)
   refine Z2 rfl ?_ ?_
   ·intro hc
    have hstop := Z1u hc
    refine qE ?_
    exact Zf rfl Z4 (.cons_cons _ .slnil) (gp z.1 ⟨hJ.1, hJ.2.2.2.stop mLtT.ok hmax hstop⟩ rfl rfl)
   ·intro hc
    have hlt := Z2c hc
    refine qK (qS ?_)
    refine Z08 [0, 0, 0, 6, 0, 0, 0, 96, 0, 0, 0, 1536, 3840, 7936, 0, 0, 0, 98304, 245760, 507904, 1048335, 2096911, 4194303, 8388607] [21, 23] [13, 19] rfl (by kernel_rfl) ?_
    refine wM2 (wM2 (wM2 ?_))
    refine we eP ?_
    refine wM2 (wM2 (wM2 ?_))
    refine we eP ?_
    refine wM2 (wM2 (wM2 ?_))
    refine we eP ?_
    refine we (Z1 (f + (((2 * z.2) + 1) + 1)) rfl rfl rfl (by omega) (by omega) (by omega)) ?_
    refine wLc 0 ?_
    refine wM2 (wM2 (wM2 ?_))
    refine we eP ?_
    refine we (eO (f + z.2)) ?_
    refine wLc 0 ?_
    refine we (eO (f + z.2)) ?_
    refine Zm (f := MRef.cells) 0 (fun _ => rfl) (fun _ => rfl) (w0 rfl) rfl rfl rfl rfl (by first | omega | (simp; omega)) rfl rfl ?_
    refine we (Z1 (f + (((2 * z.2) + 1) + 1)) rfl rfl rfl (by omega) (by omega) (by omega)) ?_
    refine Zm (f := MRef.cells) 0 (fun _ => rfl) (fun _ => rfl) (w0 rfl) rfl rfl rfl rfl (by first | omega | (simp; omega)) rfl rfl ?_
    refine .done (qR (qM (qA (qN ?_))))
    refine ⟨(swp z.1 (f + z.2) (f + (2 * z.2 + 1 + 1)), (2 * z.2 + 1 + 1)), ⟨.step _ _ hJ.1 (by (try simp only) <;> omega) (by (try simp only) <;> omega) (by (try simp only) <;> omega), (by (try simp only) <;> omega), .inl (by (try simp only) <;> omega), hJ.2.2.2.step (c0 := (2 * z.2 + 1 + 1)) mLtT.ok hJ.2.1 (.inr rfl) (by (try simp only) <;> omega) (by (try simp only) <;> omega) hmax hlt⟩, (by (try simp only) <;> omega), ?_⟩
    exact qp [0] ⟨rfl, rfl, rfl, rfl, rfl, trivial⟩
  ·intro hc
   have hmax : ∀ c, (c = 2 * z.2 + 1 ∨ c = 2 * z.2 + 2) → c < hi → mLt (hp z.1 f (2 * z.2 + 1)) (hp z.1 f c) = false := fun c h1 h2 => by rcases h1 with rfl | rfl; exact mLtT.ok.irr _; rcases Bool.and_eq_false_iff.1 hc with h | h; simp at h; omega; exact h
   refine qK (qS (qS ?_))
   refine Zz [0, 0, 0, 0, 12, 30, 62, 0, 0, 0, 768, 1920, 3968, 8191, 16383, 32767] 16 rfl (by kernel_rfl) ?_
   refine cM2 (cM2 (cM2 (cM2 ?_)))
   refine ce eP ?_
   refine ce (eO (f + z.2)) ?_
   refine Za 0 (w0 rfl) rfl rfl rfl rfl (Z0g (by omega)) (Z01 rfl) ?_
   refine cM2 (cM2 (cM2 ?_))
   refine ce eP ?_
   refine ce (eO (f + ((2 * z.2) + 1))) ?_
   refine Za 0 (w0 rfl) rfl rfl rfl rfl (Z0g (by omega)) (Z01 rfl) ?_
   refine ce (Z8 [] rfl rfl rfl (Z0q _ _) List.nodup_nil) ?_
   refine ce eI ?_
   refine ce (Z03 rfl rfl) ?_
   refine .done (qN ?_)
   refine Z2 rfl ?_ ?_
   ·intro hc
    have hstop := Z1u hc
    refine qE ?_
    exact Zf rfl Z4 (.cons_cons _ .slnil) (gp z.1 ⟨hJ.1, hJ.2.2.2.stop mLtT.ok hmax hstop⟩ rfl rfl)
   ·intro hc
    have hlt := Z2c hc
    refine qK (qS ?_)
    refine Z08 [0, 0, 0, 6, 0, 0, 0, 96, 0, 0, 0, 1536, 3840, 7936, 0, 0, 0, 98304, 245760, 507904, 1048335, 2096911, 4194303, 8388607] [21, 23] [13, 19] rfl (by kernel_rfl) ?_
    refine wM2 (wM2 (wM2 ?_))
    refine we eP ?_
    refine wM2 (wM2 (wM2 ?_))
    refine we eP ?_
    refine wM2 (wM2 (wM2 ?_))
    refine we eP ?_
    refine we (eO (f + ((2 * z.2) + 1))) ?_
    refine wLc 0 ?_
    refine wM2 (wM2 (wM2 ?_))
    refine we eP ?_
    refine we (eO (f + z.2)) ?_
    refine wLc 0 ?_
    refine we (eO (f + z.2)) ?_
    refine Zm (f := MRef.cells) 0 (fun _ => rfl) (fun _ => rfl) (w0 rfl) rfl rfl rfl rfl (by first | omega | (simp; omega)) rfl rfl ?_
    refine we (eO (f + ((2 * z.2) + 1))) ?_
    refine Zm (f := MRef.cells) 0 (fun _ => rfl) (fun _ => rfl) (w0 rfl) rfl rfl rfl rfl (by first | omega | (simp; omega)) rfl rfl ?_
    refine .done (qR (qM (qA (qN ?_))))
    refine ⟨(swp z.1 (f + z.2) (f + (2 * z.2 + 1)), (2 * z.2 + 1)), ⟨.step _ _ hJ.1 (by (try simp only) <;> omega) (by (try simp only) <;> omega) (by (try simp only) <;> omega), (by (try simp only) <;> omega), .inl (by (try simp only) <;> omega), hJ.2.2.2.step (c0 := (2 * z.2 + 1)) mLtT.ok hJ.2.1 (.inl rfl) (by (try simp only) <;> omega) (by (try simp only) <;> omega) hmax hlt⟩, (by (try simp only) <;> omega), ?_⟩
    exact qp [0] ⟨rfl, rfl, rfl, rfl, rfl, trivial⟩
theorem Z8m (q n : Nat) (l : List MRef) (hn : l.length = n) (hN : n ≤ 140737488355328) (a b : Nat) (ha : a ≤ b) (hb : b ≤ n) : ACalls Tryz.prog 159 [.own q 3 0 n, iA a, iA b, .fn (.func 56) []] [(q, .rows 25 3 (l.map MRef.cells))] (GP (fun _ : List MRef => mkRes []) (fun m => [(q, .rows 25 3 (m.map MRef.cells))]) (fun m => Sw a b l m ∧ SOn mLt a b m)) := by
 refine Zd (n := 60) Tryz.func159 rfl (by decide +kernel) rfl rfl ?_
 refine qS (qR (qM (qA (qN (qS (qR (qA (qN (qS (qR (qM (qM ?_))))))))))))
 refine qe (Zv (y := iA (b - a : Nat)) (eL) (congrArg iA (by omega))) ?_
 refine qA (qN (qS (qS (qR (qM ?_)))))
 refine qe eL ?_
 refine qe (Zv (y := iA ((b - a - 1) / 2 : Nat)) (Z0r rfl rfl rfl (by decide) (by (rw [Zb1 ha]; omega))) (congrArg iA (Zb1 ha))) ?_
 refine qA (qN (qB ?_))
 refine Zj (α := List MRef × Nat) (fun x => ⟨[(11, iA ((x.2 : Int) - 1)), (0, .own q 3 0 n), (8, iA a), (9, iA (0 : Nat)), (10, iA (b - a : Nat)), (3, .fn (.func 56) [])], [(q, .rows 25 3 (x.1.map MRef.cells))], [], 60⟩) (fun x => Sw a b l x.1 ∧ Heap mLt x.2 (b - a) a x.1 ∧ x.2 ≤ (b - a) + 1) (fun x => x.2) (l, (b - a - 1) / 2 + 1) ⟨.refl, Heap.none (by (try simp only) <;> omega), (by (try simp only) <;> omega)⟩ ?_ ?_
 ·exact Zb [0] ⟨(congrArg (fun n => some (iA n)) (by (try simp only) <;> omega)), rfl, rfl, rfl, rfl, rfl, trivial⟩ rfl (by decide) rfl rfl
 rintro x hJ
 have hm := hJ.1.len
 refine qS (qS (qR (qM ?_)))
 refine qe eI ?_
 refine qN ?_
 refine Z2 rfl ?_ ?_
 ·intro hc
  have hx : 0 < x.2 := by simp at hc; omega
  refine qK (qS (qB ?_))
  refine Z2j 11 rfl (show _ = ((x.2 - 1 : Nat) : Int) by omega) ?_
  refine qR (qM (qM (qM (qM (qM ?_)))))
  refine Z5 [_] _ (w0 rfl) rfl rfl rfl rfl (Zk (k := 0) rfl) (Zbt q n x.1 (by omega) hN (x.2 - 1) (b - a) a (by omega) (by omega) (by rw [show x.2 - 1 + 1 = x.2 from by omega]; exact hJ.2.1)) (fun v1 hv1 => ?_)
  refine qN (qR (qM ?_))
  refine qe eL ?_
  refine qA (qN ?_)
  refine ⟨(v1, x.2 - 1), ⟨hJ.1.trans (hv1.1.mono (Nat.le_refl _) (by omega) (by omega)), hv1.2, (by (try simp only) <;> omega)⟩, (by (try simp only) <;> omega), ?_⟩
  exact qp [0] ⟨(congrArg (fun n => some (iA n)) (by (try simp only) <;> omega)), rfl, rfl, rfl, rfl, rfl, trivial⟩
 ·intro hc
  have hx0 : x.2 = 0 := by simp at hc; omega
  refine qX (qS (qR (qM ?_)))
  refine qe eL ?_
  refine qA (qN (qB ?_))
  refine Zj (α := List MRef × Nat) (fun y => ⟨[(12, iA ((y.2 : Int) - 1)), (0, .own q 3 0 n), (8, iA a), (9, iA (0 : Nat)), (10, iA (b - a : Nat)), (3, .fn (.func 56) [])], [(q, .rows 25 3 (y.1.map MRef.cells))], [], 60⟩) (fun y => Sw a b l y.1 ∧ Pops mLt a b y.2 y.1 ∧ y.2 ≤ b - a) (fun y => y.2) (x.1, b - a) ⟨hJ.1, Pops.start ha (hx0 ▸ hJ.2.1), Nat.le_refl _⟩ ?_ ?_
  ·exact Zb [0] ⟨(congrArg (fun n => some (iA n)) (by (try simp only) <;> omega)), rfl, rfl, rfl, rfl, rfl, trivial⟩ rfl (by decide) rfl rfl
  rintro y hJ1
  have hm1 := hJ1.1.len
  refine qS (qS (qR (qM ?_)))
  refine qe eI ?_
  refine qN ?_
  refine Z2 rfl ?_ ?_
  ·intro hc
   have hy : 0 < y.2 := by simp at hc; omega
   have hsw := Pops.swap mLtT.ok (i := y.2 - 1) (by rw [show y.2 - 1 + 1 = y.2 from by omega]; exact hJ1.2.1) (by omega) (by omega : b ≤ y.1.length)
   refine qK (qS (qB (qS ?_)))
   refine Z2j 12 rfl (show _ = ((y.2 - 1 : Nat) : Int) by omega) ?_
   refine Z08 [0, 0, 0, 0, 0, 24, 0, 0, 0, 384, 960, 1984, 0, 0, 12288, 28672, 65475, 131011, 262143, 524287] [17, 19] [11, 15] rfl (by kernel_rfl) ?_
   refine wM2 (wM2 (wM2 (wM2 (wM2 ?_))))
   refine we eP ?_
   refine wM2 (wM2 (wM2 ?_))
   refine we eP ?_
   refine we (eO (a + (y.2 - 1))) ?_
   refine wLc 0 ?_
   refine wM2 (wM2 ?_)
   refine we (eO a) ?_
   refine wLc 0 ?_
   refine we (eO a) ?_
   refine Zm (f := MRef.cells) 0 (fun _ => rfl) (fun _ => rfl) (w0 rfl) rfl rfl rfl rfl (by first | omega | (simp; omega)) rfl rfl ?_
   refine we (eO (a + (y.2 - 1))) ?_
   refine Zm (f := MRef.cells) 0 (fun _ => rfl) (fun _ => rfl) (w0 rfl) rfl rfl rfl rfl (by first | omega | (simp; omega)) rfl rfl ?_
   refine .done (qR (qM (qM (qM (qM (qM ?_))))))
   refine Z5 [_] _ (w0 rfl) rfl rfl rfl rfl (Zk (k := 0) rfl) (Zbt q n (swp y.1 a (a + (y.2 - 1))) (by rw [Z21]; omega) hN 0 (y.2 - 1) a (by omega) (by omega) hsw.1) (fun v2 hv2 => ?_)
   refine qN (qR (qM ?_))
   refine qe eL ?_
   refine qA (qN ?_)
   refine ⟨(v2, y.2 - 1), ⟨(Sw.step _ _ hJ1.1 (by (try simp only) <;> omega) (by (try simp only) <;> omega) (by (try simp only) <;> omega)).trans (hv2.1.mono (Nat.le_refl _) (by omega) (by rw [Z21]; omega)), Pops.sift hsw.2.1 hsw.2.2 hv2.1 hv2.2, (by (try simp only) <;> omega)⟩, (by (try simp only) <;> omega), ?_⟩
   exact qp [0] ⟨(congrArg (fun n => some (iA n)) (by (try simp only) <;> omega)), rfl, rfl, rfl, rfl, rfl, trivial⟩
  ·intro hc
   have hy0 : y.2 = 0 := by simp at hc; omega
   refine qX ?_
   exact Zf rfl Z4 (.cons_cons _ .slnil) (gp y.1 ⟨hJ1.1, by have := hJ1.2.1.srt; rwa [hy0, Nat.add_zero] at this⟩ rfl rfl)
theorem Z3b (q n : Nat) (l : List MRef) (hn : l.length = n) (hN : n ≤ 140737488355328) (a b p : Nat) (hap : a ≤ p) (hpb : p < b) (hb : b ≤ n) : ACalls Tryz.prog 165 [.own q 3 0 n, iA a, iA b, iA p, .fn (.func 56) []] [(q, .rows 25 3 (l.map MRef.cells))] (GP (fun r : List MRef × Nat × Bool => .tup [iA r.2.1, bA r.2.2]) (fun r => [(q, .rows 25 3 (r.1.map MRef.cells))]) (fun r => Sw a b l r.1 ∧ a ≤ r.2.1 ∧ r.2.1 < b ∧ PartR mLt a b r.2.1 r.1)) := by
 have hm0 : Sw a b l (swp l a p) := .step _ _ .refl ⟨Nat.le_refl _, by omega⟩ ⟨hap, hpb⟩ (by (try simp only) <;> omega)
 have hl0 : (swp l a p).length = n := by rw [Z21]; exact hn
 refine Zd (n := 178) Tryz.func165 rfl (by decide +kernel) rfl rfl ?_
 refine qS (qR (qA (qA (qN (qS ?_)))))
 refine Z08 [0, 0, 0, 0, 0, 0, 48, 112, 0, 0, 768, 1792, 4083, 8179, 16383, 32767] [13, 15] [7, 11] rfl (by kernel_rfl) ?_
 refine wM2 (wM2 (wM2 (wM2 (wM2 (wM2 ?_)))))
 refine we (eO p) ?_
 refine wLc 0 ?_
 refine wM2 (wM2 ?_)
 refine we (eO a) ?_
 refine wLc 0 ?_
 refine we (eO a) ?_
 refine Zm (f := MRef.cells) 0 (fun _ => rfl) (fun _ => rfl) (w0 rfl) rfl rfl rfl rfl (by first | omega | (simp; omega)) rfl rfl ?_
 refine we (eO p) ?_
 refine Zm (f := MRef.cells) 0 (fun _ => rfl) (fun _ => rfl) (w0 rfl) rfl rfl rfl rfl (by first | omega | (simp; omega)) rfl rfl ?_
 refine .done (qS (qR (qM ?_)))
 refine qe eP ?_
 refine qM ?_
 refine qe (Zv (y := iA (b - 1 : Nat)) (eL) (congrArg iA (by (try simp only) <;> omega))) ?_
 refine qA (qA (qN (qS (qB ?_))))
 refine Zj (α := Nat) (fun x => ⟨[(12, iA x), (13, iA (b - 1 : Nat)), (0, .own q 3 0 n), (1, iA a), (4, .fn (.func 56) [])], [(q, .rows 25 3 ((swp l a p).map MRef.cells))], [], 178⟩) (fun x => a + 1 ≤ x ∧ x ≤ b ∧ ∀ k, a < k → k < x → mLt ((swp l a p).getD k default) ((swp l a p).getD a default) = true) (fun x => b - x) (a + 1) ⟨Nat.le_refl _, by omega, fun k h1 h2 => by omega⟩ ?_ ?_
 ·exact Zb [0] ⟨rfl, rfl, rfl, rfl, rfl, trivial⟩ rfl (by decide) rfl rfl
 rintro x hJ
 refine qS (qS ?_)
 refine Zz [0, 0, 3, 7, 15, 15, 15, 111, 239, 15, 15, 1551, 3599, 8191, 16383, 32767] 16 rfl (by kernel_rfl) ?_
 refine cM2 (cM2 ?_)
 refine ce eI ?_
 refine cM2 (cTM (cTM (cTM ?_)))
 refine Zc (wT rfl rfl rfl rfl) rfl (fun hg => (Z1 x rfl (Ze hg rfl) (Ze hg rfl) (by (try simp at hg) <;> omega) (by (try simp at hg) <;> omega) (by omega))) ?_
 refine Zq (f := MRef.cells) 0 (wT rfl rfl rfl rfl) rfl rfl (fun hg => (Ze hg rfl)) rfl (fun hg => by (try simp at hg) <;> omega) (fun _ => Z01 rfl) ?_
 refine cTM (cTM ?_)
 refine Zc (wT rfl rfl rfl rfl) rfl (fun hg => (Z1 a rfl (Ze hg rfl) (Ze hg rfl) (by (try simp at hg) <;> omega) (by (try simp at hg) <;> omega) (by omega))) ?_
 refine Zq (f := MRef.cells) 0 (wT rfl rfl rfl rfl) rfl rfl (fun hg => (Ze hg rfl)) rfl (fun hg => by (try simp at hg) <;> omega) (fun _ => Z01 rfl) ?_
 refine Zc (wT rfl rfl rfl rfl) rfl (fun hg => (Z8 [] rfl (Ze hg rfl) (Zg (Ze hg rfl) (Zg (Ze hg rfl) Z05)) (Z0q _ _) List.nodup_nil)) ?_
 refine Zc (wT rfl rfl rfl rfl) rfl (fun hg => (Zr rfl (Ze hg rfl) rfl rfl)) ?_
 refine ce (Zs rfl rfl rfl (fun h => h)) ?_
 refine .done (qN ?_)
 refine Z2 rfl ?_ ?_
 ·intro hc
  have hle : x ≤ (b - 1) := by have := Z27 hc; simpa using this
  have hv := Z28 hc
  refine qK (qB (qR (qM ?_)))
  refine qe eP ?_
  refine qA (qN ?_)
  refine ⟨(x + 1), ⟨by omega, by omega, fun k h1 h2 => by rcases Nat.lt_succ_iff_lt_or_eq.1 h2 with h | h; exact hJ.2.2 k h1 h; rw [h]; exact hv⟩, (by (try simp only) <;> omega), ?_⟩
  exact qp [0] ⟨rfl, rfl, rfl, rfl, rfl, trivial⟩
 ·intro hc
  have hA : (b - 1) < x ∨ mLt ((swp l a p).getD x default) ((swp l a p).getD a default) = false := by rcases Bool.and_eq_false_iff.1 hc with h | h; exact .inl (by simpa using h); exact .inr h
  refine qX (qS (qB ?_))
  refine Zj (α := Nat) (fun y => ⟨[(12, iA x), (13, iA y), (0, .own q 3 0 n), (1, iA a), (4, .fn (.func 56) [])], [(q, .rows 25 3 ((swp l a p).map MRef.cells))], [], 178⟩) (fun y => y < b ∧ x ≤ y + 1 ∧ ∀ k, y < k → k < b → mLt ((swp l a p).getD k default) ((swp l a p).getD a default) = false) (fun y => y) (b - 1) ⟨by omega, by omega, fun k h1 h2 => by omega⟩ ?_ ?_
  ·exact Zb [0] ⟨rfl, rfl, rfl, rfl, rfl, trivial⟩ rfl (by decide) rfl rfl
  rintro y hJ1
  refine qS (qS ?_)
  refine Zz [0, 0, 3, 7, 15, 15, 15, 111, 239, 15, 15, 1551, 3599, 8191, 16383, 32767, 65535] 17 rfl (by kernel_rfl) ?_
  refine cM2 (cM2 ?_)
  refine ce eI ?_
  refine cM2 (cTM (cTM (cTM ?_)))
  refine Zc (wT rfl rfl rfl rfl) rfl (fun hg => (Z1 y rfl (Ze hg rfl) (Ze hg rfl) (by (try simp at hg) <;> omega) (by (try simp at hg) <;> omega) (by omega))) ?_
  refine Zq (f := MRef.cells) 0 (wT rfl rfl rfl rfl) rfl rfl (fun hg => (Ze hg rfl)) rfl (fun hg => by (try simp at hg) <;> omega) (fun _ => Z01 rfl) ?_
  refine cTM (cTM ?_)
  refine Zc (wT rfl rfl rfl rfl) rfl (fun hg => (Z1 a rfl (Ze hg rfl) (Ze hg rfl) (by (try simp at hg) <;> omega) (by (try simp at hg) <;> omega) (by omega))) ?_
  refine Zq (f := MRef.cells) 0 (wT rfl rfl rfl rfl) rfl rfl (fun hg => (Ze hg rfl)) rfl (fun hg => by (try simp at hg) <;> omega) (fun _ => Z01 rfl) ?_
  refine Zc (wT rfl rfl rfl rfl) rfl (fun hg => (Z8 [] rfl (Ze hg rfl) (Zg (Ze hg rfl) (Zg (Ze hg rfl) Z05)) (Z0q _ _) List.nodup_nil)) ?_
  refine Zc (wT rfl rfl rfl rfl) rfl (fun hg => (Zr rfl (Ze hg rfl) rfl rfl)) ?_
  refine Zc (wT rfl rfl rfl rfl) rfl (fun hg => (Z03 rfl (Ze hg rfl))) ?_
  refine ce (Zs rfl rfl rfl (fun h => h)) ?_
  refine .done (qN ?_)
  refine Z2 rfl ?_ ?_
  ·intro hc
   have hle : x ≤ y := by have := Z27 hc; simpa using this
   have hv := Z28 hc
   refine qK (qB (qR (qM ?_)))
   refine qe eL ?_
   refine qA (qN ?_)
   refine ⟨(y - 1), ⟨by omega, by omega, fun k h1 h2 => by by_cases e : k = y; rw [e]; exact Z1u hv; exact hJ1.2.2 k (by (try simp only) <;> omega) h2⟩, (by (try simp only) <;> omega), ?_⟩
   exact qp [0] ⟨rfl, (congrArg (fun n => some (iA n)) (by (try simp only) <;> omega)), rfl, rfl, rfl, trivial⟩
  ·intro hc
   have hB : y < x ∨ (!mLt ((swp l a p).getD y default) ((swp l a p).getD a default)) = false := by rcases Bool.and_eq_false_iff.1 hc with h | h; exact .inl (by simpa using h); exact .inr h
   refine qX (qS (qS (qR (qM (qM ?_)))))
   refine qe eI ?_
   refine qN ?_
   refine Z2 rfl ?_ ?_
   ·intro hc
    have hgt : y < x := by simpa using hc
    refine qS ?_
    refine Z08 [0, 0, 0, 0, 0, 0, 48, 112, 0, 0, 768, 1792, 4083, 8179, 16383, 32767] [13, 15] [7, 11] rfl (by kernel_rfl) ?_
    refine wM2 (wM2 (wM2 (wM2 (wM2 (wM2 ?_)))))
    refine we (eO a) ?_
    refine wLc 0 ?_
    refine wM2 (wM2 ?_)
    refine we (eO y) ?_
    refine wLc 0 ?_
    refine we (eO y) ?_
    refine Zm (f := MRef.cells) 0 (fun _ => rfl) (fun _ => rfl) (w0 rfl) rfl rfl rfl rfl (by first | omega | (simp; omega)) rfl rfl ?_
    refine we (eO a) ?_
    refine Zm (f := MRef.cells) 0 (fun _ => rfl) (fun _ => rfl) (w0 rfl) rfl rfl rfl rfl (by first | omega | (simp; omega)) rfl rfl ?_
    refine .done (qS (qR (qM (qA (qA (qN (qE ?_)))))))
    exact Zf rfl (Z7 rfl (Z7 rfl Z4)) (.cons_cons _ .slnil) (gp (swp (swp l a p) y a, y, true) ⟨.step _ _ hm0 (by (try simp only) <;> omega) (by (try simp only) <;> omega) (by (try simp only) <;> omega), by simp only; omega, by simp only; omega, Part.fin ⟨hJ.2.2, hJ1.2.2⟩ (by (try simp only) <;> omega) (by (try simp only) <;> omega) (by (try simp only) <;> omega) (by (try simp only) <;> omega) (by (try simp only) <;> omega)⟩ rfl rfl)
   ·intro hc
    have hxy : x ≤ y := by simpa using hc
    have hne : x < y := Z2b (f := fun k => mLt ((swp l a p).getD k default) ((swp l a p).getD a default)) (by omega) (hA.resolve_left (by omega)) (Z2c (hB.resolve_left (by omega)))
    refine qK (qS ?_)
    refine Z08 [0, 0, 0, 0, 0, 0, 48, 112, 0, 0, 768, 1792, 4083, 8179, 16383, 32767] [13, 15] [7, 11] rfl (by kernel_rfl) ?_
    refine wM2 (wM2 (wM2 (wM2 (wM2 (wM2 ?_)))))
    refine we (eO y) ?_
    refine wLc 0 ?_
    refine wM2 (wM2 ?_)
    refine we (eO x) ?_
    refine wLc 0 ?_
    refine we (eO x) ?_
    refine Zm (f := MRef.cells) 0 (fun _ => rfl) (fun _ => rfl) (w0 rfl) rfl rfl rfl rfl (by first | omega | (simp; omega)) rfl rfl ?_
    refine we (eO y) ?_
    refine Zm (f := MRef.cells) 0 (fun _ => rfl) (fun _ => rfl) (w0 rfl) rfl rfl rfl rfl (by first | omega | (simp; omega)) rfl rfl ?_
    refine .done (qS (qR (qM ?_)))
    refine qe eP ?_
    refine qA (qN (qS (qR (qM ?_))))
    refine qe eL ?_
    refine qA (qN (qS (qB ?_)))
    refine Zj (α := List MRef × Nat × Nat) (fun z => ⟨[(12, iA z.2.1), (13, iA z.2.2), (0, .own q 3 0 n), (1, iA a), (4, .fn (.func 56) [])], [(q, .rows 25 3 (z.1.map MRef.cells))], [], 178⟩) (fun z => Sw a b l z.1 ∧ a + 1 ≤ z.2.1 ∧ z.2.1 ≤ z.2.2 + 1 ∧ z.2.2 < b ∧ Part mLt a b z.2.1 z.2.2 z.1) (fun z => z.2.2 + 1 - z.2.1) (swp (swp l a p) x y, x + 1, y - 1) ⟨.step _ _ hm0 (by (try simp only) <;> omega) (by (try simp only) <;> omega) (by (try simp only) <;> omega), (by (try simp only) <;> omega), (by (try simp only) <;> omega), (by (try simp only) <;> omega), Part.swap (i := x) (j := y) ⟨hJ.2.2, hJ1.2.2⟩ (by (try simp only) <;> omega) (by (try simp only) <;> omega) (by (try simp only) <;> omega) (by (try simp only) <;> omega) (hA.resolve_left (by (try simp only) <;> omega)) (Z2c (hB.resolve_left (by (try simp only) <;> omega)))⟩ ?_ ?_
    ·exact Zb [0] ⟨rfl, (congrArg (fun n => some (iA n)) (by (try simp only) <;> omega)), rfl, rfl, rfl, trivial⟩ rfl (by decide) rfl rfl
    rintro z hJ2
    have hm2 := hJ2.1.len
    refine qB (qS (qB ?_))
    refine Zj (α := Nat) (fun u => ⟨[(12, iA u), (13, iA z.2.2), (0, .own q 3 0 n), (1, iA a), (4, .fn (.func 56) [])], [(q, .rows 25 3 (z.1.map MRef.cells))], [], 178⟩) (fun u => z.2.1 ≤ u ∧ u ≤ z.2.2 + 1 ∧ Part mLt a b u z.2.2 z.1) (fun u => b - u) z.2.1 ⟨Nat.le_refl _, hJ2.2.2.1, hJ2.2.2.2.2⟩ ?_ ?_
    ·exact Zb [0] ⟨rfl, rfl, rfl, rfl, rfl, trivial⟩ rfl (by decide) rfl rfl
    rintro u hJ3
    refine qS (qS ?_)
    refine Zz [0, 0, 3, 7, 15, 15, 15, 111, 239, 15, 15, 1551, 3599, 8191, 16383, 32767] 16 rfl (by kernel_rfl) ?_
    refine cM2 (cM2 ?_)
    refine ce eI ?_
    refine cM2 (cTM (cTM (cTM ?_)))
    refine Zc (wT rfl rfl rfl rfl) rfl (fun hg => (Z1 u rfl (Ze hg rfl) (Ze hg rfl) (by (try simp at hg) <;> omega) (by (try simp at hg) <;> omega) (by omega))) ?_
    refine Zq (f := MRef.cells) 0 (wT rfl rfl rfl rfl) rfl rfl (fun hg => (Ze hg rfl)) rfl (fun hg => by (try simp at hg) <;> omega) (fun _ => Z01 rfl) ?_
    refine cTM (cTM ?_)
    refine Zc (wT rfl rfl rfl rfl) rfl (fun hg => (Z1 a rfl (Ze hg rfl) (Ze hg rfl) (by (try simp at hg) <;> omega) (by (try simp at hg) <;> omega) (by omega))) ?_
    refine Zq (f := MRef.cells) 0 (wT rfl rfl rfl rfl) rfl rfl (fun hg => (Ze hg rfl)) rfl (fun hg => by (try simp at hg) <;> omega) (fun _ => Z01 rfl) ?_
    refine Zc (wT rfl rfl rfl rfl) rfl (fun hg => (Z8 [] rfl (Ze hg rfl) (Zg (Ze hg rfl) (Zg (Ze hg rfl) Z05)) (Z0q _ _) List.nodup_nil)) ?_
    refine Zc (wT rfl rfl rfl rfl) rfl (fun hg => (Zr rfl (Ze hg rfl) rfl rfl)) ?_
    refine ce (Zs rfl rfl rfl (fun h => h)) ?_
    refine .done (qN ?_)
    refine Z2 rfl ?_ ?_
    ·intro hc
     have hle : u ≤ z.2.2 := by have := Z27 hc; simpa using this
     have hv := Z28 hc
     refine qK (qB (qR (qM ?_)))
     refine qe eP ?_
     refine qA (qN ?_)
     refine ⟨(u + 1), ⟨by omega, by omega, ⟨fun k h1 h2 => by rcases Nat.lt_succ_iff_lt_or_eq.1 h2 with h | h; exact hJ3.2.2.lo k h1 h; rw [h]; exact hv, hJ3.2.2.hi⟩⟩, (by (try simp only) <;> omega), ?_⟩
     exact qp [0] ⟨rfl, rfl, rfl, rfl, rfl, trivial⟩
    ·intro hc
     have hC : z.2.2 < u ∨ mLt (z.1.getD u default) (z.1.getD a default) = false := by rcases Bool.and_eq_false_iff.1 hc with h | h; exact .inl (by simpa using h); exact .inr h
     refine qX (qS (qB ?_))
     refine Zj (α := Nat) (fun v => ⟨[(12, iA u), (13, iA v), (0, .own q 3 0 n), (1, iA a), (4, .fn (.func 56) [])], [(q, .rows 25 3 (z.1.map MRef.cells))], [], 178⟩) (fun v => v ≤ z.2.2 ∧ u ≤ v + 1 ∧ Part mLt a b u v z.1) (fun v => v) z.2.2 ⟨Nat.le_refl _, hJ3.2.1, hJ3.2.2⟩ ?_ ?_
     ·exact Zb [0] ⟨rfl, rfl, rfl, rfl, rfl, trivial⟩ rfl (by decide) rfl rfl
     rintro v hJ4
     refine qS (qS ?_)
     refine Zz [0, 0, 3, 7, 15, 15, 15, 111, 239, 15, 15, 1551, 3599, 8191, 16383, 32767, 65535] 17 rfl (by kernel_rfl) ?_
     refine cM2 (cM2 ?_)
     refine ce eI ?_
     refine cM2 (cTM (cTM (cTM ?_)))
     refine Zc (wT rfl rfl rfl rfl) rfl (fun hg => (Z1 v rfl (Ze hg rfl) (Ze hg rfl) (by (try simp at hg) <;> omega) (by (try simp at hg) <;> omega) (by omega))) ?_
     refine Zq (f := MRef.cells) 0 (wT rfl rfl rfl rfl) rfl rfl (fun hg => (Ze hg rfl)) rfl (fun hg => by (try simp at hg) <;> omega) (fun _ => Z01 rfl) ?_
     refine cTM (cTM ?_)
     refine Zc (wT rfl rfl rfl rfl) rfl (fun hg => (Z1 a rfl (Ze hg rfl) (Ze hg rfl) (by (try simp at hg) <;> omega) (by (try simp at hg) <;> omega) (by omega))) ?_
     refine Zq (f := MRef.cells) 0 (wT rfl rfl rfl rfl) rfl rfl (fun hg => (Ze hg rfl)) rfl (fun hg => by (try simp at hg) <;> omega) (fun _ => Z01 rfl) ?_
     refine Zc (wT rfl rfl rfl rfl) rfl (fun hg => (Z8 [] rfl (Ze hg rfl) (Zg (Ze hg rfl) (Zg (Ze hg rfl) Z05)) (Z0q _ _) List.nodup_nil)) ?_
     refine Zc (wT rfl rfl rfl rfl) rfl (fun hg => (Zr rfl (Ze hg rfl) rfl rfl)) ?_
     refine Zc (wT rfl rfl rfl rfl) rfl (fun hg => (Z03 rfl (Ze hg rfl))) ?_
     refine ce (Zs rfl rfl rfl (fun h => h)) ?_
     refine .done (qN ?_)
     refine Z2 rfl ?_ ?_
     ·intro hc
      have hle : u ≤ v := by have := Z27 hc; simpa using this
      have hv := Z28 hc
      refine qK (qB (qR (qM ?_)))
      refine qe eL ?_
      refine qA (qN ?_)
      refine ⟨(v - 1), ⟨by omega, by omega, ⟨hJ4.2.2.lo, fun k h1 h2 => by by_cases e : k = v; rw [e]; exact Z1u hv; exact hJ4.2.2.hi k (by (try simp only) <;> omega) h2⟩⟩, (by (try simp only) <;> omega), ?_⟩
      exact qp [0] ⟨rfl, (congrArg (fun n => some (iA n)) (by (try simp only) <;> omega)), rfl, rfl, rfl, trivial⟩
     ·intro hc
      have hD : v < u ∨ (!mLt (z.1.getD v default) (z.1.getD a default)) = false := by rcases Bool.and_eq_false_iff.1 hc with h | h; exact .inl (by simpa using h); exact .inr h
      refine qX (qS (qS (qR (qM (qM ?_)))))
      refine qe eI ?_
      refine qN ?_
      refine Z2 rfl ?_ ?_
      ·intro hc
       have hgt : v < u := by simpa using hc
       refine qX (qS ?_)
       refine Z08 [0, 0, 0, 0, 0, 0, 48, 112, 0, 0, 768, 1792, 4083, 8179, 16383, 32767] [13, 15] [7, 11] rfl (by kernel_rfl) ?_
       refine wM2 (wM2 (wM2 (wM2 (wM2 (wM2 ?_)))))
       refine we (eO a) ?_
       refine wLc 0 ?_
       refine wM2 (wM2 ?_)
       refine we (eO v) ?_
       refine wLc 0 ?_
       refine we (eO v) ?_
       refine Zm (f := MRef.cells) 0 (fun _ => rfl) (fun _ => rfl) (w0 rfl) rfl rfl rfl rfl (by first | omega | (simp; omega)) rfl rfl ?_
       refine we (eO a) ?_
       refine Zm (f := MRef.cells) 0 (fun _ => rfl) (fun _ => rfl) (w0 rfl) rfl rfl rfl rfl (by first | omega | (simp; omega)) rfl rfl ?_
       refine .done (qS (qR (qM (qA (qA (qN (qE ?_)))))))
       exact Zf rfl (Z7 rfl (Z7 rfl Z4)) (.cons_cons _ .slnil) (gp (swp z.1 v a, v, false) ⟨.step _ _ hJ2.1 (by (try simp only) <;> omega) (by (try simp only) <;> omega) (by (try simp only) <;> omega), by simp only; omega, by simp only; omega, hJ4.2.2.fin (by (try simp only) <;> omega) (by (try simp only) <;> omega) (by (try simp only) <;> omega) (by (try simp only) <;> omega) (by (try simp only) <;> omega)⟩ rfl rfl)
      ·intro hc
       have huv : u ≤ v := by simpa using hc
       have hne : u < v := Z2b (f := fun k => mLt (z.1.getD k default) (z.1.getD a default)) (by omega) (hC.resolve_left (by omega)) (Z2c (hD.resolve_left (by omega)))
       refine qK (qS ?_)
       refine Z08 [0, 0, 0, 0, 0, 0, 48, 112, 0, 0, 768, 1792, 4083, 8179, 16383, 32767] [13, 15] [7, 11] rfl (by kernel_rfl) ?_
       refine wM2 (wM2 (wM2 (wM2 (wM2 (wM2 ?_)))))
       refine we (eO v) ?_
       refine wLc 0 ?_
       refine wM2 (wM2 ?_)
       refine we (eO u) ?_
       refine wLc 0 ?_
       refine we (eO u) ?_
       refine Zm (f := MRef.cells) 0 (fun _ => rfl) (fun _ => rfl) (w0 rfl) rfl rfl rfl rfl (by first | omega | (simp; omega)) rfl rfl ?_
       refine we (eO v) ?_
       refine Zm (f := MRef.cells) 0 (fun _ => rfl) (fun _ => rfl) (w0 rfl) rfl rfl rfl rfl (by first | omega | (simp; omega)) rfl rfl ?_
       refine .done (qS (qR (qM ?_)))
       refine qe eP ?_
       refine qA (qN (qR (qM ?_)))
       refine qe eL ?_
       refine qA (qN ?_)
       refine ⟨(swp z.1 u v, u + 1, v - 1), ⟨.step _ _ hJ2.1 (by (try simp only) <;> omega) (by (try simp only) <;> omega) (by (try simp only) <;> omega), (by (try simp only) <;> omega), (by (try simp only) <;> omega), (by (try simp only) <;> omega), hJ4.2.2.swap (i := u) (j := v) (by (try simp only) <;> omega) (by (try simp only) <;> omega) (by (try simp only) <;> omega) (by (try simp only) <;> omega) (hC.resolve_left (by (try simp only) <;> omega)) (Z2c (hD.resolve_left (by (try simp only) <;> omega)))⟩, (by (try simp only) <;> omega), ?_⟩
       exact qp [0] ⟨rfl, (congrArg (fun n => some (iA n)) (by (try simp only) <;> omega)), rfl, rfl, rfl, trivial⟩
theorem Z2s (q n : Nat) (l : List MRef) (hn : l.length = n) (hN : n ≤ 140737488355328) (a b p : Nat) (hap : a ≤ p) (hpb : p < b) (hb : b ≤ n) : ACalls Tryz.prog 164 [.own q 3 0 n, iA a, iA b, iA p, .fn (.func 56) []] [(q, .rows 25 3 (l.map MRef.cells))] (GP (fun r : List MRef × Nat => iA r.2) (fun r => [(q, .rows 25 3 (r.1.map MRef.cells))]) (fun r => Sw a b l r.1 ∧ a < r.2 ∧ r.2 ≤ b ∧ r.1.getD a default = l.getD p default ∧ ∃ j, r.2 = j + 1 ∧ PartE mLt a b r.2 j r.1)) := by
 have hm0 : Sw a b l (swp l a p) := .step _ _ .refl ⟨Nat.le_refl _, by omega⟩ ⟨hap, hpb⟩ (by omega)
 have hl0 : (swp l a p).length = n := by rw [Z21]; exact hn
 refine Zd (n := 90) Tryz.func164 rfl (by decide +kernel) rfl rfl ?_
 refine qS (qR (qA (qN (qS ?_))))
 refine Z08 [0, 0, 0, 0, 0, 0, 48, 112, 0, 0, 768, 1792, 4083, 8179, 16383, 32767] [13, 15] [7, 11] rfl (by kernel_rfl) ?_
 refine wM2 (wM2 (wM2 (wM2 (wM2 (wM2 ?_)))))
 refine we (eO p) ?_
 refine wLc 0 ?_
 refine wM2 (wM2 ?_)
 refine we (eO a) ?_
 refine wLc 0 ?_
 refine we (eO a) ?_
 refine Zm (f := MRef.cells) 0 (fun _ => rfl) (fun _ => rfl) (w0 rfl) rfl rfl rfl rfl (by first | omega | (simp; omega)) rfl rfl ?_
 refine we (eO p) ?_
 refine Zm (f := MRef.cells) 0 (fun _ => rfl) (fun _ => rfl) (w0 rfl) rfl rfl rfl rfl (by first | omega | (simp; omega)) rfl rfl ?_
 refine .done (qS (qR (qM ?_)))
 refine qe eP ?_
 refine qM ?_
 refine qe (Zv (y := iA (b - 1 : Nat)) (eL) (congrArg iA (by omega))) ?_
 refine qA (qA (qN (qS (qB ?_))))
 refine Zj (α := List MRef × Nat × Nat) (fun z => ⟨[(11, iA z.2.1), (12, iA z.2.2), (0, .own q 3 0 n), (1, iA a), (4, .fn (.func 56) [])], [(q, .rows 25 3 (z.1.map MRef.cells))], [], 90⟩) (fun z => Sw a b l z.1 ∧ a + 1 ≤ z.2.1 ∧ z.2.1 ≤ z.2.2 + 1 ∧ z.2.2 < b ∧ z.1.getD a default = l.getD p default ∧ PartE mLt a b z.2.1 z.2.2 z.1) (fun z => z.2.2 + 1 - z.2.1) ((swp l a p), a + 1, b - 1) ⟨hm0, (by (try simp only) <;> omega), (by (try simp only) <;> omega), (by (try simp only) <;> omega), Z68 (by omega) (by omega), ⟨fun k h1 h2 => by (try simp only at h1 h2); omega, fun k h1 h2 => by (try simp only at h1 h2); omega⟩⟩ ?_ ?_
 ·exact Zb [0] ⟨rfl, rfl, rfl, rfl, rfl, trivial⟩ rfl (by decide) rfl rfl
 rintro z hJ2
 have hm2 := hJ2.1.len
 refine qB (qS (qB ?_))
 refine Zj (α := Nat) (fun u => ⟨[(11, iA u), (12, iA z.2.2), (0, .own q 3 0 n), (1, iA a), (4, .fn (.func 56) [])], [(q, .rows 25 3 (z.1.map MRef.cells))], [], 90⟩) (fun u => z.2.1 ≤ u ∧ u ≤ z.2.2 + 1 ∧ PartE mLt a b u z.2.2 z.1) (fun u => b - u) z.2.1 ⟨Nat.le_refl _, hJ2.2.2.1, hJ2.2.2.2.2.2⟩ ?_ ?_
 ·exact Zb [0] ⟨rfl, rfl, rfl, rfl, rfl, trivial⟩ rfl (by decide) rfl rfl
 rintro u hJ3
 refine qS (qS ?_)
 refine Zz [0, 0, 3, 7, 15, 15, 15, 111, 239, 15, 15, 1551, 3599, 8191, 16383, 32767, 65535] 17 rfl (by kernel_rfl) ?_
 refine cM2 (cM2 ?_)
 refine ce eI ?_
 refine cM2 (cTM (cTM (cTM ?_)))
 refine Zc (wT rfl rfl rfl rfl) rfl (fun hg => (Z1 a rfl (Ze hg rfl) (Ze hg rfl) (by (try simp at hg) <;> omega) (by (try simp at hg) <;> omega) (by omega))) ?_
 refine Zq (f := MRef.cells) 0 (wT rfl rfl rfl rfl) rfl rfl (fun hg => (Ze hg rfl)) rfl (fun hg => by (try simp at hg) <;> omega) (fun _ => Z01 rfl) ?_
 refine cTM (cTM ?_)
 refine Zc (wT rfl rfl rfl rfl) rfl (fun hg => (Z1 u rfl (Ze hg rfl) (Ze hg rfl) (by (try simp at hg) <;> omega) (by (try simp at hg) <;> omega) (by omega))) ?_
 refine Zq (f := MRef.cells) 0 (wT rfl rfl rfl rfl) rfl rfl (fun hg => (Ze hg rfl)) rfl (fun hg => by (try simp at hg) <;> omega) (fun _ => Z01 rfl) ?_
 refine Zc (wT rfl rfl rfl rfl) rfl (fun hg => (Z8 [] rfl (Ze hg rfl) (Zg (Ze hg rfl) (Zg (Ze hg rfl) Z05)) (Z0q _ _) List.nodup_nil)) ?_
 refine Zc (wT rfl rfl rfl rfl) rfl (fun hg => (Zr rfl (Ze hg rfl) rfl rfl)) ?_
 refine Zc (wT rfl rfl rfl rfl) rfl (fun hg => (Z03 rfl (Ze hg rfl))) ?_
 refine ce (Zs rfl rfl rfl (fun h => h)) ?_
 refine .done (qN ?_)
 refine Z2 rfl ?_ ?_
 ·intro hc
  have hle : u ≤ z.2.2 := by have := Z27 hc; simpa using this
  have hv := Z28 hc
  refine qK (qB (qR (qM ?_)))
  refine qe eP ?_
  refine qA (qN ?_)
  refine ⟨(u + 1), ⟨by omega, by omega, ⟨fun k h1 h2 => by rcases Nat.lt_succ_iff_lt_or_eq.1 h2 with h | h; exact hJ3.2.2.lo k h1 h; rw [h]; exact Z1u hv, hJ3.2.2.hi⟩⟩, (by omega), ?_⟩
  exact qp [0] ⟨rfl, rfl, rfl, rfl, rfl, trivial⟩
 ·intro hc
  have hC : z.2.2 < u ∨ (!mLt (z.1.getD a default) (z.1.getD u default)) = false := by rcases Bool.and_eq_false_iff.1 hc with h | h; exact .inl (by simpa using h); exact .inr h
  refine qX (qS (qB ?_))
  refine Zj (α := Nat) (fun v => ⟨[(11, iA u), (12, iA v), (0, .own q 3 0 n), (1, iA a), (4, .fn (.func 56) [])], [(q, .rows 25 3 (z.1.map MRef.cells))], [], 90⟩) (fun v => v ≤ z.2.2 ∧ u ≤ v + 1 ∧ PartE mLt a b u v z.1) (fun v => v) z.2.2 ⟨Nat.le_refl _, hJ3.2.1, hJ3.2.2⟩ ?_ ?_
  ·exact Zb [0] ⟨rfl, rfl, rfl, rfl, rfl, trivial⟩ rfl (by decide) rfl rfl
  rintro v hJ4
  refine qS (qS ?_)
  refine Zz [0, 0, 3, 7, 15, 15, 15, 111, 239, 15, 15, 1551, 3599, 8191, 16383, 32767] 16 rfl (by kernel_rfl) ?_
  refine cM2 (cM2 ?_)
  refine ce eI ?_
  refine cM2 (cTM (cTM (cTM ?_)))
  refine Zc (wT rfl rfl rfl rfl) rfl (fun hg => (Z1 a rfl (Ze hg rfl) (Ze hg rfl) (by (try simp at hg) <;> omega) (by (try simp at hg) <;> omega) (by omega))) ?_
  refine Zq (f := MRef.cells) 0 (wT rfl rfl rfl rfl) rfl rfl (fun hg => (Ze hg rfl)) rfl (fun hg => by (try simp at hg) <;> omega) (fun _ => Z01 rfl) ?_
  refine cTM (cTM ?_)
  refine Zc (wT rfl rfl rfl rfl) rfl (fun hg => (Z1 v rfl (Ze hg rfl) (Ze hg rfl) (by (try simp at hg) <;> omega) (by (try simp at hg) <;> omega) (by omega))) ?_
  refine Zq (f := MRef.cells) 0 (wT rfl rfl rfl rfl) rfl rfl (fun hg => (Ze hg rfl)) rfl (fun hg => by (try simp at hg) <;> omega) (fun _ => Z01 rfl) ?_
  refine Zc (wT rfl rfl rfl rfl) rfl (fun hg => (Z8 [] rfl (Ze hg rfl) (Zg (Ze hg rfl) (Zg (Ze hg rfl) Z05)) (Z0q _ _) List.nodup_nil)) ?_
  refine Zc (wT rfl rfl rfl rfl) rfl (fun hg => (Zr rfl (Ze hg rfl) rfl rfl)) ?_
  refine ce (Zs rfl rfl rfl (fun h => h)) ?_
  refine .done (qN ?_)
  refine Z2 rfl ?_ ?_
  ·intro hc
   have hle : u ≤ v := by have := Z27 hc; simpa using this
   have hv := Z28 hc
   refine qK (qB (qR (qM ?_)))
   refine qe eL ?_
   refine qA (qN ?_)
   refine ⟨(v - 1), ⟨by omega, by omega, ⟨hJ4.2.2.lo, fun k h1 h2 => by by_cases e : k = v; rw [e]; exact hv; exact hJ4.2.2.hi k (by omega) h2⟩⟩, (by omega), ?_⟩
   exact qp [0] ⟨rfl, (congrArg (fun n => some (iA n)) (by omega)), rfl, rfl, rfl, trivial⟩
  ·intro hc
   have hD : v < u ∨ mLt (z.1.getD a default) (z.1.getD v default) = false := by rcases Bool.and_eq_false_iff.1 hc with h | h; exact .inl (by simpa using h); exact .inr h
   refine qX (qS (qS (qR (qM (qM ?_)))))
   refine qe eI ?_
   refine qN ?_
   refine Z2 rfl ?_ ?_
   ·intro hc
    have hgt : v < u := by simpa using hc
    refine qX (qS (qR (qM (qA (qN (qE ?_))))))
    exact Zf rfl (Z7 rfl Z4) (.cons_cons _ .slnil) (gp (z.1, u) ⟨hJ2.1, (by (try simp only) <;> omega), (by (try simp only) <;> omega), hJ2.2.2.2.2.1, v, (by (try simp only) <;> omega), hJ4.2.2⟩ rfl rfl)
   ·intro hc
    have huv : u ≤ v := by simpa using hc
    have hne : u < v := Z3i (f := fun k => mLt (z.1.getD a default) (z.1.getD k default)) (by omega) (Z2c (hC.resolve_left (by omega))) (hD.resolve_left (by omega))
    refine qK (qS ?_)
    refine Z08 [0, 0, 0, 0, 0, 0, 48, 112, 0, 0, 768, 1792, 4083, 8179, 16383, 32767] [13, 15] [7, 11] rfl (by kernel_rfl) ?_
    refine wM2 (wM2 (wM2 (wM2 (wM2 (wM2 ?_)))))
    refine we (eO v) ?_
    refine wLc 0 ?_
    refine wM2 (wM2 ?_)
    refine we (eO u) ?_
    refine wLc 0 ?_
    refine we (eO u) ?_
    refine Zm (f := MRef.cells) 0 (fun _ => rfl) (fun _ => rfl) (w0 rfl) rfl rfl rfl rfl (by first | omega | (simp; omega)) rfl rfl ?_
    refine we (eO v) ?_
    refine Zm (f := MRef.cells) 0 (fun _ => rfl) (fun _ => rfl) (w0 rfl) rfl rfl rfl rfl (by first | omega | (simp; omega)) rfl rfl ?_
    refine .done (qS (qR (qM ?_)))
    refine qe eP ?_
    refine qA (qN (qR (qM ?_)))
    refine qe eL ?_
    refine qA (qN ?_)
    refine ⟨(swp z.1 u v, u + 1, v - 1), ⟨.step _ _ hJ2.1 (by (try simp only) <;> omega) (by (try simp only) <;> omega) (by (try simp only) <;> omega), (by (try simp only) <;> omega), (by (try simp only) <;> omega), (by (try simp only) <;> omega), (Z2l (by (try simp only) <;> omega) (by (try simp only) <;> omega) (by (try simp only) <;> omega) (by (try simp only) <;> omega)).trans hJ2.2.2.2.2.1, hJ4.2.2.swap (i := u) (j := v) (by (try simp only) <;> omega) (by (try simp only) <;> omega) (by (try simp only) <;> omega) (by (try simp only) <;> omega) (Z2c (hC.resolve_left (by (try simp only) <;> omega))) (hD.resolve_left (by (try simp only) <;> omega))⟩, (by (try simp only) <;> omega), ?_⟩
    exact qp [0] ⟨rfl, (congrArg (fun n => some (iA n)) (by (try simp only) <;> omega)), rfl, rfl, rfl, trivial⟩
theorem Zey (q n : Nat) (l : List MRef) (hn : l.length = n) (hN : n ≤ 140737488355328) (a b : Nat) (ha : a < b) (hb : b ≤ n) : ACalls Tryz.prog 162 [.own q 3 0 n, iA a, iA b, .fn (.func 56) []] [(q, .rows 25 3 (l.map MRef.cells))] (GP (fun _ : List MRef => mkRes []) (fun m => [(q, .rows 25 3 (m.map MRef.cells))]) (fun m => Sw a b l m)) := by
 refine Zd (n := 34) Tryz.func162 rfl (by decide +kernel) rfl rfl ?_
 refine qS (qR (qM (qA (qN (qS (qR (qM ?_)))))))
 refine qe (Zv (y := iA (b - 1 : Nat)) (eL) (congrArg iA (by omega))) ?_
 refine qA (qN (qB ?_))
 refine Zj (α := List MRef × Nat × Nat) (fun z => ⟨[(8, iA z.2.1), (9, iA z.2.2), (0, .own q 3 0 n), (3, .fn (.func 56) [])], [(q, .rows 25 3 (z.1.map MRef.cells))], [], 34⟩) (fun z => Sw a b l z.1 ∧ a ≤ z.2.1 ∧ z.2.2 < b) (fun z => z.2.2 - z.2.1) (l, a, b - 1) ⟨.refl, (by (try simp only) <;> omega), (by (try simp only) <;> omega)⟩ ?_ ?_
 ·exact Zb [0] ⟨rfl, rfl, rfl, rfl, trivial⟩ rfl (by decide) rfl rfl
 rintro z hJ
 have hm := hJ.1.len
 refine qS (qS (qR (qM (qM ?_))))
 refine qe eI ?_
 refine qN ?_
 refine Z2 rfl ?_ ?_
 ·intro hc
  have hlt : z.2.1 < z.2.2 := by simpa using hc
  refine qK (qB (qS ?_))
  refine Z08 [0, 0, 0, 0, 0, 0, 48, 112, 0, 0, 768, 1792, 4083, 8179, 16383, 32767] [13, 15] [7, 11] rfl (by kernel_rfl) ?_
  refine wM2 (wM2 (wM2 (wM2 (wM2 (wM2 ?_)))))
  refine we (Z1 z.2.2 rfl rfl rfl (by omega) (by omega) (by omega)) ?_
  refine wLc 0 ?_
  refine wM2 (wM2 ?_)
  refine we (Z1 z.2.1 rfl rfl rfl (by omega) (by omega) (by omega)) ?_
  refine wLc 0 ?_
  refine we (Z1 z.2.1 rfl rfl rfl (by omega) (by omega) (by omega)) ?_
  refine Zm (f := MRef.cells) 0 (fun _ => rfl) (fun _ => rfl) (w0 rfl) rfl rfl rfl rfl (by first | omega | (simp; omega)) rfl rfl ?_
  refine we (Z1 z.2.2 rfl rfl rfl (by omega) (by omega) (by omega)) ?_
  refine Zm (f := MRef.cells) 0 (fun _ => rfl) (fun _ => rfl) (w0 rfl) rfl rfl rfl rfl (by first | omega | (simp; omega)) rfl rfl ?_
  refine .done (qS (qR (qM ?_)))
  refine qe eP ?_
  refine qA (qN (qR (qM ?_)))
  refine qe eL ?_
  refine qA (qN ?_)
  refine ⟨(swp z.1 z.2.1 z.2.2, z.2.1 + 1, z.2.2 - 1), ⟨.step _ _ hJ.1 (by (try simp only) <;> omega) (by (try simp only) <;> omega) (by (try simp only) <;> omega), (by (try simp only) <;> omega), (by (try simp only) <;> omega)⟩, (by (try simp only) <;> omega), ?_⟩
  exact qp [0] ⟨rfl, (congrArg (fun n => some (iA n)) (by (try simp only) <;> omega)), rfl, rfl, trivial⟩
 ·intro hc
  refine qX ?_
  exact Zf rfl Z4 (.cons_cons _ .slnil) (gp z.1 hJ.1 rfl rfl)
theorem Z5p (q si n : Nat) (l : List MRef) (hn : l.length = n) (c : Int) (a b : Nat) (ha : a < n) (hb : b < n) : ACalls Tryz.prog 189 [.own q 3 0 n, iA a, iA b, .ptr si 1 0 0, .fn (.func 56) []] [(q, .rows 25 3 (l.map MRef.cells)), (si, .rows 3 1 [[iA c]])] (GP (fun r : Nat × Nat × Int => .tup [iA r.1, iA r.2.1]) (fun r => [(q, .rows 25 3 (l.map MRef.cells)), (si, .rows 3 1 [[iA r.2.2]])]) (fun r => (r.1 = a ∧ r.2.1 = b) ∨ (r.1 = b ∧ r.2.1 = a))) := by
 refine Zd (n := 32) Tryz.func189 rfl (by decide +kernel) rfl rfl ?_
 refine qS (qR (qA (qA (qN (qS (qS ?_))))))
 refine Z0j 11 rfl (by kernel_rfl) ?_
 refine cM2 (cM2 (cM2 ?_))
 refine ce (eO b) ?_
 refine Za 0 (w0 rfl) rfl rfl rfl rfl (Z0g (by omega)) (Z01 rfl) ?_
 refine cM2 (cM2 ?_)
 refine ce (eO a) ?_
 refine Za 0 (w0 rfl) rfl rfl rfl rfl (Z0g (by omega)) (Z01 rfl) ?_
 refine ce (Z8 [] rfl rfl rfl (Z0q _ _) List.nodup_nil) ?_
 refine ce eI ?_
 refine .done (qN ?_)
 refine Z2 rfl ?_ ?_
 ·intro hc
  refine qS (qR (qM ?_))
  refine qe (Z02 rfl rfl rfl) ?_
  refine qL 1 Z3 ?_
  refine qe (Z9 rfl rfl rfl rfl) ?_
  refine qe (Z02 rfl rfl rfl) ?_
  refine Zw 1 (w0 rfl) rfl rfl rfl rfl rfl rfl rfl rfl rfl ?_
  refine qN (qS (qR (qM (qM (qA (qA (qN (qE ?_))))))))
  exact Zf rfl (Z7 rfl (Z7 rfl Z4)) (.cons_cons _ (.cons_cons _ .slnil)) (gp (b, a, _) (.inr ⟨rfl, rfl⟩) rfl rfl)
 ·intro hc
  refine qK (qS (qR (qM (qM (qA (qA (qN (qE ?_))))))))
  exact Zf rfl (Z7 rfl (Z7 rfl Z4)) (.cons_cons _ (.cons_cons _ .slnil)) (gp (a, b, _) (.inl ⟨rfl, rfl⟩) rfl rfl)
theorem Z5l (q si n : Nat) (l : List MRef) (hn : l.length = n) (hN : n ≤ 140737488355328) (c : Int) (a b d : Nat) (ha : a < n) (hb : b < n) (hd : d < n) : ACalls Tryz.prog 186 [.own q 3 0 n, iA a, iA b, iA d, .ptr si 1 0 0, .fn (.func 56) []] [(q, .rows 25 3 (l.map MRef.cells)), (si, .rows 3 1 [[iA c]])] (GP (fun r : Nat × Int => iA r.1) (fun r => [(q, .rows 25 3 (l.map MRef.cells)), (si, .rows 3 1 [[iA r.2]])]) (fun r => r.1 = a ∨ r.1 = b ∨ r.1 = d)) := by
 refine Zd (n := 41) Tryz.func186 rfl (by decide +kernel) rfl rfl ?_
 refine qS (qR (qA (qN (qS (qR (qM (qM (qM (qM (qM ?_))))))))))
 refine Z5 [_, _] _ (w0 rfl) rfl rfl rfl rfl (Z0s (k := 0) (j := 0) rfl rfl) (Z5p q si n l hn _ _ _ (by omega) (by omega)) (fun v1 hv1 => ?_)
 refine qM ?_
 refine qe (Zi rfl rfl rfl) ?_
 refine qe (Zi rfl rfl rfl) ?_
 refine qA (qA (qN (qS (qR (qM (qM (qM (qM (qM ?_)))))))))
 refine Z5 [_, _] _ (w0 rfl) rfl rfl rfl rfl (Z0s (k := 0) (j := 0) rfl rfl) (Z5p q si n l hn _ _ _ (by omega) (by omega)) (fun v2 hv2 => ?_)
 refine qM ?_
 refine qe (Zi rfl rfl rfl) ?_
 refine qe (Zi rfl rfl rfl) ?_
 refine qA (qA (qN (qS (qR (qM (qM (qM (qM (qM ?_)))))))))
 refine Z5 [_, _] _ (w0 rfl) rfl rfl rfl rfl (Z0s (k := 0) (j := 0) rfl rfl) (Z5p q si n l hn _ _ _ (by omega) (by omega)) (fun v3 hv3 => ?_)
 refine qM ?_
 refine qe (Zi rfl rfl rfl) ?_
 refine qe (Zi rfl rfl rfl) ?_
 refine qA (qA (qN (qS (qR (qM (qA (qN (qE ?_))))))))
 exact Zf rfl (Z7 rfl Z4) (.cons_cons _ (.cons_cons _ .slnil)) (gp (v3.2.1, _) (by (try simp only) <;> omega) rfl rfl)
theorem Z5i (q si n : Nat) (l : List MRef) (hn : l.length = n) (hN : n ≤ 140737488355328) (c : Int) (a : Nat) (h1 : 1 ≤ a) (ha : a + 1 < n) : ACalls Tryz.prog 185 [.own q 3 0 n, iA a, .ptr si 1 0 0, .fn (.func 56) []] [(q, .rows 25 3 (l.map MRef.cells)), (si, .rows 3 1 [[iA c]])] (GP (fun r : Nat × Int => iA r.1) (fun r => [(q, .rows 25 3 (l.map MRef.cells)), (si, .rows 3 1 [[iA r.2]])]) (fun r => r.1 + 1 = a ∨ r.1 = a ∨ r.1 = a + 1)) := by
 refine Zd (n := 18) Tryz.func185 rfl (by decide +kernel) rfl rfl ?_
 refine qS (qR (qA (qN (qS (qR (qM (qM ?_)))))))
 refine qe (Zv (y := iA (a - 1 : Nat)) (eL) (congrArg iA (by omega))) ?_
 refine qM (qM ?_)
 refine qe eP ?_
 refine qM (qM ?_)
 refine Z5 [_, _] _ (w0 rfl) rfl rfl rfl rfl (Z0s (k := 0) (j := 0) rfl rfl) (Z5l q si n l hn hN _ (a - 1) a (a + 1) (by omega) (by omega) (by omega)) (fun v1 hv1 => ?_)
 refine qA (qN (qE ?_))
 exact Zf rfl (Z7 rfl Z4) (.cons_cons _ (.cons_cons _ .slnil)) (gp (v1.1, _) (by (try simp only) <;> omega) rfl rfl)
theorem Z9i (q n : Nat) (l : List MRef) (hn : l.length = n) (hN : n ≤ 140737488355328) (a b : Nat) (hab : a + 12 < b) (hb : b ≤ n) : ACalls Tryz.prog 161 [.own q 3 0 n, iA a, iA b, .fn (.func 56) []] [(q, .rows 25 3 (l.map MRef.cells))] (GP (fun r : Nat × Int => .tup [iA r.1, iA r.2]) (fun r => [(q, .rows 25 3 (l.map MRef.cells))]) (fun r => a ≤ r.1 ∧ r.1 < b)) := by
 refine Zd (n := 63) Tryz.func161 rfl (by decide +kernel) rfl rfl ?_
 refine qS (qR (qA (qA (qN (qS (qR (qM (qM ?_))))))))
 refine qe (Zv (y := iA (b - a : Nat)) (eL) (congrArg iA (by omega))) ?_
 refine qA (qN (qS (qR ?_)))
 refine Zy (w0 rfl) rfl (fun id => Z0b id rfl rfl rfl) (fun id1 => ?_)
 refine qN (qS (qR (qM (qM ?_))))
 refine qe (Zv (y := iA ((b - a) / 4 : Nat)) (Z0r rfl rfl rfl (by decide) (Z0l (b - a) 4 (by omega))) (congrArg iA (Z1p (b - a) 4))) ?_
 refine qe (Z9 rfl rfl rfl (Z1c (by omega))) ?_
 refine qe (Zv (y := iA (a + (b - a) / 4 * 1 : Nat)) (eP) (congrArg iA (by omega))) ?_
 refine qA (qN (qS (qR (qM (qM ?_)))))
 refine qe (Zv (y := iA ((b - a) / 4 : Nat)) (Z0r rfl rfl rfl (by decide) (Z0l (b - a) 4 (by omega))) (congrArg iA (Z1p (b - a) 4))) ?_
 refine qe (Z9 rfl rfl rfl (Z1c (by omega))) ?_
 refine qe (Zv (y := iA (a + (b - a) / 4 * 2 : Nat)) (eP) (congrArg iA (by omega))) ?_
 refine qA (qN (qS (qR (qM (qM ?_)))))
 refine qe (Zv (y := iA ((b - a) / 4 : Nat)) (Z0r rfl rfl rfl (by decide) (Z0l (b - a) 4 (by omega))) (congrArg iA (Z1p (b - a) 4))) ?_
 refine qe (Z9 rfl rfl rfl (Z1c (by omega))) ?_
 refine qe (Zv (y := iA (a + (b - a) / 4 * 3 : Nat)) (eP) (congrArg iA (by omega))) ?_
 refine qA (qN (qS (qS (qR (qM ?_)))))
 refine qe eI ?_
 refine qN ?_
 refine Z2 rfl ?_ ?_
 ·intro hc
  refine qS (qS (qR (qM ?_)))
  refine qe eI ?_
  refine qN ?_
  refine Z2 rfl ?_ ?_
  ·intro hc
   refine qS (qR (qM (qM (qM ?_))))
   refine Z5 [_, _] _ (w0 rfl) rfl rfl rfl rfl (Z0s (k := 1) (j := 0) rfl rfl) (Z5i q _ n l hn hN _ _ (by omega) (by omega)) (fun v2 hv2 => ?_)
   refine qA (qN (qS (qR (qM (qM (qM ?_))))))
   refine Z5 [_, _] _ (w0 rfl) rfl rfl rfl rfl (Z0s (k := 0) (j := 0) rfl rfl) (Z5i q _ n l hn hN _ _ (by omega) (by omega)) (fun v3 hv3 => ?_)
   refine qA (qN (qR (qM (qM (qM ?_)))))
   refine Z5 [_, _] _ (w0 rfl) rfl rfl rfl rfl (Z0s (k := 0) (j := 0) rfl rfl) (Z5i q _ n l hn hN _ _ (by omega) (by omega)) (fun v4 hv4 => ?_)
   refine qA (qN (qR (qM (qM (qM (qM (qM ?_)))))))
   refine Z5 [_, _] _ (w0 rfl) rfl rfl rfl rfl (Z0s (k := 0) (j := 0) rfl rfl) (Z5l q _ n l hn hN _ _ _ _ (by omega) (by omega) (by omega)) (fun v5 hv5 => ?_)
   refine qA (qN (qS (qR ?_)))
   refine qL 1 Z3 ?_
   refine qN (qB (qS (qR ?_)))
   refine qe eI ?_
   refine qA (qN ?_)
   refine Z2 rfl ?_ ?_
   ·intro hc
    refine qS (qR (qM (qA (qA (qN (qE ?_))))))
    exact Zf rfl (Z7 rfl (Z7 rfl Z4)) (.cons_cons _ (.cons _ .slnil)) (gp (v5.1, 1) ⟨(by (try simp only) <;> omega), (by (try simp only) <;> omega)⟩ rfl rfl)
   ·intro hc
    refine qS (qR ?_)
    refine qe eI ?_
    refine qA (qN ?_)
    refine Z2 rfl ?_ ?_
    ·intro hc
     refine qS (qR (qM (qA (qA (qN (qE ?_))))))
     exact Zf rfl (Z7 rfl (Z7 rfl Z4)) (.cons_cons _ (.cons _ .slnil)) (gp (v5.1, 2) ⟨(by (try simp only) <;> omega), (by (try simp only) <;> omega)⟩ rfl rfl)
    ·intro hc
     refine qS (qR (qM (qA (qA (qN (qE ?_))))))
     exact Zf rfl (Z7 rfl (Z7 rfl Z4)) (.cons_cons _ (.cons _ .slnil)) (gp (v5.1, 0) ⟨(by (try simp only) <;> omega), (by (try simp only) <;> omega)⟩ rfl rfl)
  ·intro hc
   refine qK (qR (qM (qM (qM (qM (qM ?_))))))
   refine Z5 [_, _] _ (w0 rfl) rfl rfl rfl rfl (Z0s (k := 1) (j := 0) rfl rfl) (Z5l q _ n l hn hN _ _ _ _ (by omega) (by omega) (by omega)) (fun v6 hv6 => ?_)
   refine qA (qN (qS (qR ?_)))
   refine qL 1 Z3 ?_
   refine qN (qB (qS (qR ?_)))
   refine qe eI ?_
   refine qA (qN ?_)
   refine Z2 rfl ?_ ?_
   ·intro hc
    refine qS (qR (qM (qA (qA (qN (qE ?_))))))
    exact Zf rfl (Z7 rfl (Z7 rfl Z4)) (.cons_cons _ (.cons _ .slnil)) (gp (v6.1, 1) ⟨(by (try simp only) <;> omega), (by (try simp only) <;> omega)⟩ rfl rfl)
   ·intro hc
    refine qS (qR ?_)
    refine qe eI ?_
    refine qA (qN ?_)
    refine Z2 rfl ?_ ?_
    ·intro hc
     refine qS (qR (qM (qA (qA (qN (qE ?_))))))
     exact Zf rfl (Z7 rfl (Z7 rfl Z4)) (.cons_cons _ (.cons _ .slnil)) (gp (v6.1, 2) ⟨(by (try simp only) <;> omega), (by (try simp only) <;> omega)⟩ rfl rfl)
    ·intro hc
     refine qS (qR (qM (qA (qA (qN (qE ?_))))))
     exact Zf rfl (Z7 rfl (Z7 rfl Z4)) (.cons_cons _ (.cons _ .slnil)) (gp (v6.1, 0) ⟨(by (try simp only) <;> omega), (by (try simp only) <;> omega)⟩ rfl rfl)
 ·intro hc
  exfalso; simp at hc; omega
theorem Z3p (q n : Nat) (l : List MRef) (hn : l.length = n) (hN : n ≤ 140737488355328) (a b : Nat) (ha : a < b) (hb : b ≤ n) (hbd : Bd mLt a b l) : ACalls Tryz.prog 163 [.own q 3 0 n, iA a, iA b, .fn (.func 56) []] [(q, .rows 25 3 (l.map MRef.cells))] (GP (fun r : List MRef × Bool => bA r.2) (fun r => [(q, .rows 25 3 (r.1.map MRef.cells))]) (fun r => Sw a b l r.1 ∧ (r.2 = true → SAdj mLt a b r.1))) := by
 refine Zd (n := 141) Tryz.func163 rfl (by decide +kernel) rfl rfl ?_
 refine qS (qR (qA (qN (qS (qR (qM ?_))))))
 refine qe eP ?_
 refine qA (qN (qS (qS (qR (qA (qN (qB ?_)))))))
 refine Zj (α := List MRef × Nat × Nat) (fun x => ⟨[(10, iA x.2.2), (9, iA x.2.1), (0, .own q 3 0 n), (1, iA a), (2, iA b), (3, .fn (.func 56) [])], [(q, .rows 25 3 (x.1.map MRef.cells))], [], 141⟩) (fun x => Sw a b l x.1 ∧ a + 1 ≤ x.2.1 ∧ x.2.1 ≤ b ∧ x.2.2 ≤ 5 ∧ SAdj mLt a x.2.1 x.1) (fun x => 5 - x.2.2) (l, a + 1, 0) ⟨.refl, (by (try simp only) <;> omega), (by (try simp only) <;> omega), (by (try simp only) <;> omega), SAdj.refl1 (by (try simp only) <;> omega)⟩ ?_ ?_
 ·exact Zb [0] ⟨rfl, rfl, rfl, rfl, rfl, rfl, trivial⟩ rfl (by decide) rfl rfl
 rintro x hJ
 have hm := hJ.1.len
 refine qS (qS (qR (qM ?_)))
 refine qe eI ?_
 refine qN ?_
 refine Z2 rfl ?_ ?_
 ·intro hc
  have hx5 : x.2.2 < 5 := by simp at hc; omega
  refine qK (qS (qB (qS (qB ?_))))
  refine Zj (α := Nat) (fun u => ⟨[(9, iA u), (10, iA x.2.2), (0, .own q 3 0 n), (1, iA a), (2, iA b), (3, .fn (.func 56) [])], [(q, .rows 25 3 (x.1.map MRef.cells))], [], 141⟩) (fun u => x.2.1 ≤ u ∧ u ≤ b ∧ SAdj mLt a u x.1) (fun u => b - u) x.2.1 ⟨Nat.le_refl _, hJ.2.2.1, hJ.2.2.2.2⟩ ?_ ?_
  ·exact Zb [0] ⟨rfl, rfl, rfl, rfl, rfl, rfl, trivial⟩ rfl (by decide) rfl rfl
  rintro u hJ1
  refine qS (qS ?_)
  refine Zz [0, 0, 3, 7, 15, 15, 15, 111, 239, 15, 15, 1039, 3599, 7695, 16383, 32767, 65535, 131071] 18 rfl (by kernel_rfl) ?_
  refine cM2 (cM2 ?_)
  refine ce eI ?_
  refine cM2 (cTM (cTM (cTM ?_)))
  refine Zc (wT rfl rfl rfl rfl) rfl (fun hg => (Z1 u rfl (Ze hg rfl) (Ze hg rfl) (by (try simp at hg) <;> omega) (by (try simp at hg) <;> omega) (by omega))) ?_
  refine Zq (f := MRef.cells) 0 (wT rfl rfl rfl rfl) rfl rfl (fun hg => (Ze hg rfl)) rfl (fun hg => by (try simp at hg) <;> omega) (fun _ => Z01 rfl) ?_
  refine cTM (cTM ?_)
  refine Zc (wT rfl rfl rfl rfl) rfl (fun hg => (Z9 rfl (Ze hg rfl) rfl (Z0c (by omega)))) ?_
  refine Zc (wT rfl rfl rfl rfl) rfl (fun hg => (Z1 (u - 1) rfl (Ze hg rfl) (Ze hg rfl) (by (try simp at hg) <;> omega) (by (try simp at hg) <;> omega) (by omega))) ?_
  refine Zq (f := MRef.cells) 0 (wT rfl rfl rfl rfl) rfl rfl (fun hg => (Ze hg rfl)) rfl (fun hg => by (try simp at hg) <;> omega) (fun _ => Z01 rfl) ?_
  refine Zc (wT rfl rfl rfl rfl) rfl (fun hg => (Z8 [] rfl (Ze hg rfl) (Zg (Ze hg rfl) (Zg (Ze hg rfl) Z05)) (Z0q _ _) List.nodup_nil)) ?_
  refine Zc (wT rfl rfl rfl rfl) rfl (fun hg => (Zr rfl (Ze hg rfl) rfl rfl)) ?_
  refine Zc (wT rfl rfl rfl rfl) rfl (fun hg => (Z03 rfl (Ze hg rfl))) ?_
  refine ce (Zs rfl rfl rfl (fun h => h)) ?_
  refine .done (qN ?_)
  refine Z2 rfl ?_ ?_
  ·intro hc
   have hle : u < b := by have := Z27 hc; simpa using this
   have hv := Z28 hc
   refine qK (qB (qR (qM ?_)))
   refine qe eP ?_
   refine qA (qN ?_)
   refine ⟨(u + 1), ⟨by omega, by omega, hJ1.2.2.succ (Z1u hv)⟩, (by omega), ?_⟩
   exact qp [0] ⟨rfl, rfl, rfl, rfl, rfl, rfl, trivial⟩
  ·intro hc
   refine qX (qS (qS (qR (qM (qM ?_)))))
   refine qe eI ?_
   refine qN ?_
   refine Z2 rfl ?_ ?_
   ·intro hc
    have heq : u = b := by simp at hc; omega
    refine qS (qR (qA (qN (qE ?_))))
    exact Zf rfl (Z7 rfl Z4) (.cons_cons _ .slnil) (gp (x.1, true) ⟨hJ.1, fun _ => heq ▸ hJ1.2.2⟩ rfl rfl)
   ·intro hc
    have hne : u < b := by simp at hc; omega
    refine qK (qS (qS (qR (qM (qM ?_)))))
    refine qe eL ?_
    refine qe eI ?_
    refine qN ?_
    refine Z2 rfl ?_ ?_
    ·intro hc
     refine qS (qR (qA (qN (qE ?_))))
     exact Zf rfl (Z7 rfl Z4) (.cons_cons _ .slnil) (gp (x.1, false) ⟨hJ.1, nofun⟩ rfl rfl)
    ·intro hc
     refine qK (qS ?_)
     refine Z08 [0, 0, 0, 0, 8, 0, 0, 64, 224, 480, 0, 0, 3072, 7168, 16355, 32739, 65535, 131071] [15, 17] [9, 13] rfl (by kernel_rfl) ?_
     refine wM2 (wM2 (wM2 (wM2 ?_)))
     refine we eL ?_
     refine wM2 (wM2 ?_)
     refine we eL ?_
     refine we (eO (u - 1)) ?_
     refine wLc 0 ?_
     refine wM2 (wM2 ?_)
     refine we (eO u) ?_
     refine wLc 0 ?_
     refine we (eO u) ?_
     refine Zm (f := MRef.cells) 0 (fun _ => rfl) (fun _ => rfl) (w0 rfl) rfl rfl rfl rfl (by first | omega | (simp; omega)) rfl rfl ?_
     refine we (eO (u - 1)) ?_
     refine Zm (f := MRef.cells) 0 (fun _ => rfl) (fun _ => rfl) (w0 rfl) rfl rfl rfl rfl (by first | omega | (simp; omega)) rfl rfl ?_
     refine .done (qS (qS (qR (qM (qM ?_)))))
     refine qe eL ?_
     refine qe eI ?_
     refine qN ?_
     refine Z2 rfl ?_ ?_
     ·intro hc
      have hsw : Sw a b l (swp x.1 u (u - 1)) := .step _ _ hJ.1 (by omega) (by omega) (by omega)
      have hu2 : a + 2 ≤ u := by simp at hc; omega
      have hs0 : SAdj mLt a (u - 1) (swp x.1 u (u - 1)) := (hJ1.2.2.le (by omega)).swp_ge (by omega) (by omega) (by omega) (by omega)
      refine qS (qR (qM ?_))
      refine qe (Zv (y := iA (u - 1 : Nat)) (eL) (congrArg iA (by omega))) ?_
      refine qA (qN (qB ?_))
      refine Zj (α := List MRef × Nat) (fun y => ⟨[(11, iA y.2), (9, iA u), (10, iA x.2.2), (0, .own q 3 0 n), (1, iA a), (2, iA b), (3, .fn (.func 56) [])], [(q, .rows 25 3 (y.1.map MRef.cells))], [], 141⟩) (fun y => Sw a b l y.1 ∧ a ≤ y.2 ∧ y.2 ≤ u - 1 ∧ Ins mLt a y.2 (u - 1) y.1) (fun y => y.2) ((swp x.1 u (u - 1)), u - 1) ⟨hsw, (by (try simp only) <;> omega), (by (try simp only) <;> omega), Ins.start hs0⟩ ?_ ?_
      ·exact Zb [0] ⟨rfl, rfl, rfl, rfl, rfl, rfl, rfl, trivial⟩ rfl (by decide) rfl rfl
      rintro y hJ3
      have hm3 := hJ3.1.len
      refine qS (qS (qR (qM ?_)))
      refine qe eI ?_
      refine qN ?_
      refine Z2 rfl ?_ ?_
      ·intro hc
       have hy1 : 1 ≤ y.2 := by simp at hc; omega
       refine qK (qS (qB (qS (qS ?_))))
       refine Zz [0, 0, 0, 6, 14, 0, 0, 64, 224, 480, 1023, 2047, 4095] 13 rfl (by kernel_rfl) ?_
       refine cM2 (cM2 (cM2 ?_))
       refine ce (Z1 y.2 rfl rfl rfl (by omega) (by omega) (by omega)) ?_
       refine Za 0 (w0 rfl) rfl rfl rfl rfl (Z0g (by omega)) (Z01 rfl) ?_
       refine cM2 (cM2 ?_)
       refine ce eL ?_
       refine ce (eO (y.2 - 1)) ?_
       refine Za 0 (w0 rfl) rfl rfl rfl rfl (Z0g (by omega)) (Z01 rfl) ?_
       refine ce (Z8 [] rfl rfl rfl (Z0q _ _) List.nodup_nil) ?_
       refine ce eI ?_
       refine ce (Z03 rfl rfl) ?_
       refine .done (qN ?_)
       refine Z2 rfl ?_ ?_
       ·intro hc
        have hsw := hJ3.1
        have hsa : SAdj mLt a u y.1 := (hJ3.2.2.2.done (.inr (Z1u hc))).le (by omega)
        refine qX (qS (qR (qM (qM ?_))))
        refine qe eL ?_
        refine qe eI ?_
        refine qN ?_
        refine Z2 rfl ?_ ?_
        ·intro hc
         have hu3 : u + 2 ≤ b := by simp at hc; omega
         refine qS (qR (qM ?_))
         refine qe eP ?_
         refine qA (qN (qB ?_))
         refine Zj (α := List MRef × Nat) (fun w => ⟨[(12, iA w.2), (9, iA u), (10, iA x.2.2), (0, .own q 3 0 n), (1, iA a), (2, iA b), (3, .fn (.func 56) [])], [(q, .rows 25 3 (w.1.map MRef.cells))], [], 141⟩) (fun w => Sw a b l w.1 ∧ u + 1 ≤ w.2 ∧ w.2 ≤ b ∧ SAdj mLt a u w.1) (fun w => b - w.2) (y.1, u + 1) ⟨hsw, (by (try simp only) <;> omega), (by (try simp only) <;> omega), hsa⟩ ?_ ?_
         ·exact Zb [0] ⟨rfl, rfl, rfl, rfl, rfl, rfl, rfl, trivial⟩ rfl (by decide) rfl rfl
         rintro w hJ4
         have hm4 := hJ4.1.len
         refine qS (qS (qR (qM (qM ?_))))
         refine qe eI ?_
         refine qN ?_
         refine Z2 rfl ?_ ?_
         ·intro hc
          have hw1 : w.2 < b := by simpa using hc
          refine qK (qS (qB (qS (qS ?_))))
          refine Zz [0, 0, 0, 6, 14, 0, 0, 64, 224, 480, 1023, 2047, 4095] 13 rfl (by kernel_rfl) ?_
          refine cM2 (cM2 (cM2 ?_))
          refine ce (Z1 w.2 rfl rfl rfl (by omega) (by omega) (by omega)) ?_
          refine Za 0 (w0 rfl) rfl rfl rfl rfl (Z0g (by omega)) (Z01 rfl) ?_
          refine cM2 (cM2 ?_)
          refine ce eL ?_
          refine ce (eO (w.2 - 1)) ?_
          refine Za 0 (w0 rfl) rfl rfl rfl rfl (Z0g (by omega)) (Z01 rfl) ?_
          refine ce (Z8 [] rfl rfl rfl (Z0q _ _) List.nodup_nil) ?_
          refine ce eI ?_
          refine ce (Z03 rfl rfl) ?_
          refine .done (qN ?_)
          refine Z2 rfl ?_ ?_
          ·intro hc
           have hsw := hJ4.1
           have hsa := hJ4.2.2.2
           refine qX (qR (qM ?_))
           refine qe eP ?_
           refine qA (qN ?_)
           refine ⟨(w.1, u, x.2.2 + 1), ⟨hsw, (by (try simp only) <;> omega), (by (try simp only) <;> omega), (by (try simp only) <;> omega), hsa⟩, (by (try simp only) <;> omega), ?_⟩
           exact qp [0] ⟨rfl, rfl, rfl, rfl, rfl, rfl, trivial⟩
          ·intro hc
           refine qK ?_
           refine Z08 [0, 0, 0, 0, 8, 0, 0, 64, 224, 480, 0, 0, 3072, 7168, 16355, 32739, 65535, 131071] [15, 17] [9, 13] rfl (by kernel_rfl) ?_
           refine wM2 (wM2 (wM2 (wM2 ?_)))
           refine we eL ?_
           refine wM2 (wM2 ?_)
           refine we eL ?_
           refine we (eO (w.2 - 1)) ?_
           refine wLc 0 ?_
           refine wM2 (wM2 ?_)
           refine we (Z1 w.2 rfl rfl rfl (by omega) (by omega) (by omega)) ?_
           refine wLc 0 ?_
           refine we (Z1 w.2 rfl rfl rfl (by omega) (by omega) (by omega)) ?_
           refine Zm (f := MRef.cells) 0 (fun _ => rfl) (fun _ => rfl) (w0 rfl) rfl rfl rfl rfl (by first | omega | (simp; omega)) rfl rfl ?_
           refine we (eO (w.2 - 1)) ?_
           refine Zm (f := MRef.cells) 0 (fun _ => rfl) (fun _ => rfl) (w0 rfl) rfl rfl rfl rfl (by first | omega | (simp; omega)) rfl rfl ?_
           refine .done (qR (qM ?_))
           refine qe eP ?_
           refine qA (qN ?_)
           refine ⟨(swp w.1 w.2 (w.2 - 1), w.2 + 1), ⟨.step _ _ hJ4.1 (by (try simp only) <;> omega) (by (try simp only) <;> omega) (by (try simp only) <;> omega), (by (try simp only) <;> omega), (by (try simp only) <;> omega), hJ4.2.2.2.swp_ge (by (try simp only) <;> omega) (by (try simp only) <;> omega) (by (try simp only) <;> omega) (by (try simp only) <;> omega)⟩, (by (try simp only) <;> omega), ?_⟩
           exact qp [0] ⟨rfl, rfl, rfl, rfl, rfl, rfl, rfl, trivial⟩
         ·intro hc
          have hsw := hJ4.1
          have hsa := hJ4.2.2.2
          refine qX (qR (qM ?_))
          refine qe eP ?_
          refine qA (qN ?_)
          refine ⟨(w.1, u, x.2.2 + 1), ⟨hsw, (by (try simp only) <;> omega), (by (try simp only) <;> omega), (by (try simp only) <;> omega), hsa⟩, (by (try simp only) <;> omega), ?_⟩
          exact qp [0] ⟨rfl, rfl, rfl, rfl, rfl, rfl, trivial⟩
        ·intro hc
         refine qK (qR (qM ?_))
         refine qe eP ?_
         refine qA (qN ?_)
         refine ⟨(y.1, u, x.2.2 + 1), ⟨hsw, (by (try simp only) <;> omega), (by (try simp only) <;> omega), (by (try simp only) <;> omega), hsa⟩, (by (try simp only) <;> omega), ?_⟩
         exact qp [0] ⟨rfl, rfl, rfl, rfl, rfl, rfl, trivial⟩
       ·intro hc
        have hlt := Z2c hc
        have hgt := (hbd.sw hJ3.1).gt (j := y.2) (by omega) (by omega) hy1 hlt
        refine qK ?_
        refine Z08 [0, 0, 0, 0, 8, 0, 0, 64, 224, 480, 0, 0, 3072, 7168, 16355, 32739, 65535, 131071] [15, 17] [9, 13] rfl (by kernel_rfl) ?_
        refine wM2 (wM2 (wM2 (wM2 ?_)))
        refine we eL ?_
        refine wM2 (wM2 ?_)
        refine we eL ?_
        refine we (eO (y.2 - 1)) ?_
        refine wLc 0 ?_
        refine wM2 (wM2 ?_)
        refine we (Z1 y.2 rfl rfl rfl (by omega) (by omega) (by omega)) ?_
        refine wLc 0 ?_
        refine we (Z1 y.2 rfl rfl rfl (by omega) (by omega) (by omega)) ?_
        refine Zm (f := MRef.cells) 0 (fun _ => rfl) (fun _ => rfl) (w0 rfl) rfl rfl rfl rfl (by first | omega | (simp; omega)) rfl rfl ?_
        refine we (eO (y.2 - 1)) ?_
        refine Zm (f := MRef.cells) 0 (fun _ => rfl) (fun _ => rfl) (w0 rfl) rfl rfl rfl rfl (by first | omega | (simp; omega)) rfl rfl ?_
        refine .done (qR (qM ?_))
        refine qe eL ?_
        refine qA (qN ?_)
        refine ⟨(swp y.1 y.2 (y.2 - 1), y.2 - 1), ⟨.step _ _ hJ3.1 (by (try simp only) <;> omega) (by (try simp only) <;> omega) (by (try simp only) <;> omega), (by (try simp only) <;> omega), (by (try simp only) <;> omega), hJ3.2.2.2.step mLtT.ok hgt (by (try simp only) <;> omega) (by (try simp only) <;> omega) hlt⟩, (by (try simp only) <;> omega), ?_⟩
        exact qp [0] ⟨(congrArg (fun n => some (iA n)) (by (try simp only) <;> omega)), rfl, rfl, rfl, rfl, rfl, rfl, trivial⟩
      ·intro hc
       have hy0 : y.2 = 0 := by simp at hc; omega
       have hsw := hJ3.1
       have hsa : SAdj mLt a u y.1 := (hJ3.2.2.2.done (.inl (by omega))).le (by omega)
       refine qX (qS (qR (qM (qM ?_))))
       refine qe eL ?_
       refine qe eI ?_
       refine qN ?_
       refine Z2 rfl ?_ ?_
       ·intro hc
        have hu3 : u + 2 ≤ b := by simp at hc; omega
        refine qS (qR (qM ?_))
        refine qe eP ?_
        refine qA (qN (qB ?_))
        refine Zj (α := List MRef × Nat) (fun w => ⟨[(12, iA w.2), (9, iA u), (10, iA x.2.2), (0, .own q 3 0 n), (1, iA a), (2, iA b), (3, .fn (.func 56) [])], [(q, .rows 25 3 (w.1.map MRef.cells))], [], 141⟩) (fun w => Sw a b l w.1 ∧ u + 1 ≤ w.2 ∧ w.2 ≤ b ∧ SAdj mLt a u w.1) (fun w => b - w.2) (y.1, u + 1) ⟨hsw, (by (try simp only) <;> omega), (by (try simp only) <;> omega), hsa⟩ ?_ ?_
        ·exact Zb [0] ⟨rfl, rfl, rfl, rfl, rfl, rfl, rfl, trivial⟩ rfl (by decide) rfl rfl
        rintro w hJ4
        have hm4 := hJ4.1.len
        refine qS (qS (qR (qM (qM ?_))))
        refine qe eI ?_
        refine qN ?_
        refine Z2 rfl ?_ ?_
        ·intro hc
         have hw1 : w.2 < b := by simpa using hc
         refine qK (qS (qB (qS (qS ?_))))
         refine Zz [0, 0, 0, 6, 14, 0, 0, 64, 224, 480, 1023, 2047, 4095] 13 rfl (by kernel_rfl) ?_
         refine cM2 (cM2 (cM2 ?_))
         refine ce (Z1 w.2 rfl rfl rfl (by omega) (by omega) (by omega)) ?_
         refine Za 0 (w0 rfl) rfl rfl rfl rfl (Z0g (by omega)) (Z01 rfl) ?_
         refine cM2 (cM2 ?_)
         refine ce eL ?_
         refine ce (eO (w.2 - 1)) ?_
         refine Za 0 (w0 rfl) rfl rfl rfl rfl (Z0g (by omega)) (Z01 rfl) ?_
         refine ce (Z8 [] rfl rfl rfl (Z0q _ _) List.nodup_nil) ?_
         refine ce eI ?_
         refine ce (Z03 rfl rfl) ?_
         refine .done (qN ?_)
         refine Z2 rfl ?_ ?_
         ·intro hc
          have hsw := hJ4.1
          have hsa := hJ4.2.2.2
          refine qX (qR (qM ?_))
          refine qe eP ?_
          refine qA (qN ?_)
          refine ⟨(w.1, u, x.2.2 + 1), ⟨hsw, (by (try simp only) <;> omega), (by (try simp only) <;> omega), (by (try simp only) <;> omega), hsa⟩, (by (try simp only) <;> omega), ?_⟩
          exact qp [0] ⟨rfl, rfl, rfl, rfl, rfl, rfl, trivial⟩
         ·intro hc
          refine qK ?_
          refine Z08 [0, 0, 0, 0, 8, 0, 0, 64, 224, 480, 0, 0, 3072, 7168, 16355, 32739, 65535, 131071] [15, 17] [9, 13] rfl (by kernel_rfl) ?_
          refine wM2 (wM2 (wM2 (wM2 ?_)))
          refine we eL ?_
          refine wM2 (wM2 ?_)
          refine we eL ?_
          refine we (eO (w.2 - 1)) ?_
          refine wLc 0 ?_
          refine wM2 (wM2 ?_)
          refine we (Z1 w.2 rfl rfl rfl (by omega) (by omega) (by omega)) ?_
          refine wLc 0 ?_
          refine we (Z1 w.2 rfl rfl rfl (by omega) (by omega) (by omega)) ?_
          refine Zm (f := MRef.cells) 0 (fun _ => rfl) (fun _ => rfl) (w0 rfl) rfl rfl rfl rfl (by first | omega | (simp; omega)) rfl rfl ?_
          refine we (eO (w.2 - 1)) ?_
          refine Zm (f := MRef.cells) 0 (fun _ => rfl) (fun _ => rfl) (w0 rfl) rfl rfl rfl rfl (by first | omega | (simp; omega)) rfl rfl ?_
          refine .done (qR (qM ?_))
          refine qe eP ?_
          refine qA (qN ?_)
          refine ⟨(swp w.1 w.2 (w.2 - 1), w.2 + 1), ⟨.step _ _ hJ4.1 (by (try simp only) <;> omega) (by (try simp only) <;> omega) (by (try simp only) <;> omega), (by (try simp only) <;> omega), (by (try simp only) <;> omega), hJ4.2.2.2.swp_ge (by (try simp only) <;> omega) (by (try simp only) <;> omega) (by (try simp only) <;> omega) (by (try simp only) <;> omega)⟩, (by (try simp only) <;> omega), ?_⟩
          exact qp [0] ⟨rfl, rfl, rfl, rfl, rfl, rfl, rfl, trivial⟩
        ·intro hc
         have hsw := hJ4.1
         have hsa := hJ4.2.2.2
         refine qX (qR (qM ?_))
         refine qe eP ?_
         refine qA (qN ?_)
         refine ⟨(w.1, u, x.2.2 + 1), ⟨hsw, (by (try simp only) <;> omega), (by (try simp only) <;> omega), (by (try simp only) <;> omega), hsa⟩, (by (try simp only) <;> omega), ?_⟩
         exact qp [0] ⟨rfl, rfl, rfl, rfl, rfl, rfl, trivial⟩
       ·intro hc
        refine qK (qR (qM ?_))
        refine qe eP ?_
        refine qA (qN ?_)
        refine ⟨(y.1, u, x.2.2 + 1), ⟨hsw, (by (try simp only) <;> omega), (by (try simp only) <;> omega), (by (try simp only) <;> omega), hsa⟩, (by (try simp only) <;> omega), ?_⟩
        exact qp [0] ⟨rfl, rfl, rfl, rfl, rfl, rfl, trivial⟩
     ·intro hc
      have hsw : Sw a b l (swp x.1 u (u - 1)) := .step _ _ hJ.1 (by omega) (by omega) (by omega)
      have hu2 : u = a + 1 := by simp at hc; omega
      have hsa : SAdj mLt a u (swp x.1 u (u - 1)) := SAdj.refl1 (by omega)
      refine qK (qS (qR (qM (qM ?_))))
      refine qe eL ?_
      refine qe eI ?_
      refine qN ?_
      refine Z2 rfl ?_ ?_
      ·intro hc
       have hu3 : u + 2 ≤ b := by simp at hc; omega
       refine qS (qR (qM ?_))
       refine qe eP ?_
       refine qA (qN (qB ?_))
       refine Zj (α := List MRef × Nat) (fun w => ⟨[(12, iA w.2), (9, iA u), (10, iA x.2.2), (0, .own q 3 0 n), (1, iA a), (2, iA b), (3, .fn (.func 56) [])], [(q, .rows 25 3 (w.1.map MRef.cells))], [], 141⟩) (fun w => Sw a b l w.1 ∧ u + 1 ≤ w.2 ∧ w.2 ≤ b ∧ SAdj mLt a u w.1) (fun w => b - w.2) ((swp x.1 u (u - 1)), u + 1) ⟨hsw, (by (try simp only) <;> omega), (by (try simp only) <;> omega), hsa⟩ ?_ ?_
       ·exact Zb [0] ⟨rfl, rfl, rfl, rfl, rfl, rfl, rfl, trivial⟩ rfl (by decide) rfl rfl
       rintro w hJ4
       have hm4 := hJ4.1.len
       refine qS (qS (qR (qM (qM ?_))))
       refine qe eI ?_
       refine qN ?_
       refine Z2 rfl ?_ ?_
       ·intro hc
        have hw1 : w.2 < b := by simpa using hc
        refine qK (qS (qB (qS (qS ?_))))
        refine Zz [0, 0, 0, 6, 14, 0, 0, 64, 224, 480, 1023, 2047, 4095] 13 rfl (by kernel_rfl) ?_
        refine cM2 (cM2 (cM2 ?_))
        refine ce (Z1 w.2 rfl rfl rfl (by omega) (by omega) (by omega)) ?_
        refine Za 0 (w0 rfl) rfl rfl rfl rfl (Z0g (by omega)) (Z01 rfl) ?_
        refine cM2 (cM2 ?_)
        refine ce eL ?_
        refine ce (eO (w.2 - 1)) ?_
        refine Za 0 (w0 rfl) rfl rfl rfl rfl (Z0g (by omega)) (Z01 rfl) ?_
        refine ce (Z8 [] rfl rfl rfl (Z0q _ _) List.nodup_nil) ?_
        refine ce eI ?_
        refine ce (Z03 rfl rfl) ?_
        refine .done (qN ?_)
        refine Z2 rfl ?_ ?_
        ·intro hc
         have hsw := hJ4.1
         have hsa := hJ4.2.2.2
         refine qX (qR (qM ?_))
         refine qe eP ?_
         refine qA (qN ?_)
         refine ⟨(w.1, u, x.2.2 + 1), ⟨hsw, (by (try simp only) <;> omega), (by (try simp only) <;> omega), (by (try simp only) <;> omega), hsa⟩, (by (try simp only) <;> omega), ?_⟩
         exact qp [0] ⟨rfl, rfl, rfl, rfl, rfl, rfl, trivial⟩
        ·intro hc
         refine qK ?_
         refine Z08 [0, 0, 0, 0, 8, 0, 0, 64, 224, 480, 0, 0, 3072, 7168, 16355, 32739, 65535, 131071] [15, 17] [9, 13] rfl (by kernel_rfl) ?_
         refine wM2 (wM2 (wM2 (wM2 ?_)))
         refine we eL ?_
         refine wM2 (wM2 ?_)
         refine we eL ?_
         refine we (eO (w.2 - 1)) ?_
         refine wLc 0 ?_
         refine wM2 (wM2 ?_)
         refine we (Z1 w.2 rfl rfl rfl (by omega) (by omega) (by omega)) ?_
         refine wLc 0 ?_
         refine we (Z1 w.2 rfl rfl rfl (by omega) (by omega) (by omega)) ?_
         refine Zm (f := MRef.cells) 0 (fun _ => rfl) (fun _ => rfl) (w0 rfl) rfl rfl rfl rfl (by first | omega | (simp; omega)) rfl rfl ?_
         refine we (eO (w.2 - 1)) ?_
         refine Zm (f := MRef.cells) 0 (fun _ => rfl) (fun _ => rfl) (w0 rfl) rfl rfl rfl rfl (by first | omega | (simp; omega)) rfl rfl ?_
         refine .done (qR (qM ?_))
         refine qe eP ?_
         refine qA (qN ?_)
         refine ⟨(swp w.1 w.2 (w.2 - 1), w.2 + 1), ⟨.step _ _ hJ4.1 (by (try simp only) <;> omega) (by (try simp only) <;> omega) (by (try simp only) <;> omega), (by (try simp only) <;> omega), (by (try simp only) <;> omega), hJ4.2.2.2.swp_ge (by (try simp only) <;> omega) (by (try simp only) <;> omega) (by (try simp only) <;> omega) (by (try simp only) <;> omega)⟩, (by (try simp only) <;> omega), ?_⟩
         exact qp [0] ⟨rfl, rfl, rfl, rfl, rfl, rfl, rfl, trivial⟩
       ·intro hc
        have hsw := hJ4.1
        have hsa := hJ4.2.2.2
        refine qX (qR (qM ?_))
        refine qe eP ?_
        refine qA (qN ?_)
        refine ⟨(w.1, u, x.2.2 + 1), ⟨hsw, (by (try simp only) <;> omega), (by (try simp only) <;> omega), (by (try simp only) <;> omega), hsa⟩, (by (try simp only) <;> omega), ?_⟩
        exact qp [0] ⟨rfl, rfl, rfl, rfl, rfl, rfl, trivial⟩
      ·intro hc
       refine qK (qR (qM ?_))
       refine qe eP ?_
       refine qA (qN ?_)
       refine ⟨((swp x.1 u (u - 1)), u, x.2.2 + 1), ⟨hsw, (by (try simp only) <;> omega), (by (try simp only) <;> omega), (by (try simp only) <;> omega), hsa⟩, (by (try simp only) <;> omega), ?_⟩
       exact qp [0] ⟨rfl, rfl, rfl, rfl, rfl, rfl, trivial⟩
 ·intro hc
  refine qX (qS (qR (qA (qN (qE ?_)))))
  exact Zf rfl (Z7 rfl Z4) (.cons_cons _ .slnil) (gp (x.1, false) ⟨hJ.1, nofun⟩ rfl rfl)
theorem Zdc (q n : Nat) (l : List MRef) (hn : l.length = n) (hN : n ≤ 140737488355328) (a b : Nat) (hab : a + 12 < b) (hb : b ≤ n) : ACalls Tryz.prog 160 [.own q 3 0 n, iA a, iA b, .fn (.func 56) []] [(q, .rows 25 3 (l.map MRef.cells))] (GP (fun _ : List MRef => mkRes []) (fun m => [(q, .rows 25 3 (m.map MRef.cells))]) (fun m => Sw a b l m)) := by
 refine Zd (n := 67) Tryz.func160 rfl (by decide +kernel) rfl rfl ?_
 refine qS (qR (qM (qM ?_)))
 refine qe (Zv (y := iA (b - a : Nat)) (eL) (congrArg iA (by omega))) ?_
 refine qA (qN (qS (qR (qM ?_))))
 refine qe eI ?_
 refine qN ?_
 refine Z2 rfl ?_ ?_
 ·intro hc
  refine qS (qR (qM ?_))
  refine qe (Z0i rfl rfl) ?_
  refine Zy (w0 rfl) rfl (fun id => Z0b id rfl rfl rfl) (fun id1 => ?_)
  refine Zw 0 (w0 rfl) rfl rfl rfl rfl rfl rfl rfl rfl rfl ?_
  refine qN (qS (qR (qM ?_)))
  refine Z23 (w0 rfl) rfl rfl rfl rfl (Z5n (b - a) (by omega) (by omega)) (fun v2 hv2 => ?_)
  refine qA (qN (qS (qR (qM (qM ?_)))))
  refine qe (Zv (y := iA ((b - a) / 4 : Nat)) (Z0r rfl rfl rfl (by decide) (Z0l (b - a) 4 (by omega))) (congrArg iA (Z1p (b - a) 4))) ?_
  refine qe (Z9 rfl rfl rfl (Z1c (by omega))) ?_
  refine qe eP ?_
  refine qe (Zv (y := iA (a + (b - a) / 4 * 2 - 1 : Nat)) (eL) (congrArg iA (by omega))) ?_
  refine qA (qN (qB ?_))
  refine Zj (α := List MRef × Nat × Int) (fun x => ⟨[(11, iA x.2.1), (8, iA (b - a : Nat)), (9, .ptr id1 1 0 0), (10, xA v2), (0, .own q 3 0 n), (1, iA a), (3, .fn (.func 56) [])], [(q, .rows 25 3 (x.1.map MRef.cells)), (id1, .rows 186 1 [[xA x.2.2]])], [], 67⟩) (fun x => Sw a b l x.1 ∧ a ≤ x.2.1) (fun x => a + (b - a) / 4 * 2 + 2 - x.2.1) (l, a + (b - a) / 4 * 2 - 1, IntKind.u64.wrap (b - a : Nat)) ⟨.refl, (by (try simp only) <;> omega)⟩ ?_ ?_
  ·exact Zb [1, 0] ⟨rfl, rfl, rfl, rfl, rfl, rfl, rfl, trivial⟩ rfl (by decide) rfl rfl
  rintro x hJ
  have hm := hJ.1.len
  refine qS (qS (qR (qM (qM (qM ?_)))))
  refine qe (Zv (y := iA ((b - a : Nat) / 4 : Nat)) (Z0r rfl rfl rfl (by decide) (Z0l (b - a : Nat) 4 (by omega))) (congrArg iA (Z1p (b - a : Nat) 4))) ?_
  refine qe (Z9 rfl rfl rfl (Z1c (by omega))) ?_
  refine qe eP ?_
  refine qe (Zv (y := iA (a + (b - a) / 4 * 2 + 1 : Nat)) (eP) (congrArg iA (by omega))) ?_
  refine qe eI ?_
  refine qN ?_
  refine Z2 rfl ?_ ?_
  ·intro hc
   have hx : x.2.1 ≤ a + (b - a) / 4 * 2 + 1 := by simp at hc; omega
   refine qK (qS (qB (qS (qR ?_))))
   refine Z5 [_] _ (w0 rfl) rfl rfl rfl rfl (Zk (k := 1) rfl) (Z8r _ _) (fun v3 hv3 => ?_)
   refine qM ?_
   refine qe (Z9 rfl rfl rfl rfl) ?_
   refine qe (Z3r rfl (by simp) rfl rfl) ?_
   refine qe (Z0i rfl rfl) ?_
   refine qA (qN (qS (qS ?_)))
   refine Z6t 12 rfl (fun ot hot => ?_)
   have ho := Zb4 (v := v3) (m := v2) hv2.1 (by omega)
   rw [← hot] at ho
   refine qR (qM (qM ?_))
   refine qe eI ?_
   refine qN ?_
   refine Z2 rfl ?_ ?_
   ·intro hc
    have hge : ((b - a : Nat) : Int) ≤ ot := by simpa using hc
    refine qR (qM (qM ?_))
    refine qe eL ?_
    refine qA (qN ?_)
    refine Z2j 12 rfl (show _ = (((ot - (b - a : Nat)).toNat : Nat) : Int) by omega) ?_
    refine Z08 [0, 0, 0, 0, 0, 24, 0, 0, 0, 384, 960, 1984, 0, 0, 12288, 28672, 65475, 131011, 262143, 524287] [17, 19] [11, 15] rfl (by kernel_rfl) ?_
    refine wM2 (wM2 (wM2 (wM2 (wM2 ?_))))
    refine we eP ?_
    refine wM2 (wM2 (wM2 ?_))
    refine we eP ?_
    refine we (eO (a + (ot - (b - a : Nat)).toNat)) ?_
    refine wLc 1 ?_
    refine wM2 (wM2 ?_)
    refine we (Z1 x.2.1 rfl rfl rfl (by omega) (by omega) (by omega)) ?_
    refine wLc 1 ?_
    refine we (Z1 x.2.1 rfl rfl rfl (by omega) (by omega) (by omega)) ?_
    refine Zm (f := MRef.cells) 1 (fun _ => rfl) (fun _ => rfl) (w0 rfl) rfl rfl rfl rfl (by first | omega | (simp; omega)) rfl rfl ?_
    refine we (eO (a + (ot - (b - a : Nat)).toNat)) ?_
    refine Zm (f := MRef.cells) 1 (fun _ => rfl) (fun _ => rfl) (w0 rfl) rfl rfl rfl rfl (by first | omega | (simp; omega)) rfl rfl ?_
    refine .done (qR (qM ?_))
    refine qe eP ?_
    refine qA (qN ?_)
    refine ⟨(swp x.1 x.2.1 (a + (ot - (b - a : Nat)).toNat), x.2.1 + 1, v3), ⟨.step _ _ hJ.1 (by (try simp only) <;> omega) (by (try simp only) <;> omega) (by (try simp only) <;> omega), (by (try simp only) <;> omega)⟩, (by (try simp only) <;> omega), ?_⟩
    exact qp [1, 0] ⟨rfl, rfl, rfl, rfl, rfl, rfl, rfl, trivial⟩
   ·intro hc
    have hlt : ot < ((b - a : Nat) : Int) := by simpa using hc
    refine qK ?_
    refine Z2j 12 rfl (show _ = ((ot.toNat : Nat) : Int) by omega) ?_
    refine Z08 [0, 0, 0, 0, 0, 24, 0, 0, 0, 384, 960, 1984, 0, 0, 12288, 28672, 65475, 131011, 262143, 524287] [17, 19] [11, 15] rfl (by kernel_rfl) ?_
    refine wM2 (wM2 (wM2 (wM2 (wM2 ?_))))
    refine we eP ?_
    refine wM2 (wM2 (wM2 ?_))
    refine we eP ?_
    refine we (eO (a + ot.toNat)) ?_
    refine wLc 1 ?_
    refine wM2 (wM2 ?_)
    refine we (Z1 x.2.1 rfl rfl rfl (by omega) (by omega) (by omega)) ?_
    refine wLc 1 ?_
    refine we (Z1 x.2.1 rfl rfl rfl (by omega) (by omega) (by omega)) ?_
    refine Zm (f := MRef.cells) 1 (fun _ => rfl) (fun _ => rfl) (w0 rfl) rfl rfl rfl rfl (by first | omega | (simp; omega)) rfl rfl ?_
    refine we (eO (a + ot.toNat)) ?_
    refine Zm (f := MRef.cells) 1 (fun _ => rfl) (fun _ => rfl) (w0 rfl) rfl rfl rfl rfl (by first | omega | (simp; omega)) rfl rfl ?_
    refine .done (qR (qM ?_))
    refine qe eP ?_
    refine qA (qN ?_)
    refine ⟨(swp x.1 x.2.1 (a + ot.toNat), x.2.1 + 1, v3), ⟨.step _ _ hJ.1 (by (try simp only) <;> omega) (by (try simp only) <;> omega) (by (try simp only) <;> omega), (by (try simp only) <;> omega)⟩, (by (try simp only) <;> omega), ?_⟩
    exact qp [1, 0] ⟨rfl, rfl, rfl, rfl, rfl, rfl, rfl, trivial⟩
  ·intro hc
   refine qX ?_
   exact Zf rfl Z4 (.cons_cons _ (.cons _ .slnil)) (gp x.1 hJ.1 rfl rfl)
 ·intro hc
  exfalso; simp at hc; omega
set_option maxHeartbeats 1000000 in
theorem Zgj (q n : Nat) (hN : n ≤ 140737488355328) (k : Nat) : ∀ (l : List MRef) (hn : l.length = n) (a b : Nat) (lim : Int) (hk : b - a ≤ k) (ha : a ≤ b) (hb : b ≤ n) (hbd : Bd mLt a b l), ACalls Tryz.prog 128 [.own q 3 0 n, iA a, iA b, iA lim, .fn (.func 56) []] [(q, .rows 25 3 (l.map MRef.cells))] (GP (fun _ : List MRef => mkRes []) (fun m => [(q, .rows 25 3 (m.map MRef.cells))]) (fun m => Sw a b l m ∧ SOn mLt a b m)) := by
 induction k using Nat.strongRecOn with
 | _ k ih =>
 intro l hn a b lim hk ha hb hbd
 refine Zd (n := 148) Tryz.func128 rfl (by decide +kernel) rfl rfl ?_
 refine qS (qR (qA (qN (qS (qR (qA (qN (qB ?_))))))))
 refine Zj (α := List MRef × Nat × Nat × Int × Bool × Bool) (fun x => ⟨[(10, bA x.2.2.2.2.1), (11, bA x.2.2.2.2.2), (0, .own q 3 0 n), (1, iA x.2.1), (2, iA x.2.2.1), (3, iA x.2.2.2.1), (4, .fn (.func 56) [])], [(q, .rows 25 3 (x.1.map MRef.cells))], [], 148⟩) (fun x => Rest mLt a b l x.2.1 x.2.2.1 x.1) (fun x => x.2.2.1 - x.2.1) (l, a, b, lim, true, true) (Rest.start ha hbd) ?_ ?_
 ·exact Zb [0] ⟨rfl, rfl, rfl, rfl, rfl, rfl, rfl, trivial⟩ rfl (by decide) rfl rfl
 rintro x hJ
 have hm := hJ.sw.len
 have hA := hJ.ha
 have hB := hJ.hb
 have hAB := hJ.hab
 refine qB (qS (qR (qM (qM ?_))))
 refine qe (Zv (y := iA (x.2.2.1 - x.2.1 : Nat)) (eL) (congrArg iA (by omega))) ?_
 refine qA (qN (qS (qS (qR (qM ?_)))))
 refine qe eI ?_
 refine qN ?_
 refine Z2 rfl ?_ ?_
 ·intro hc
  refine qS (qR (qM (qM (qM (qM ?_)))))
  refine Z5 [_] _ (w0 rfl) rfl rfl rfl rfl (Zk (k := 0) rfl) (Zah q n x.1 (by omega) hN x.2.1 x.2.2.1 hAB (by omega)) (fun v1 hv1 => ?_)
  refine qN (qE ?_)
  exact Zf rfl Z4 (.cons_cons _ .slnil) (gp v1 ⟨hJ.sw.trans (hv1.1.mono hA hB (by omega)), hJ.fin _ hv1.1 (hv1.2.on mLtT.ok)⟩ rfl rfl)
 ·intro hc
  have hlen : 12 < x.2.2.1 - x.2.1 := by simp at hc; omega
  refine qK (qS (qS (qR (qM ?_))))
  refine qe eI ?_
  refine qN ?_
  refine Z2 rfl ?_ ?_
  ·intro hc
   refine qS (qR (qM (qM (qM (qM ?_)))))
   refine Z5 [_] _ (w0 rfl) rfl rfl rfl rfl (Zk (k := 0) rfl) (Z8m q n x.1 (by omega) hN x.2.1 x.2.2.1 hAB (by omega)) (fun v2 hv2 => ?_)
   refine qN (qE ?_)
   exact Zf rfl Z4 (.cons_cons _ .slnil) (gp v2 ⟨hJ.sw.trans (hv2.1.mono hA hB (by omega)), hJ.fin _ hv2.1 hv2.2⟩ rfl rfl)
  ·intro hc
   refine qK (qS (qS (qR (qM ?_))))
   refine qe (Z03 rfl rfl) ?_
   refine qN ?_
   refine Z2 rfl ?_ ?_
   ·intro hc
    refine qS (qR (qM (qM (qM (qM ?_)))))
    refine Z5 [_] _ (w0 rfl) rfl rfl rfl rfl (Zk (k := 0) rfl) (Zdc q n x.1 (by omega) hN x.2.1 x.2.2.1 (by omega) (by omega)) (fun v3 hv3 => ?_)
    have hJ1 := hJ.move (by omega) hv3
    refine qN (qR (qM ?_))
    refine qe (Z9 rfl rfl rfl rfl) ?_
    refine qA (qN (qS (qR (qM (qM (qM (qM ?_)))))))
    refine Z5 [_] _ (w0 rfl) rfl rfl rfl rfl (Zk (k := 0) rfl) (Z9i q n _ (by have := hJ1.sw.len; omega) hN x.2.1 x.2.2.1 (by omega) (by omega)) (fun v4 hv4 => ?_)
    refine qM ?_
    refine qe (Zi rfl rfl rfl) ?_
    refine qe (Zi rfl rfl rfl) ?_
    refine qA (qA (qN (qS (qS ?_))))
    refine Z0h 13 rfl (fun pv hpv => ?_)
    have hp : x.2.1 ≤ pv ∧ pv < x.2.2.1 := by rw [hpv]; exact hv4
    refine qR (qM ?_)
    refine qe eI ?_
    refine qN ?_
    refine Z2 rfl ?_ ?_
    ·intro hc
     refine qS (qR (qM (qM (qM (qM ?_)))))
     refine Z5 [_] _ (w0 rfl) rfl rfl rfl rfl (Zk (k := 0) rfl) (Zey q n _ (by have := hJ1.sw.len; omega) hN x.2.1 x.2.2.1 (by omega) (by omega)) (fun v5 hv5 => ?_)
     have hJ2 := hJ1.move (by omega) hv5
     refine qN (qS (qR (qM ?_)))
     refine qe eL ?_
     refine qM (qM ?_)
     refine qe eL ?_
     refine qe (Zv (y := iA (x.2.2.1 - 1 - (pv - x.2.1) : Nat)) (eL) (congrArg iA (by omega))) ?_
     refine qA (qN (qR (qA (qN (qS (qS ?_))))))
     refine Z0h 13 rfl (fun p2 hp2 => ?_)
     have hp2' : x.2.1 ≤ p2 ∧ p2 < x.2.2.1 := by omega
     refine qR (qM (qM (qTM ?_)))
     refine qe (Zs rfl rfl rfl (fun h => h)) ?_
     refine qM (qTM ?_)
     refine Zp (wT rfl rfl rfl rfl) rfl (fun hg => (Zr rfl (Ze hg rfl) rfl rfl)) ?_
     refine qe (Zs rfl rfl rfl (fun h => h)) ?_
     refine qN ?_
     refine Z2 rfl ?_ ?_
     ·intro hc
      refine qS (qR (qM (qM (qM (qM ?_)))))
      refine Z5 [_] _ (w0 rfl) rfl rfl rfl rfl (Zk (k := 0) rfl) (Z3p q n _ (by have := hJ2.sw.len; omega) hN x.2.1 x.2.2.1 (by omega) (by omega) hJ2.bd) (fun v6 hv6 => ?_)
      have hJ3 := hJ2.move (by omega) hv6.1
      refine qN ?_
      refine Z2 rfl ?_ ?_
      ·intro hc
       refine qE ?_
       exact Zf rfl Z4 (.cons_cons _ .slnil) (gp v6.1 ⟨hJ3.sw, hJ2.fin _ hv6.1 ((hv6.2 hc).on mLtT.ok)⟩ rfl rfl)
      ·intro hc
       have hl3 := hJ3.sw.len
       refine qK (qS (qS ?_))
       refine Zz [0, 1, 3, 7, 7, 7, 39, 119, 247, 7, 7, 1543, 3591, 8191, 16383, 32767, 65535] 17 rfl (by kernel_rfl) ?_
       refine cM2 ?_
       refine ce eI ?_
       refine cM2 (cTM (cTM (cTM ?_)))
       refine Zc (wT rfl rfl rfl rfl) rfl (fun hg => (Z9 rfl (Ze hg rfl) rfl (Z0c (by omega)))) ?_
       refine Zc (wT rfl rfl rfl rfl) rfl (fun hg => (Z1 (x.2.1 - 1) rfl (Ze hg rfl) (Ze hg rfl) (by (try simp at hg) <;> omega) (by (try simp at hg) <;> omega) (by omega))) ?_
       refine Zq (f := MRef.cells) 0 (wT rfl rfl rfl rfl) rfl rfl (fun hg => (Ze hg rfl)) rfl (fun hg => by (try simp at hg) <;> omega) (fun _ => Z01 rfl) ?_
       refine cTM (cTM ?_)
       refine Zc (wT rfl rfl rfl rfl) rfl (fun hg => (Z1 p2 rfl (Ze hg rfl) (Ze hg rfl) (by (try simp at hg) <;> omega) (by (try simp at hg) <;> omega) (by omega))) ?_
       refine Zq (f := MRef.cells) 0 (wT rfl rfl rfl rfl) rfl rfl (fun hg => (Ze hg rfl)) rfl (fun hg => by (try simp at hg) <;> omega) (fun _ => Z01 rfl) ?_
       refine Zc (wT rfl rfl rfl rfl) rfl (fun hg => (Z8 [] rfl (Ze hg rfl) (Zg (Ze hg rfl) (Zg (Ze hg rfl) Z05)) (Z0q _ _) List.nodup_nil)) ?_
       refine Zc (wT rfl rfl rfl rfl) rfl (fun hg => (Zr rfl (Ze hg rfl) rfl rfl)) ?_
       refine Zc (wT rfl rfl rfl rfl) rfl (fun hg => (Z03 rfl (Ze hg rfl))) ?_
       refine ce (Zs rfl rfl rfl (fun h => h)) ?_
       refine .done (qN ?_)
       refine Z2 rfl ?_ ?_
       ·intro hc
        have ha0 : 0 < x.2.1 := by have := Z27 hc; simpa using this
        have hpe := Z1u (Z28 hc)
        refine qS (qR (qM (qM (qM (qM (qM ?_))))))
        refine Z5 [_] _ (w0 rfl) rfl rfl rfl rfl (Zk (k := 0) rfl) (Z2s q n _ (by omega) hN x.2.1 x.2.2.1 p2 hp2'.1 hp2'.2 (by omega)) (fun v7 hv7 => ?_)
        refine qA (qN (qS (qR (qM (qA (qN (qX ?_)))))))
        refine ⟨(v7.1, v7.2, x.2.2.1, IntKind.i64.wrap (x.2.2.2.1 - 1), x.2.2.2.2.1, x.2.2.2.2.2), (by obtain ⟨j, e, he⟩ := hv7.2.2.2.2; exact (hJ3.move (by omega) hv7.1).equal mLtT.ok (by omega) ha0 (by rw [hv7.1.out (.inl (by omega)), hv7.2.2.2.1]; exact hpe) he e hv7.2.1 hv7.2.2.1), (by (try simp only) <;> (have := hv7.2.1; omega)), ?_⟩
        exact qp [0] ⟨rfl, rfl, rfl, rfl, rfl, rfl, rfl, trivial⟩
       ·intro hc
        refine qK (qS (qR (qM (qM (qM (qM (qM ?_)))))))
        refine Z5 [_] _ (w0 rfl) rfl rfl rfl rfl (Zk (k := 0) rfl) (Z3b q n _ (by omega) hN x.2.1 x.2.2.1 p2 hp2'.1 hp2'.2 (by omega)) (fun v8 hv8 => ?_)
        refine qM ?_
        refine qe (Zi rfl rfl rfl) ?_
        refine qe (Zi rfl rfl rfl) ?_
        refine qA (qA (qN (qS (qR (qM (qA (qN (qS ?_))))))))
        have hJ4 := hJ3.move (by omega) hv8.1
        have hl4 := hJ4.sw.len
        have hmid : x.2.1 ≤ v8.2.1 ∧ v8.2.1 < x.2.2.1 := ⟨hv8.2.1, hv8.2.2.1⟩
        refine qR (qM (qM ?_))
        refine qe eL ?_
        refine qM (qM ?_)
        refine qe eL ?_
        refine qA (qA (qN (qS (qR (qM ?_)))))
        refine qe (Zv (y := iA ((x.2.2.1 - x.2.1) / 8 : Nat)) (Z0r rfl rfl rfl (by decide) (Z0l (x.2.2.1 - x.2.1) 8 (by omega))) (congrArg iA (Z1p (x.2.2.1 - x.2.1) 8))) ?_
        refine qA (qN (qS (qR (qM (qM ?_)))))
        refine qe eI ?_
        refine qN ?_
        refine Z2 rfl ?_ ?_
        ·intro hc
         refine qS (qR (qM (qM ?_)))
         refine qe eI ?_
         refine qA (qN (qS ?_))
         refine Z0f 10 rfl (fun wb hwb => ?_)
         refine qR (qM (qM (qM (qM (qM ?_)))))
         refine Z5 [_] _ (w0 rfl) rfl rfl rfl rfl (Zk (k := 0) rfl) (ih (v8.2.1 - x.2.1) (by omega) _ (by omega) x.2.1 v8.2.1 _ (Nat.le_refl _) (by omega) (by omega) (hJ4.bd.le (by omega))) (fun v9 hv9 => ?_)
         refine qN (qR (qM ?_))
         refine qe eP ?_
         refine qA (qN ?_)
         refine ⟨(v9, v8.2.1 + 1, x.2.2.1, IntKind.i64.wrap (x.2.2.2.1 - 1), wb, v8.2.2), (hJ4.lower mLtT.ok (by omega) hmid hv8.2.2.2 hv9.1 hv9.2), (by (try simp only) <;> omega), ?_⟩
         exact qp [0] ⟨rfl, rfl, rfl, rfl, rfl, rfl, rfl, trivial⟩
        ·intro hc
         refine qS (qR (qM (qM ?_)))
         refine qe eI ?_
         refine qA (qN (qS ?_))
         refine Z0f 10 rfl (fun wb hwb => ?_)
         refine qR (qM (qM ?_))
         refine qe eP ?_
         refine qM (qM (qM ?_))
         refine Z5 [_] _ (w0 rfl) rfl rfl rfl rfl (Zk (k := 0) rfl) (ih (x.2.2.1 - (v8.2.1 + 1)) (by omega) _ (by omega) (v8.2.1 + 1) x.2.2.1 _ (Nat.le_refl _) (by omega) (by omega) hv8.2.2.2.bd) (fun v10 hv10 => ?_)
         refine qN (qR (qM (qA (qN ?_))))
         refine ⟨(v10, x.2.1, v8.2.1, IntKind.i64.wrap (x.2.2.2.1 - 1), wb, v8.2.2), (hJ4.upper mLtT.ok (by omega) hmid hv8.2.2.2 hv10.1 hv10.2), (by (try simp only) <;> omega), ?_⟩
         exact qp [0] ⟨rfl, rfl, rfl, rfl, rfl, rfl, rfl, trivial⟩
     ·intro hc
      have hJ3 := hJ2
      have hl3 := hJ3.sw.len
      refine qK (qS (qS ?_))
      refine Zz [0, 1, 3, 7, 7, 7, 39, 119, 247, 7, 7, 1543, 3591, 8191, 16383, 32767, 65535] 17 rfl (by kernel_rfl) ?_
      refine cM2 ?_
      refine ce eI ?_
      refine cM2 (cTM (cTM (cTM ?_)))
      refine Zc (wT rfl rfl rfl rfl) rfl (fun hg => (Z9 rfl (Ze hg rfl) rfl (Z0c (by omega)))) ?_
      refine Zc (wT rfl rfl rfl rfl) rfl (fun hg => (Z1 (x.2.1 - 1) rfl (Ze hg rfl) (Ze hg rfl) (by (try simp at hg) <;> omega) (by (try simp at hg) <;> omega) (by omega))) ?_
      refine Zq (f := MRef.cells) 0 (wT rfl rfl rfl rfl) rfl rfl (fun hg => (Ze hg rfl)) rfl (fun hg => by (try simp at hg) <;> omega) (fun _ => Z01 rfl) ?_
      refine cTM (cTM ?_)
      refine Zc (wT rfl rfl rfl rfl) rfl (fun hg => (Z1 p2 rfl (Ze hg rfl) (Ze hg rfl) (by (try simp at hg) <;> omega) (by (try simp at hg) <;> omega) (by omega))) ?_
      refine Zq (f := MRef.cells) 0 (wT rfl rfl rfl rfl) rfl rfl (fun hg => (Ze hg rfl)) rfl (fun hg => by (try simp at hg) <;> omega) (fun _ => Z01 rfl) ?_
      refine Zc (wT rfl rfl rfl rfl) rfl (fun hg => (Z8 [] rfl (Ze hg rfl) (Zg (Ze hg rfl) (Zg (Ze hg rfl) Z05)) (Z0q _ _) List.nodup_nil)) ?_
      refine Zc (wT rfl rfl rfl rfl) rfl (fun hg => (Zr rfl (Ze hg rfl) rfl rfl)) ?_
      refine Zc (wT rfl rfl rfl rfl) rfl (fun hg => (Z03 rfl (Ze hg rfl))) ?_
      refine ce (Zs rfl rfl rfl (fun h => h)) ?_
      refine .done (qN ?_)
      refine Z2 rfl ?_ ?_
      ·intro hc
       have ha0 : 0 < x.2.1 := by have := Z27 hc; simpa using this
       have hpe := Z1u (Z28 hc)
       refine qS (qR (qM (qM (qM (qM (qM ?_))))))
       refine Z5 [_] _ (w0 rfl) rfl rfl rfl rfl (Zk (k := 0) rfl) (Z2s q n _ (by omega) hN x.2.1 x.2.2.1 p2 hp2'.1 hp2'.2 (by omega)) (fun v11 hv11 => ?_)
       refine qA (qN (qS (qR (qM (qA (qN (qX ?_)))))))
       refine ⟨(v11.1, v11.2, x.2.2.1, IntKind.i64.wrap (x.2.2.2.1 - 1), x.2.2.2.2.1, x.2.2.2.2.2), (by obtain ⟨j, e, he⟩ := hv11.2.2.2.2; exact (hJ3.move (by omega) hv11.1).equal mLtT.ok (by omega) ha0 (by rw [hv11.1.out (.inl (by omega)), hv11.2.2.2.1]; exact hpe) he e hv11.2.1 hv11.2.2.1), (by (try simp only) <;> (have := hv11.2.1; omega)), ?_⟩
       exact qp [0] ⟨rfl, rfl, rfl, rfl, rfl, rfl, rfl, trivial⟩
      ·intro hc
       refine qK (qS (qR (qM (qM (qM (qM (qM ?_)))))))
       refine Z5 [_] _ (w0 rfl) rfl rfl rfl rfl (Zk (k := 0) rfl) (Z3b q n _ (by omega) hN x.2.1 x.2.2.1 p2 hp2'.1 hp2'.2 (by omega)) (fun v12 hv12 => ?_)
       refine qM ?_
       refine qe (Zi rfl rfl rfl) ?_
       refine qe (Zi rfl rfl rfl) ?_
       refine qA (qA (qN (qS (qR (qM (qA (qN (qS ?_))))))))
       have hJ4 := hJ3.move (by omega) hv12.1
       have hl4 := hJ4.sw.len
       have hmid : x.2.1 ≤ v12.2.1 ∧ v12.2.1 < x.2.2.1 := ⟨hv12.2.1, hv12.2.2.1⟩
       refine qR (qM (qM ?_))
       refine qe eL ?_
       refine qM (qM ?_)
       refine qe eL ?_
       refine qA (qA (qN (qS (qR (qM ?_)))))
       refine qe (Zv (y := iA ((x.2.2.1 - x.2.1) / 8 : Nat)) (Z0r rfl rfl rfl (by decide) (Z0l (x.2.2.1 - x.2.1) 8 (by omega))) (congrArg iA (Z1p (x.2.2.1 - x.2.1) 8))) ?_
       refine qA (qN (qS (qR (qM (qM ?_)))))
       refine qe eI ?_
       refine qN ?_
       refine Z2 rfl ?_ ?_
       ·intro hc
        refine qS (qR (qM (qM ?_)))
        refine qe eI ?_
        refine qA (qN (qS ?_))
        refine Z0f 10 rfl (fun wb hwb => ?_)
        refine qR (qM (qM (qM (qM (qM ?_)))))
        refine Z5 [_] _ (w0 rfl) rfl rfl rfl rfl (Zk (k := 0) rfl) (ih (v12.2.1 - x.2.1) (by omega) _ (by omega) x.2.1 v12.2.1 _ (Nat.le_refl _) (by omega) (by omega) (hJ4.bd.le (by omega))) (fun v13 hv13 => ?_)
        refine qN (qR (qM ?_))
        refine qe eP ?_
        refine qA (qN ?_)
        refine ⟨(v13, v12.2.1 + 1, x.2.2.1, IntKind.i64.wrap (x.2.2.2.1 - 1), wb, v12.2.2), (hJ4.lower mLtT.ok (by omega) hmid hv12.2.2.2 hv13.1 hv13.2), (by (try simp only) <;> omega), ?_⟩
        exact qp [0] ⟨rfl, rfl, rfl, rfl, rfl, rfl, rfl, trivial⟩
       ·intro hc
        refine qS (qR (qM (qM ?_)))
        refine qe eI ?_
        refine qA (qN (qS ?_))
        refine Z0f 10 rfl (fun wb hwb => ?_)
        refine qR (qM (qM ?_))
        refine qe eP ?_
        refine qM (qM (qM ?_))
        refine Z5 [_] _ (w0 rfl) rfl rfl rfl rfl (Zk (k := 0) rfl) (ih (x.2.2.1 - (v12.2.1 + 1)) (by omega) _ (by omega) (v12.2.1 + 1) x.2.2.1 _ (Nat.le_refl _) (by omega) (by omega) hv12.2.2.2.bd) (fun v14 hv14 => ?_)
        refine qN (qR (qM (qA (qN ?_))))
        refine ⟨(v14, x.2.1, v12.2.1, IntKind.i64.wrap (x.2.2.2.1 - 1), wb, v12.2.2), (hJ4.upper mLtT.ok (by omega) hmid hv12.2.2.2 hv14.1 hv14.2), (by (try simp only) <;> omega), ?_⟩
        exact qp [0] ⟨rfl, rfl, rfl, rfl, rfl, rfl, rfl, trivial⟩
    ·intro hc
     have hJ2 := hJ1
     refine qK (qS (qS ?_))
     refine Z0h 13 rfl (fun p2 hp2 => ?_)
     have hp2' : x.2.1 ≤ p2 ∧ p2 < x.2.2.1 := by omega
     refine qR (qM (qM (qTM ?_)))
     refine qe (Zs rfl rfl rfl (fun h => h)) ?_
     refine qM (qTM ?_)
     refine Zp (wT rfl rfl rfl rfl) rfl (fun hg => (Zr rfl (Ze hg rfl) rfl rfl)) ?_
     refine qe (Zs rfl rfl rfl (fun h => h)) ?_
     refine qN ?_
     refine Z2 rfl ?_ ?_
     ·intro hc
      refine qS (qR (qM (qM (qM (qM ?_)))))
      refine Z5 [_] _ (w0 rfl) rfl rfl rfl rfl (Zk (k := 0) rfl) (Z3p q n _ (by have := hJ2.sw.len; omega) hN x.2.1 x.2.2.1 (by omega) (by omega) hJ2.bd) (fun v15 hv15 => ?_)
      have hJ3 := hJ2.move (by omega) hv15.1
      refine qN ?_
      refine Z2 rfl ?_ ?_
      ·intro hc
       refine qE ?_
       exact Zf rfl Z4 (.cons_cons _ .slnil) (gp v15.1 ⟨hJ3.sw, hJ2.fin _ hv15.1 ((hv15.2 hc).on mLtT.ok)⟩ rfl rfl)
      ·intro hc
       have hl3 := hJ3.sw.len
       refine qK (qS (qS ?_))
       refine Zz [0, 1, 3, 7, 7, 7, 39, 119, 247, 7, 7, 1543, 3591, 8191, 16383, 32767, 65535] 17 rfl (by kernel_rfl) ?_
       refine cM2 ?_
       refine ce eI ?_
       refine cM2 (cTM (cTM (cTM ?_)))
       refine Zc (wT rfl rfl rfl rfl) rfl (fun hg => (Z9 rfl (Ze hg rfl) rfl (Z0c (by omega)))) ?_
       refine Zc (wT rfl rfl rfl rfl) rfl (fun hg => (Z1 (x.2.1 - 1) rfl (Ze hg rfl) (Ze hg rfl) (by (try simp at hg) <;> omega) (by (try simp at hg) <;> omega) (by omega))) ?_
       refine Zq (f := MRef.cells) 0 (wT rfl rfl rfl rfl) rfl rfl (fun hg => (Ze hg rfl)) rfl (fun hg => by (try simp at hg) <;> omega) (fun _ => Z01 rfl) ?_
       refine cTM (cTM ?_)
       refine Zc (wT rfl rfl rfl rfl) rfl (fun hg => (Z1 p2 rfl (Ze hg rfl) (Ze hg rfl) (by (try simp at hg) <;> omega) (by (try simp at hg) <;> omega) (by omega))) ?_
       refine Zq (f := MRef.cells) 0 (wT rfl rfl rfl rfl) rfl rfl (fun hg => (Ze hg rfl)) rfl (fun hg => by (try simp at hg) <;> omega) (fun _ => Z01 rfl) ?_
       refine Zc (wT rfl rfl rfl rfl) rfl (fun hg => (Z8 [] rfl (Ze hg rfl) (Zg (Ze hg rfl) (Zg (Ze hg rfl) Z05)) (Z0q _ _) List.nodup_nil)) ?_
       refine Zc (wT rfl rfl rfl rfl) rfl (fun hg => (Zr rfl (Ze hg rfl) rfl rfl)) ?_
       refine Zc (wT rfl rfl rfl rfl) rfl (fun hg => (Z03 rfl (Ze hg rfl))) ?_
       refine ce (Zs rfl rfl rfl (fun h => h)) ?_
       refine .done (qN ?_)
       refine Z2 rfl ?_ ?_
       ·intro hc
        have ha0 : 0 < x.2.1 := by have := Z27 hc; simpa using this
        have hpe := Z1u (Z28 hc)
        refine qS (qR (qM (qM (qM (qM (qM ?_))))))
        refine Z5 [_] _ (w0 rfl) rfl rfl rfl rfl (Zk (k := 0) rfl) (Z2s q n _ (by omega) hN x.2.1 x.2.2.1 p2 hp2'.1 hp2'.2 (by omega)) (fun v16 hv16 => ?_)
        refine qA (qN (qS (qR (qM (qA (qN (qX ?_)))))))
        refine ⟨(v16.1, v16.2, x.2.2.1, IntKind.i64.wrap (x.2.2.2.1 - 1), x.2.2.2.2.1, x.2.2.2.2.2), (by obtain ⟨j, e, he⟩ := hv16.2.2.2.2; exact (hJ3.move (by omega) hv16.1).equal mLtT.ok (by omega) ha0 (by rw [hv16.1.out (.inl (by omega)), hv16.2.2.2.1]; exact hpe) he e hv16.2.1 hv16.2.2.1), (by (try simp only) <;> (have := hv16.2.1; omega)), ?_⟩
        exact qp [0] ⟨rfl, rfl, rfl, rfl, rfl, rfl, rfl, trivial⟩
       ·intro hc
        refine qK (qS (qR (qM (qM (qM (qM (qM ?_)))))))
        refine Z5 [_] _ (w0 rfl) rfl rfl rfl rfl (Zk (k := 0) rfl) (Z3b q n _ (by omega) hN x.2.1 x.2.2.1 p2 hp2'.1 hp2'.2 (by omega)) (fun v17 hv17 => ?_)
        refine qM ?_
        refine qe (Zi rfl rfl rfl) ?_
        refine qe (Zi rfl rfl rfl) ?_
        refine qA (qA (qN (qS (qR (qM (qA (qN (qS ?_))))))))
        have hJ4 := hJ3.move (by omega) hv17.1
        have hl4 := hJ4.sw.len
        have hmid : x.2.1 ≤ v17.2.1 ∧ v17.2.1 < x.2.2.1 := ⟨hv17.2.1, hv17.2.2.1⟩
        refine qR (qM (qM ?_))
        refine qe eL ?_
        refine qM (qM ?_)
        refine qe eL ?_
        refine qA (qA (qN (qS (qR (qM ?_)))))
        refine qe (Zv (y := iA ((x.2.2.1 - x.2.1) / 8 : Nat)) (Z0r rfl rfl rfl (by decide) (Z0l (x.2.2.1 - x.2.1) 8 (by omega))) (congrArg iA (Z1p (x.2.2.1 - x.2.1) 8))) ?_
        refine qA (qN (qS (qR (qM (qM ?_)))))
        refine qe eI ?_
        refine qN ?_
        refine Z2 rfl ?_ ?_
        ·intro hc
         refine qS (qR (qM (qM ?_)))
         refine qe eI ?_
         refine qA (qN (qS ?_))
         refine Z0f 10 rfl (fun wb hwb => ?_)
         refine qR (qM (qM (qM (qM (qM ?_)))))
         refine Z5 [_] _ (w0 rfl) rfl rfl rfl rfl (Zk (k := 0) rfl) (ih (v17.2.1 - x.2.1) (by omega) _ (by omega) x.2.1 v17.2.1 _ (Nat.le_refl _) (by omega) (by omega) (hJ4.bd.le (by omega))) (fun v18 hv18 => ?_)
         refine qN (qR (qM ?_))
         refine qe eP ?_
         refine qA (qN ?_)
         refine ⟨(v18, v17.2.1 + 1, x.2.2.1, IntKind.i64.wrap (x.2.2.2.1 - 1), wb, v17.2.2), (hJ4.lower mLtT.ok (by omega) hmid hv17.2.2.2 hv18.1 hv18.2), (by (try simp only) <;> omega), ?_⟩
         exact qp [0] ⟨rfl, rfl, rfl, rfl, rfl, rfl, rfl, trivial⟩
        ·intro hc
         refine qS (qR (qM (qM ?_)))
         refine qe eI ?_
         refine qA (qN (qS ?_))
         refine Z0f 10 rfl (fun wb hwb => ?_)
         refine qR (qM (qM ?_))
         refine qe eP ?_
         refine qM (qM (qM ?_))
         refine Z5 [_] _ (w0 rfl) rfl rfl rfl rfl (Zk (k := 0) rfl) (ih (x.2.2.1 - (v17.2.1 + 1)) (by omega) _ (by omega) (v17.2.1 + 1) x.2.2.1 _ (Nat.le_refl _) (by omega) (by omega) hv17.2.2.2.bd) (fun v19 hv19 => ?_)
         refine qN (qR (qM (qA (qN ?_))))
         refine ⟨(v19, x.2.1, v17.2.1, IntKind.i64.wrap (x.2.2.2.1 - 1), wb, v17.2.2), (hJ4.upper mLtT.ok (by omega) hmid hv17.2.2.2 hv19.1 hv19.2), (by (try simp only) <;> omega), ?_⟩
         exact qp [0] ⟨rfl, rfl, rfl, rfl, rfl, rfl, rfl, trivial⟩
     ·intro hc
      have hJ3 := hJ2
      have hl3 := hJ3.sw.len
      refine qK (qS (qS ?_))
      refine Zz [0, 1, 3, 7, 7, 7, 39, 119, 247, 7, 7, 1543, 3591, 8191, 16383, 32767, 65535] 17 rfl (by kernel_rfl) ?_
      refine cM2 ?_
      refine ce eI ?_
      refine cM2 (cTM (cTM (cTM ?_)))
      refine Zc (wT rfl rfl rfl rfl) rfl (fun hg => (Z9 rfl (Ze hg rfl) rfl (Z0c (by omega)))) ?_
      refine Zc (wT rfl rfl rfl rfl) rfl (fun hg => (Z1 (x.2.1 - 1) rfl (Ze hg rfl) (Ze hg rfl) (by (try simp at hg) <;> omega) (by (try simp at hg) <;> omega) (by omega))) ?_
      refine Zq (f := MRef.cells) 0 (wT rfl rfl rfl rfl) rfl rfl (fun hg => (Ze hg rfl)) rfl (fun hg => by (try simp at hg) <;> omega) (fun _ => Z01 rfl) ?_
      refine cTM (cTM ?_)
      refine Zc (wT rfl rfl rfl rfl) rfl (fun hg => (Z1 p2 rfl (Ze hg rfl) (Ze hg rfl) (by (try simp at hg) <;> omega) (by (try simp at hg) <;> omega) (by omega))) ?_
      refine Zq (f := MRef.cells) 0 (wT rfl rfl rfl rfl) rfl rfl (fun hg => (Ze hg rfl)) rfl (fun hg => by (try simp at hg) <;> omega) (fun _ => Z01 rfl) ?_
      refine Zc (wT rfl rfl rfl rfl) rfl (fun hg => (Z8 [] rfl (Ze hg rfl) (Zg (Ze hg rfl) (Zg (Ze hg rfl) Z05)) (Z0q _ _) List.nodup_nil)) ?_
      refine Zc (wT rfl rfl rfl rfl) rfl (fun hg => (Zr rfl (Ze hg rfl) rfl rfl)) ?_
      refine Zc (wT rfl rfl rfl rfl) rfl (fun hg => (Z03 rfl (Ze hg rfl))) ?_
      refine ce (Zs rfl rfl rfl (fun h => h)) ?_
      refine .done (qN ?_)
      refine Z2 rfl ?_ ?_
      ·intro hc
       have ha0 : 0 < x.2.1 := by have := Z27 hc; simpa using this
       have hpe := Z1u (Z28 hc)
       refine qS (qR (qM (qM (qM (qM (qM ?_))))))
       refine Z5 [_] _ (w0 rfl) rfl rfl rfl rfl (Zk (k := 0) rfl) (Z2s q n _ (by omega) hN x.2.1 x.2.2.1 p2 hp2'.1 hp2'.2 (by omega)) (fun v20 hv20 => ?_)
       refine qA (qN (qS (qR (qM (qA (qN (qX ?_)))))))
       refine ⟨(v20.1, v20.2, x.2.2.1, IntKind.i64.wrap (x.2.2.2.1 - 1), x.2.2.2.2.1, x.2.2.2.2.2), (by obtain ⟨j, e, he⟩ := hv20.2.2.2.2; exact (hJ3.move (by omega) hv20.1).equal mLtT.ok (by omega) ha0 (by rw [hv20.1.out (.inl (by omega)), hv20.2.2.2.1]; exact hpe) he e hv20.2.1 hv20.2.2.1), (by (try simp only) <;> (have := hv20.2.1; omega)), ?_⟩
       exact qp [0] ⟨rfl, rfl, rfl, rfl, rfl, rfl, rfl, trivial⟩
      ·intro hc
       refine qK (qS (qR (qM (qM (qM (qM (qM ?_)))))))
       refine Z5 [_] _ (w0 rfl) rfl rfl rfl rfl (Zk (k := 0) rfl) (Z3b q n _ (by omega) hN x.2.1 x.2.2.1 p2 hp2'.1 hp2'.2 (by omega)) (fun v21 hv21 => ?_)
       refine qM ?_
       refine qe (Zi rfl rfl rfl) ?_
       refine qe (Zi rfl rfl rfl) ?_
       refine qA (qA (qN (qS (qR (qM (qA (qN (qS ?_))))))))
       have hJ4 := hJ3.move (by omega) hv21.1
       have hl4 := hJ4.sw.len
       have hmid : x.2.1 ≤ v21.2.1 ∧ v21.2.1 < x.2.2.1 := ⟨hv21.2.1, hv21.2.2.1⟩
       refine qR (qM (qM ?_))
       refine qe eL ?_
       refine qM (qM ?_)
       refine qe eL ?_
       refine qA (qA (qN (qS (qR (qM ?_)))))
       refine qe (Zv (y := iA ((x.2.2.1 - x.2.1) / 8 : Nat)) (Z0r rfl rfl rfl (by decide) (Z0l (x.2.2.1 - x.2.1) 8 (by omega))) (congrArg iA (Z1p (x.2.2.1 - x.2.1) 8))) ?_
       refine qA (qN (qS (qR (qM (qM ?_)))))
       refine qe eI ?_
       refine qN ?_
       refine Z2 rfl ?_ ?_
       ·intro hc
        refine qS (qR (qM (qM ?_)))
        refine qe eI ?_
        refine qA (qN (qS ?_))
        refine Z0f 10 rfl (fun wb hwb => ?_)
        refine qR (qM (qM (qM (qM (qM ?_)))))
        refine Z5 [_] _ (w0 rfl) rfl rfl rfl rfl (Zk (k := 0) rfl) (ih (v21.2.1 - x.2.1) (by omega) _ (by omega) x.2.1 v21.2.1 _ (Nat.le_refl _) (by omega) (by omega) (hJ4.bd.le (by omega))) (fun v22 hv22 => ?_)
        refine qN (qR (qM ?_))
        refine qe eP ?_
        refine qA (qN ?_)
        refine ⟨(v22, v21.2.1 + 1, x.2.2.1, IntKind.i64.wrap (x.2.2.2.1 - 1), wb, v21.2.2), (hJ4.lower mLtT.ok (by omega) hmid hv21.2.2.2 hv22.1 hv22.2), (by (try simp only) <;> omega), ?_⟩
        exact qp [0] ⟨rfl, rfl, rfl, rfl, rfl, rfl, rfl, trivial⟩
       ·intro hc
        refine qS (qR (qM (qM ?_)))
        refine qe eI ?_
        refine qA (qN (qS ?_))
        refine Z0f 10 rfl (fun wb hwb => ?_)
        refine qR (qM (qM ?_))
        refine qe eP ?_
        refine qM (qM (qM ?_))
        refine Z5 [_] _ (w0 rfl) rfl rfl rfl rfl (Zk (k := 0) rfl) (ih (x.2.2.1 - (v21.2.1 + 1)) (by omega) _ (by omega) (v21.2.1 + 1) x.2.2.1 _ (Nat.le_refl _) (by omega) (by omega) hv21.2.2.2.bd) (fun v23 hv23 => ?_)
        refine qN (qR (qM (qA (qN ?_))))
        refine ⟨(v23, x.2.1, v21.2.1, IntKind.i64.wrap (x.2.2.2.1 - 1), wb, v21.2.2), (hJ4.upper mLtT.ok (by omega) hmid hv21.2.2.2 hv23.1 hv23.2), (by (try simp only) <;> omega), ?_⟩
        exact qp [0] ⟨rfl, rfl, rfl, rfl, rfl, rfl, rfl, trivial⟩
   ·intro hc
    have hJ1 := hJ
    refine qK (qS (qR (qM (qM (qM (qM ?_))))))
    refine Z5 [_] _ (w0 rfl) rfl rfl rfl rfl (Zk (k := 0) rfl) (Z9i q n _ (by have := hJ1.sw.len; omega) hN x.2.1 x.2.2.1 (by omega) (by omega)) (fun v24 hv24 => ?_)
    refine qM ?_
    refine qe (Zi rfl rfl rfl) ?_
    refine qe (Zi rfl rfl rfl) ?_
    refine qA (qA (qN (qS (qS ?_))))
    refine Z0h 13 rfl (fun pv hpv => ?_)
    have hp : x.2.1 ≤ pv ∧ pv < x.2.2.1 := by rw [hpv]; exact hv24
    refine qR (qM ?_)
    refine qe eI ?_
    refine qN ?_
    refine Z2 rfl ?_ ?_
    ·intro hc
     refine qS (qR (qM (qM (qM (qM ?_)))))
     refine Z5 [_] _ (w0 rfl) rfl rfl rfl rfl (Zk (k := 0) rfl) (Zey q n _ (by have := hJ1.sw.len; omega) hN x.2.1 x.2.2.1 (by omega) (by omega)) (fun v25 hv25 => ?_)
     have hJ2 := hJ1.move (by omega) hv25
     refine qN (qS (qR (qM ?_)))
     refine qe eL ?_
     refine qM (qM ?_)
     refine qe eL ?_
     refine qe (Zv (y := iA (x.2.2.1 - 1 - (pv - x.2.1) : Nat)) (eL) (congrArg iA (by omega))) ?_
     refine qA (qN (qR (qA (qN (qS (qS ?_))))))
     refine Z0h 13 rfl (fun p2 hp2 => ?_)
     have hp2' : x.2.1 ≤ p2 ∧ p2 < x.2.2.1 := by omega
     refine qR (qM (qM (qTM ?_)))
     refine qe (Zs rfl rfl rfl (fun h => h)) ?_
     refine qM (qTM ?_)
     refine Zp (wT rfl rfl rfl rfl) rfl (fun hg => (Zr rfl (Ze hg rfl) rfl rfl)) ?_
     refine qe (Zs rfl rfl rfl (fun h => h)) ?_
     refine qN ?_
     refine Z2 rfl ?_ ?_
     ·intro hc
      refine qS (qR (qM (qM (qM (qM ?_)))))
      refine Z5 [_] _ (w0 rfl) rfl rfl rfl rfl (Zk (k := 0) rfl) (Z3p q n _ (by have := hJ2.sw.len; omega) hN x.2.1 x.2.2.1 (by omega) (by omega) hJ2.bd) (fun v26 hv26 => ?_)
      have hJ3 := hJ2.move (by omega) hv26.1
      refine qN ?_
      refine Z2 rfl ?_ ?_
      ·intro hc
       refine qE ?_
       exact Zf rfl Z4 (.cons_cons _ .slnil) (gp v26.1 ⟨hJ3.sw, hJ2.fin _ hv26.1 ((hv26.2 hc).on mLtT.ok)⟩ rfl rfl)
      ·intro hc
       have hl3 := hJ3.sw.len
       refine qK (qS (qS ?_))
       refine Zz [0, 1, 3, 7, 7, 7, 39, 119, 247, 7, 7, 1543, 3591, 8191, 16383, 32767, 65535] 17 rfl (by kernel_rfl) ?_
       refine cM2 ?_
       refine ce eI ?_
       refine cM2 (cTM (cTM (cTM ?_)))
       refine Zc (wT rfl rfl rfl rfl) rfl (fun hg => (Z9 rfl (Ze hg rfl) rfl (Z0c (by omega)))) ?_
       refine Zc (wT rfl rfl rfl rfl) rfl (fun hg => (Z1 (x.2.1 - 1) rfl (Ze hg rfl) (Ze hg rfl) (by (try simp at hg) <;> omega) (by (try simp at hg) <;> omega) (by omega))) ?_
       refine Zq (f := MRef.cells) 0 (wT rfl rfl rfl rfl) rfl rfl (fun hg => (Ze hg rfl)) rfl (fun hg => by (try simp at hg) <;> omega) (fun _ => Z01 rfl) ?_
       refine cTM (cTM ?_)
       refine Zc (wT rfl rfl rfl rfl) rfl (fun hg => (Z1 p2 rfl (Ze hg rfl) (Ze hg rfl) (by (try simp at hg) <;> omega) (by (try simp at hg) <;> omega) (by omega))) ?_
       refine Zq (f := MRef.cells) 0 (wT rfl rfl rfl rfl) rfl rfl (fun hg => (Ze hg rfl)) rfl (fun hg => by (try simp at hg) <;> omega) (fun _ => Z01 rfl) ?_
       refine Zc (wT rfl rfl rfl rfl) rfl (fun hg => (Z8 [] rfl (Ze hg rfl) (Zg (Ze hg rfl) (Zg (Ze hg rfl) Z05)) (Z0q _ _) List.nodup_nil)) ?_
       refine Zc (wT rfl rfl rfl rfl) rfl (fun hg => (Zr rfl (Ze hg rfl) rfl rfl)) ?_
       refine Zc (wT rfl rfl rfl rfl) rfl (fun hg => (Z03 rfl (Ze hg rfl))) ?_
       refine ce (Zs rfl rfl rfl (fun h => h)) ?_
       refine .done (qN ?_)
       refine Z2 rfl ?_ ?_
       ·intro hc
        have ha0 : 0 < x.2.1 := by have := Z27 hc; simpa using this
        have hpe := Z1u (Z28 hc)
        refine qS (qR (qM (qM (qM (qM (qM ?_))))))
        refine Z5 [_] _ (w0 rfl) rfl rfl rfl rfl (Zk (k := 0) rfl) (Z2s q n _ (by omega) hN x.2.1 x.2.2.1 p2 hp2'.1 hp2'.2 (by omega)) (fun v27 hv27 => ?_)
        refine qA (qN (qS (qR (qM (qA (qN (qX ?_)))))))
        refine ⟨(v27.1, v27.2, x.2.2.1, x.2.2.2.1, x.2.2.2.2.1, x.2.2.2.2.2), (by obtain ⟨j, e, he⟩ := hv27.2.2.2.2; exact (hJ3.move (by omega) hv27.1).equal mLtT.ok (by omega) ha0 (by rw [hv27.1.out (.inl (by omega)), hv27.2.2.2.1]; exact hpe) he e hv27.2.1 hv27.2.2.1), (by (try simp only) <;> (have := hv27.2.1; omega)), ?_⟩
        exact qp [0] ⟨rfl, rfl, rfl, rfl, rfl, rfl, rfl, trivial⟩
       ·intro hc
        refine qK (qS (qR (qM (qM (qM (qM (qM ?_)))))))
        refine Z5 [_] _ (w0 rfl) rfl rfl rfl rfl (Zk (k := 0) rfl) (Z3b q n _ (by omega) hN x.2.1 x.2.2.1 p2 hp2'.1 hp2'.2 (by omega)) (fun v28 hv28 => ?_)
        refine qM ?_
        refine qe (Zi rfl rfl rfl) ?_
        refine qe (Zi rfl rfl rfl) ?_
        refine qA (qA (qN (qS (qR (qM (qA (qN (qS ?_))))))))
        have hJ4 := hJ3.move (by omega) hv28.1
        have hl4 := hJ4.sw.len
        have hmid : x.2.1 ≤ v28.2.1 ∧ v28.2.1 < x.2.2.1 := ⟨hv28.2.1, hv28.2.2.1⟩
        refine qR (qM (qM ?_))
        refine qe eL ?_
        refine qM (qM ?_)
        refine qe eL ?_
        refine qA (qA (qN (qS (qR (qM ?_)))))
        refine qe (Zv (y := iA ((x.2.2.1 - x.2.1) / 8 : Nat)) (Z0r rfl rfl rfl (by decide) (Z0l (x.2.2.1 - x.2.1) 8 (by omega))) (congrArg iA (Z1p (x.2.2.1 - x.2.1) 8))) ?_
        refine qA (qN (qS (qR (qM (qM ?_)))))
        refine qe eI ?_
        refine qN ?_
        refine Z2 rfl ?_ ?_
        ·intro hc
         refine qS (qR (qM (qM ?_)))
         refine qe eI ?_
         refine qA (qN (qS ?_))
         refine Z0f 10 rfl (fun wb hwb => ?_)
         refine qR (qM (qM (qM (qM (qM ?_)))))
         refine Z5 [_] _ (w0 rfl) rfl rfl rfl rfl (Zk (k := 0) rfl) (ih (v28.2.1 - x.2.1) (by omega) _ (by omega) x.2.1 v28.2.1 _ (Nat.le_refl _) (by omega) (by omega) (hJ4.bd.le (by omega))) (fun v29 hv29 => ?_)
         refine qN (qR (qM ?_))
         refine qe eP ?_
         refine qA (qN ?_)
         refine ⟨(v29, v28.2.1 + 1, x.2.2.1, x.2.2.2.1, wb, v28.2.2), (hJ4.lower mLtT.ok (by omega) hmid hv28.2.2.2 hv29.1 hv29.2), (by (try simp only) <;> omega), ?_⟩
         exact qp [0] ⟨rfl, rfl, rfl, rfl, rfl, rfl, rfl, trivial⟩
        ·intro hc
         refine qS (qR (qM (qM ?_)))
         refine qe eI ?_
         refine qA (qN (qS ?_))
         refine Z0f 10 rfl (fun wb hwb => ?_)
         refine qR (qM (qM ?_))
         refine qe eP ?_
         refine qM (qM (qM ?_))
         refine Z5 [_] _ (w0 rfl) rfl rfl rfl rfl (Zk (k := 0) rfl) (ih (x.2.2.1 - (v28.2.1 + 1)) (by omega) _ (by omega) (v28.2.1 + 1) x.2.2.1 _ (Nat.le_refl _) (by omega) (by omega) hv28.2.2.2.bd) (fun v30 hv30 => ?_)
         refine qN (qR (qM (qA (qN ?_))))
         refine ⟨(v30, x.2.1, v28.2.1, x.2.2.2.1, wb, v28.2.2), (hJ4.upper mLtT.ok (by omega) hmid hv28.2.2.2 hv30.1 hv30.2), (by (try simp only) <;> omega), ?_⟩
         exact qp [0] ⟨rfl, rfl, rfl, rfl, rfl, rfl, rfl, trivial⟩
     ·intro hc
      have hJ3 := hJ2
      have hl3 := hJ3.sw.len
      refine qK (qS (qS ?_))
      refine Zz [0, 1, 3, 7, 7, 7, 39, 119, 247, 7, 7, 1543, 3591, 8191, 16383, 32767, 65535] 17 rfl (by kernel_rfl) ?_
      refine cM2 ?_
      refine ce eI ?_
      refine cM2 (cTM (cTM (cTM ?_)))
      refine Zc (wT rfl rfl rfl rfl) rfl (fun hg => (Z9 rfl (Ze hg rfl) rfl (Z0c (by omega)))) ?_
      refine Zc (wT rfl rfl rfl rfl) rfl (fun hg => (Z1 (x.2.1 - 1) rfl (Ze hg rfl) (Ze hg rfl) (by (try simp at hg) <;> omega) (by (try simp at hg) <;> omega) (by omega))) ?_
      refine Zq (f := MRef.cells) 0 (wT rfl rfl rfl rfl) rfl rfl (fun hg => (Ze hg rfl)) rfl (fun hg => by (try simp at hg) <;> omega) (fun _ => Z01 rfl) ?_
      refine cTM (cTM ?_)
      refine Zc (wT rfl rfl rfl rfl) rfl (fun hg => (Z1 p2 rfl (Ze hg rfl) (Ze hg rfl) (by (try simp at hg) <;> omega) (by (try simp at hg) <;> omega) (by omega))) ?_
      refine Zq (f := MRef.cells) 0 (wT rfl rfl rfl rfl) rfl rfl (fun hg => (Ze hg rfl)) rfl (fun hg => by (try simp at hg) <;> omega) (fun _ => Z01 rfl) ?_
      refine Zc (wT rfl rfl rfl rfl) rfl (fun hg => (Z8 [] rfl (Ze hg rfl) (Zg (Ze hg rfl) (Zg (Ze hg rfl) Z05)) (Z0q _ _) List.nodup_nil)) ?_
      refine Zc (wT rfl rfl rfl rfl) rfl (fun hg => (Zr rfl (Ze hg rfl) rfl rfl)) ?_
      refine Zc (wT rfl rfl rfl rfl) rfl (fun hg => (Z03 rfl (Ze hg rfl))) ?_
      refine ce (Zs rfl rfl rfl (fun h => h)) ?_
      refine .done (qN ?_)
      refine Z2 rfl ?_ ?_
      ·intro hc
       have ha0 : 0 < x.2.1 := by have := Z27 hc; simpa using this
       have hpe := Z1u (Z28 hc)
       refine qS (qR (qM (qM (qM (qM (qM ?_))))))
       refine Z5 [_] _ (w0 rfl) rfl rfl rfl rfl (Zk (k := 0) rfl) (Z2s q n _ (by omega) hN x.2.1 x.2.2.1 p2 hp2'.1 hp2'.2 (by omega)) (fun v31 hv31 => ?_)
       refine qA (qN (qS (qR (qM (qA (qN (qX ?_)))))))
       refine ⟨(v31.1, v31.2, x.2.2.1, x.2.2.2.1, x.2.2.2.2.1, x.2.2.2.2.2), (by obtain ⟨j, e, he⟩ := hv31.2.2.2.2; exact (hJ3.move (by omega) hv31.1).equal mLtT.ok (by omega) ha0 (by rw [hv31.1.out (.inl (by omega)), hv31.2.2.2.1]; exact hpe) he e hv31.2.1 hv31.2.2.1), (by (try simp only) <;> (have := hv31.2.1; omega)), ?_⟩
       exact qp [0] ⟨rfl, rfl, rfl, rfl, rfl, rfl, rfl, trivial⟩
      ·intro hc
       refine qK (qS (qR (qM (qM (qM (qM (qM ?_)))))))
       refine Z5 [_] _ (w0 rfl) rfl rfl rfl rfl (Zk (k := 0) rfl) (Z3b q n _ (by omega) hN x.2.1 x.2.2.1 p2 hp2'.1 hp2'.2 (by omega)) (fun v32 hv32 => ?_)
       refine qM ?_
       refine qe (Zi rfl rfl rfl) ?_
       refine qe (Zi rfl rfl rfl) ?_
       refine qA (qA (qN (qS (qR (qM (qA (qN (qS ?_))))))))
       have hJ4 := hJ3.move (by omega) hv32.1
       have hl4 := hJ4.sw.len
       have hmid : x.2.1 ≤ v32.2.1 ∧ v32.2.1 < x.2.2.1 := ⟨hv32.2.1, hv32.2.2.1⟩
       refine qR (qM (qM ?_))
       refine qe eL ?_
       refine qM (qM ?_)
       refine qe eL ?_
       refine qA (qA (qN (qS (qR (qM ?_)))))
       refine qe (Zv (y := iA ((x.2.2.1 - x.2.1) / 8 : Nat)) (Z0r rfl rfl rfl (by decide) (Z0l (x.2.2.1 - x.2.1) 8 (by omega))) (congrArg iA (Z1p (x.2.2.1 - x.2.1) 8))) ?_
       refine qA (qN (qS (qR (qM (qM ?_)))))
       refine qe eI ?_
       refine qN ?_
       refine Z2 rfl ?_ ?_
       ·intro hc
        refine qS (qR (qM (qM ?_)))
        refine qe eI ?_
        refine qA (qN (qS ?_))
        refine Z0f 10 rfl (fun wb hwb => ?_)
        refine qR (qM (qM (qM (qM (qM ?_)))))
        refine Z5 [_] _ (w0 rfl) rfl rfl rfl rfl (Zk (k := 0) rfl) (ih (v32.2.1 - x.2.1) (by omega) _ (by omega) x.2.1 v32.2.1 _ (Nat.le_refl _) (by omega) (by omega) (hJ4.bd.le (by omega))) (fun v33 hv33 => ?_)
        refine qN (qR (qM ?_))
        refine qe eP ?_
        refine qA (qN ?_)
        refine ⟨(v33, v32.2.1 + 1, x.2.2.1, x.2.2.2.1, wb, v32.2.2), (hJ4.lower mLtT.ok (by omega) hmid hv32.2.2.2 hv33.1 hv33.2), (by (try simp only) <;> omega), ?_⟩
        exact qp [0] ⟨rfl, rfl, rfl, rfl, rfl, rfl, rfl, trivial⟩
       ·intro hc
        refine qS (qR (qM (qM ?_)))
        refine qe eI ?_
        refine qA (qN (qS ?_))
        refine Z0f 10 rfl (fun wb hwb => ?_)
        refine qR (qM (qM ?_))
        refine qe eP ?_
        refine qM (qM (qM ?_))
        refine Z5 [_] _ (w0 rfl) rfl rfl rfl rfl (Zk (k := 0) rfl) (ih (x.2.2.1 - (v32.2.1 + 1)) (by omega) _ (by omega) (v32.2.1 + 1) x.2.2.1 _ (Nat.le_refl _) (by omega) (by omega) hv32.2.2.2.bd) (fun v34 hv34 => ?_)
        refine qN (qR (qM (qA (qN ?_))))
        refine ⟨(v34, x.2.1, v32.2.1, x.2.2.2.1, wb, v32.2.2), (hJ4.upper mLtT.ok (by omega) hmid hv32.2.2.2 hv34.1 hv34.2), (by (try simp only) <;> omega), ?_⟩
        exact qp [0] ⟨rfl, rfl, rfl, rfl, rfl, rfl, rfl, trivial⟩
    ·intro hc
     have hJ2 := hJ1
     refine qK (qS (qS ?_))
     refine Z0h 13 rfl (fun p2 hp2 => ?_)
     have hp2' : x.2.1 ≤ p2 ∧ p2 < x.2.2.1 := by omega
     refine qR (qM (qM (qTM ?_)))
     refine qe (Zs rfl rfl rfl (fun h => h)) ?_
     refine qM (qTM ?_)
     refine Zp (wT rfl rfl rfl rfl) rfl (fun hg => (Zr rfl (Ze hg rfl) rfl rfl)) ?_
     refine qe (Zs rfl rfl rfl (fun h => h)) ?_
     refine qN ?_
     refine Z2 rfl ?_ ?_
     ·intro hc
      refine qS (qR (qM (qM (qM (qM ?_)))))
      refine Z5 [_] _ (w0 rfl) rfl rfl rfl rfl (Zk (k := 0) rfl) (Z3p q n _ (by have := hJ2.sw.len; omega) hN x.2.1 x.2.2.1 (by omega) (by omega) hJ2.bd) (fun v35 hv35 => ?_)
      have hJ3 := hJ2.move (by omega) hv35.1
      refine qN ?_
      refine Z2 rfl ?_ ?_
      ·intro hc
       refine qE ?_
       exact Zf rfl Z4 (.cons_cons _ .slnil) (gp v35.1 ⟨hJ3.sw, hJ2.fin _ hv35.1 ((hv35.2 hc).on mLtT.ok)⟩ rfl rfl)
      ·intro hc
       have hl3 := hJ3.sw.len
       refine qK (qS (qS ?_))
       refine Zz [0, 1, 3, 7, 7, 7, 39, 119, 247, 7, 7, 1543, 3591, 8191, 16383, 32767, 65535] 17 rfl (by kernel_rfl) ?_
       refine cM2 ?_
       refine ce eI ?_
       refine cM2 (cTM (cTM (cTM ?_)))
       refine Zc (wT rfl rfl rfl rfl) rfl (fun hg => (Z9 rfl (Ze hg rfl) rfl (Z0c (by omega)))) ?_
       refine Zc (wT rfl rfl rfl rfl) rfl (fun hg => (Z1 (x.2.1 - 1) rfl (Ze hg rfl) (Ze hg rfl) (by (try simp at hg) <;> omega) (by (try simp at hg) <;> omega) (by omega))) ?_
       refine Zq (f := MRef.cells) 0 (wT rfl rfl rfl rfl) rfl rfl (fun hg => (Ze hg rfl)) rfl (fun hg => by (try simp at hg) <;> omega) (fun _ => Z01 rfl) ?_
       refine cTM (cTM ?_)
       refine Zc (wT rfl rfl rfl rfl) rfl (fun hg => (Z1 p2 rfl (Ze hg rfl) (Ze hg rfl) (by (try simp at hg) <;> omega) (by (try simp at hg) <;> omega) (by omega))) ?_
       refine Zq (f := MRef.cells) 0 (wT rfl rfl rfl rfl) rfl rfl (fun hg => (Ze hg rfl)) rfl (fun hg => by (try simp at hg) <;> omega) (fun _ => Z01 rfl) ?_
       refine Zc (wT rfl rfl rfl rfl) rfl (fun hg => (Z8 [] rfl (Ze hg rfl) (Zg (Ze hg rfl) (Zg (Ze hg rfl) Z05)) (Z0q _ _) List.nodup_nil)) ?_
       refine Zc (wT rfl rfl rfl rfl) rfl (fun hg => (Zr rfl (Ze hg rfl) rfl rfl)) ?_
       refine Zc (wT rfl rfl rfl rfl) rfl (fun hg => (Z03 rfl (Ze hg rfl))) ?_
       refine ce (Zs rfl rfl rfl (fun h => h)) ?_
       refine .done (qN ?_)
       refine Z2 rfl ?_ ?_
       ·intro hc
        have ha0 : 0 < x.2.1 := by have := Z27 hc; simpa using this
        have hpe := Z1u (Z28 hc)
        refine qS (qR (qM (qM (qM (qM (qM ?_))))))
        refine Z5 [_] _ (w0 rfl) rfl rfl rfl rfl (Zk (k := 0) rfl) (Z2s q n _ (by omega) hN x.2.1 x.2.2.1 p2 hp2'.1 hp2'.2 (by omega)) (fun v36 hv36 => ?_)
        refine qA (qN (qS (qR (qM (qA (qN (qX ?_)))))))
        refine ⟨(v36.1, v36.2, x.2.2.1, x.2.2.2.1, x.2.2.2.2.1, x.2.2.2.2.2), (by obtain ⟨j, e, he⟩ := hv36.2.2.2.2; exact (hJ3.move (by omega) hv36.1).equal mLtT.ok (by omega) ha0 (by rw [hv36.1.out (.inl (by omega)), hv36.2.2.2.1]; exact hpe) he e hv36.2.1 hv36.2.2.1), (by (try simp only) <;> (have := hv36.2.1; omega)), ?_⟩
        exact qp [0] ⟨rfl, rfl, rfl, rfl, rfl, rfl, rfl, trivial⟩
       ·intro hc
        refine qK (qS (qR (qM (qM (qM (qM (qM ?_)))))))
        refine Z5 [_] _ (w0 rfl) rfl rfl rfl rfl (Zk (k := 0) rfl) (Z3b q n _ (by omega) hN x.2.1 x.2.2.1 p2 hp2'.1 hp2'.2 (by omega)) (fun v37 hv37 => ?_)
        refine qM ?_
        refine qe (Zi rfl rfl rfl) ?_
        refine qe (Zi rfl rfl rfl) ?_
        refine qA (qA (qN (qS (qR (qM (qA (qN (qS ?_))))))))
        have hJ4 := hJ3.move (by omega) hv37.1
        have hl4 := hJ4.sw.len
        have hmid : x.2.1 ≤ v37.2.1 ∧ v37.2.1 < x.2.2.1 := ⟨hv37.2.1, hv37.2.2.1⟩
        refine qR (qM (qM ?_))
        refine qe eL ?_
        refine qM (qM ?_)
        refine qe eL ?_
        refine qA (qA (qN (qS (qR (qM ?_)))))
        refine qe (Zv (y := iA ((x.2.2.1 - x.2.1) / 8 : Nat)) (Z0r rfl rfl rfl (by decide) (Z0l (x.2.2.1 - x.2.1) 8 (by omega))) (congrArg iA (Z1p (x.2.2.1 - x.2.1) 8))) ?_
        refine qA (qN (qS (qR (qM (qM ?_)))))
        refine qe eI ?_
        refine qN ?_
        refine Z2 rfl ?_ ?_
        ·intro hc
         refine qS (qR (qM (qM ?_)))
         refine qe eI ?_
         refine qA (qN (qS ?_))
         refine Z0f 10 rfl (fun wb hwb => ?_)
         refine qR (qM (qM (qM (qM (qM ?_)))))
         refine Z5 [_] _ (w0 rfl) rfl rfl rfl rfl (Zk (k := 0) rfl) (ih (v37.2.1 - x.2.1) (by omega) _ (by omega) x.2.1 v37.2.1 _ (Nat.le_refl _) (by omega) (by omega) (hJ4.bd.le (by omega))) (fun v38 hv38 => ?_)
         refine qN (qR (qM ?_))
         refine qe eP ?_
         refine qA (qN ?_)
         refine ⟨(v38, v37.2.1 + 1, x.2.2.1, x.2.2.2.1, wb, v37.2.2), (hJ4.lower mLtT.ok (by omega) hmid hv37.2.2.2 hv38.1 hv38.2), (by (try simp only) <;> omega), ?_⟩
         exact qp [0] ⟨rfl, rfl, rfl, rfl, rfl, rfl, rfl, trivial⟩
        ·intro hc
         refine qS (qR (qM (qM ?_)))
         refine qe eI ?_
         refine qA (qN (qS ?_))
         refine Z0f 10 rfl (fun wb hwb => ?_)
         refine qR (qM (qM ?_))
         refine qe eP ?_
         refine qM (qM (qM ?_))
         refine Z5 [_] _ (w0 rfl) rfl rfl rfl rfl (Zk (k := 0) rfl) (ih (x.2.2.1 - (v37.2.1 + 1)) (by omega) _ (by omega) (v37.2.1 + 1) x.2.2.1 _ (Nat.le_refl _) (by omega) (by omega) hv37.2.2.2.bd) (fun v39 hv39 => ?_)
         refine qN (qR (qM (qA (qN ?_))))
         refine ⟨(v39, x.2.1, v37.2.1, x.2.2.2.1, wb, v37.2.2), (hJ4.upper mLtT.ok (by omega) hmid hv37.2.2.2 hv39.1 hv39.2), (by (try simp only) <;> omega), ?_⟩
         exact qp [0] ⟨rfl, rfl, rfl, rfl, rfl, rfl, rfl, trivial⟩
     ·intro hc
      have hJ3 := hJ2
      have hl3 := hJ3.sw.len
      refine qK (qS (qS ?_))
      refine Zz [0, 1, 3, 7, 7, 7, 39, 119, 247, 7, 7, 1543, 3591, 8191, 16383, 32767, 65535] 17 rfl (by kernel_rfl) ?_
      refine cM2 ?_
      refine ce eI ?_
      refine cM2 (cTM (cTM (cTM ?_)))
      refine Zc (wT rfl rfl rfl rfl) rfl (fun hg => (Z9 rfl (Ze hg rfl) rfl (Z0c (by omega)))) ?_
      refine Zc (wT rfl rfl rfl rfl) rfl (fun hg => (Z1 (x.2.1 - 1) rfl (Ze hg rfl) (Ze hg rfl) (by (try simp at hg) <;> omega) (by (try simp at hg) <;> omega) (by omega))) ?_
      refine Zq (f := MRef.cells) 0 (wT rfl rfl rfl rfl) rfl rfl (fun hg => (Ze hg rfl)) rfl (fun hg => by (try simp at hg) <;> omega) (fun _ => Z01 rfl) ?_
      refine cTM (cTM ?_)
      refine Zc (wT rfl rfl rfl rfl) rfl (fun hg => (Z1 p2 rfl (Ze hg rfl) (Ze hg rfl) (by (try simp at hg) <;> omega) (by (try simp at hg) <;> omega) (by omega))) ?_
      refine Zq (f := MRef.cells) 0 (wT rfl rfl rfl rfl) rfl rfl (fun hg => (Ze hg rfl)) rfl (fun hg => by (try simp at hg) <;> omega) (fun _ => Z01 rfl) ?_
      refine Zc (wT rfl rfl rfl rfl) rfl (fun hg => (Z8 [] rfl (Ze hg rfl) (Zg (Ze hg rfl) (Zg (Ze hg rfl) Z05)) (Z0q _ _) List.nodup_nil)) ?_
      refine Zc (wT rfl rfl rfl rfl) rfl (fun hg => (Zr rfl (Ze hg rfl) rfl rfl)) ?_
      refine Zc (wT rfl rfl rfl rfl) rfl (fun hg => (Z03 rfl (Ze hg rfl))) ?_
      refine ce (Zs rfl rfl rfl (fun h => h)) ?_
      refine .done (qN ?_)
      refine Z2 rfl ?_ ?_
      ·intro hc
       have ha0 : 0 < x.2.1 := by have := Z27 hc; simpa using this
       have hpe := Z1u (Z28 hc)
       refine qS (qR (qM (qM (qM (qM (qM ?_))))))
       refine Z5 [_] _ (w0 rfl) rfl rfl rfl rfl (Zk (k := 0) rfl) (Z2s q n _ (by omega) hN x.2.1 x.2.2.1 p2 hp2'.1 hp2'.2 (by omega)) (fun v40 hv40 => ?_)
       refine qA (qN (qS (qR (qM (qA (qN (qX ?_)))))))
       refine ⟨(v40.1, v40.2, x.2.2.1, x.2.2.2.1, x.2.2.2.2.1, x.2.2.2.2.2), (by obtain ⟨j, e, he⟩ := hv40.2.2.2.2; exact (hJ3.move (by omega) hv40.1).equal mLtT.ok (by omega) ha0 (by rw [hv40.1.out (.inl (by omega)), hv40.2.2.2.1]; exact hpe) he e hv40.2.1 hv40.2.2.1), (by (try simp only) <;> (have := hv40.2.1; omega)), ?_⟩
       exact qp [0] ⟨rfl, rfl, rfl, rfl, rfl, rfl, rfl, trivial⟩
      ·intro hc
       refine qK (qS (qR (qM (qM (qM (qM (qM ?_)))))))
       refine Z5 [_] _ (w0 rfl) rfl rfl rfl rfl (Zk (k := 0) rfl) (Z3b q n _ (by omega) hN x.2.1 x.2.2.1 p2 hp2'.1 hp2'.2 (by omega)) (fun v41 hv41 => ?_)
       refine qM ?_
       refine qe (Zi rfl rfl rfl) ?_
       refine qe (Zi rfl rfl rfl) ?_
       refine qA (qA (qN (qS (qR (qM (qA (qN (qS ?_))))))))
       have hJ4 := hJ3.move (by omega) hv41.1
       have hl4 := hJ4.sw.len
       have hmid : x.2.1 ≤ v41.2.1 ∧ v41.2.1 < x.2.2.1 := ⟨hv41.2.1, hv41.2.2.1⟩
       refine qR (qM (qM ?_))
       refine qe eL ?_
       refine qM (qM ?_)
       refine qe eL ?_
       refine qA (qA (qN (qS (qR (qM ?_)))))
       refine qe (Zv (y := iA ((x.2.2.1 - x.2.1) / 8 : Nat)) (Z0r rfl rfl rfl (by decide) (Z0l (x.2.2.1 - x.2.1) 8 (by omega))) (congrArg iA (Z1p (x.2.2.1 - x.2.1) 8))) ?_
       refine qA (qN (qS (qR (qM (qM ?_)))))
       refine qe eI ?_
       refine qN ?_
       refine Z2 rfl ?_ ?_
       ·intro hc
        refine qS (qR (qM (qM ?_)))
        refine qe eI ?_
        refine qA (qN (qS ?_))
        refine Z0f 10 rfl (fun wb hwb => ?_)
        refine qR (qM (qM (qM (qM (qM ?_)))))
        refine Z5 [_] _ (w0 rfl) rfl rfl rfl rfl (Zk (k := 0) rfl) (ih (v41.2.1 - x.2.1) (by omega) _ (by omega) x.2.1 v41.2.1 _ (Nat.le_refl _) (by omega) (by omega) (hJ4.bd.le (by omega))) (fun v42 hv42 => ?_)
        refine qN (qR (qM ?_))
        refine qe eP ?_
        refine qA (qN ?_)
        refine ⟨(v42, v41.2.1 + 1, x.2.2.1, x.2.2.2.1, wb, v41.2.2), (hJ4.lower mLtT.ok (by omega) hmid hv41.2.2.2 hv42.1 hv42.2), (by (try simp only) <;> omega), ?_⟩
        exact qp [0] ⟨rfl, rfl, rfl, rfl, rfl, rfl, rfl, trivial⟩
       ·intro hc
        refine qS (qR (qM (qM ?_)))
        refine qe eI ?_
        refine qA (qN (qS ?_))
        refine Z0f 10 rfl (fun wb hwb => ?_)
        refine qR (qM (qM ?_))
        refine qe eP ?_
        refine qM (qM (qM ?_))
        refine Z5 [_] _ (w0 rfl) rfl rfl rfl rfl (Zk (k := 0) rfl) (ih (x.2.2.1 - (v41.2.1 + 1)) (by omega) _ (by omega) (v41.2.1 + 1) x.2.2.1 _ (Nat.le_refl _) (by omega) (by omega) hv41.2.2.2.bd) (fun v43 hv43 => ?_)
        refine qN (qR (qM (qA (qN ?_))))
        refine ⟨(v43, x.2.1, v41.2.1, x.2.2.2.1, wb, v41.2.2), (hJ4.upper mLtT.ok (by omega) hmid hv41.2.2.2 hv43.1 hv43.2), (by (try simp only) <;> omega), ?_⟩
        exact qp [0] ⟨rfl, rfl, rfl, rfl, rfl, rfl, rfl, trivial⟩
theorem Zft (q n : Nat) (l : List MRef) (hn : l.length = n) (hN : n ≤ 140737488355328)  : ACalls Tryz.prog 101 [.own q 3 0 n, .fn (.func 56) []] [(q, .rows 25 3 (l.map MRef.cells))] (GP (fun _ : List MRef => mkRes []) (fun m => [(q, .rows 25 3 (m.map MRef.cells))]) (fun m => m.Perm l ∧ SOn mLt 0 n m)) := by
 refine Zd (n := 14) Tryz.func101 rfl (by decide +kernel) rfl rfl ?_
 refine qS (qR (qM ?_))
 refine qe (Zx rfl rfl rfl rfl) ?_
 refine qA (qN (qR (qM (qM (qM ?_)))))
 refine qe (Zv (y := xA n) (Z0i rfl rfl) (congrArg xA (Z37 (by omega)))) ?_
 refine Z23 (w0 rfl) rfl rfl rfl rfl (Z48 n (by omega)) (fun v1 hv1 => ?_)
 refine qM ?_
 refine Z5 [_] _ (w0 rfl) rfl rfl rfl rfl (Zk (k := 0) rfl) (Zgj q n hN n l hn 0 n _ (by omega) (by omega) (Nat.le_refl _) (.inl rfl)) (fun v2 hv2 => ?_)
 refine qN ?_
 exact Zf rfl Z4 (.cons_cons _ .slnil) (gp v2 ⟨hv2.1.perm, hv2.2⟩ rfl rfl)
end Go.Sx
namespace Go.Sx
open Go
variable {P : Program} {ro : Option Nat} {Q : Exit → St → Prop} {s : St} {ops : Array Oper} {o : Oper} {rest : List Oper} {T : List (Nat × AV)}
theorem Z3y (id n : Nat) {t e bytes : Nat} {p q : Operand} {z : Value} [hu : UD P t (.slice e)] [ha : AP P e 1 bytes] [hz : ZC P e [z]] (ho : o.op = .makeSlice t p q)
  (hp : ev T p = some (.v (.int .i64 n))) (hq : ev T q = some (.v (.int .i64 n))) (h1 : bytes * n ≤ 140737488355328) (hm : n ≤ maxLen) (h2 : one (.v z) = true) :
  Eff P o T [] (.own id 1 0 n) [(id, .rows e 1 (List.replicate n [.v z]))] :=
 Z70 (N := n) (by intro c; rw [ho]; nofun) fun C H a w hw _ hv hid => by
  have e1 := VR.val (hv p (by rw [ho]; simp [Op.operands]) _ hp)
  have e2 := VR.val (hv q (by rw [ho]; simp [Op.operands]) _ hq)
  obtain ⟨i, zv, hi, hzv, hsz, hby, hzs, hpos⟩ := AP.open ha.ap
  have hz2 : zv.cells = #[z] := by
   have := hz.zc
   unfold Program.zc at this
   rw [hi] at this
   simp only [hzv, Option.map_some, Option.some.injEq] at this
   apply Array.ext'
   rw [this]
  have hm' : n ≤ 9223372036854775807 := hm
  have hw2 : IntKind.i64.wrap (n : Int) = n := Z1r (by omega)
  have hb1 : ¬ (281474976710656 < (bytes : Int) * n) := by
   have : ((bytes * n : Nat) : Int) ≤ 140737488355328 := Int.ofNat_le.2 h1
   rw [Int.natCast_mul] at this; omega
  let z0 : Array Value := if n = 0 then #[] else zv.cells
  refine ⟨.slice (some ⟨w.heap.size, 0, none⟩) n n, .cells ((Array.range n).map (z0[· % z0.size]!)) e, ?_, ?_, ?_⟩
  ·have e3 : (asInt (.int .i64 (n : Int))).run P w = .ok (n : Int) w := by simp [asInt, asIntOf, Sem.run_bind, Result.andThen]
   have h00 : ¬ ((n : Int) < 0) := by omega
   have hc1 : ¬ ((bytes : Int) * n > 2 ^ 48) := hb1
   have hc0 : (decide ((n : Int) < 0) || decide ((bytes : Int) * n > 2 ^ 48)) = false := by rw [decide_eq_false h00, decide_eq_false hc1]; rfl
   have hn0 : ((n : Int)).toNat = n := by omega
   have hrun : (Instr.makeSlice t (.int .i64 n) (.int .i64 n)).run P w = .ok (.slice (some ⟨w.heap.size, 0, none⟩) n n) (w.alloc (.cells ((Array.range n).map (z0[· % z0.size]!)) e)) := by
    unfold Instr.makeSlice
    simp only [Sem.run_bind, Go.run_underlying hu.ud, Result.andThen, e3, typeInfo, hi, hby, hw2, hc0, h00, Int.lt_irrefl, decide_false, Bool.or_false, Bool.false_or, Bool.false_eq_true, if_false, run_askRoom, hn0, sizeOf, hsz, Nat.mul_one, Sem.run_pure]
    by_cases h0 : n = 0
    ·have hz0 : z0 = #[] := if_pos h0
     rw [hz0]
     simp [h0, hi, hby, hsz, newRow, run_newObj_alloc, Sem.run_bind, Result.andThen]
    ·have hz0 : z0 = zv.cells := if_neg h0
     rw [hz0]
     simp [h0, hi, hby, hsz, hb1, hzv, zeroValue, typeInfo, newRow, run_newObj_alloc, Sem.run_bind, Result.andThen, -getElem!_pos]
   have e4 : execOp a.eval o = (do pure (.value (← Instr.makeSlice t (a.eval p) (a.eval q)))) := by simp only [execOp, ho]
   rw [e4, e1, e2, Sem.run_bind, hrun]
   rfl
  ·have := VR.own (C := C.bind id w.heap.size n) id 1 0 n w.heap.size n n (Ctx.bind_m ..) List.mem_cons_self (by simp) (Nat.le_refl _) hm
   simpa using this
  ·refine ⟨by intro l hl; rw [List.eq_of_mem_replicate hl]; rfl, .inr ⟨w.heap.size, n, _, Ctx.bind_m .., heap_alloc_new w _, by simp, by simp, ?_⟩⟩
   intro i' l j c hl hc
   have hlt := Z19 hl
   rw [List.length_replicate] at hlt
   have hl2 : l = [.v z] := List.eq_of_mem_replicate (List.mem_of_getElem? hl)
   subst hl2
   have hj := Z19 hc
   simp only [List.length_singleton] at hj
   have : j = 0 := by omega
   subst this
   simp at hc; subst hc
   have hz0 : z0 = #[z] := by show (if n = 0 then #[] else zv.cells) = _; rw [if_neg (by omega), hz2]
   refine ⟨z, ?_, .v z, Z59 (C := C) (.v z) h2⟩
   rw [hz0]
   simp [hlt, Nat.mod_one]
def byteRows (x : ByteArray) : List (List AV) := x.data.toList.map fun b => [.v (.int .u8 b.toNat)]
end Go.Sx
namespace Go.Sx
open Go
variable {P : Program} {ro : Option Nat} {Q : Exit → St → Prop} {s : St} {ops : Array Oper} {o : Oper} {rest : List Oper} {T : List (Nat × AV)}
theorem Z1g {t e n : Nat} {b : Bool} {p q : Operand} {id off len : Nat} {kd : IntKind} {k : Int} [h : UD P t (.slice e)] [k1 : TK P e b n] (ho : o.op = .slice t p (some q) none none)
  (hp : ev T p = some (.own id n off len)) (hq : ev T q = some (.v (.int kd k))) (h0 : 0 ≤ k) (h1 : k < len) : Eff P o T [] (.own id n (off + k.toNat) (len - k.toNat)) [] :=
 Z15 (by intro c; rw [ho]; nofun) fun C H a w hw hn hv => by
  have h2 := hv p (by rw [ho]; simp [Op.operands]) _ hp
  have h3 := VR.val (hv q (by rw [ho]; simp [Op.operands]) _ hq)
  generalize hpv : a.eval p = u at h2
  cases h2 with
  | own _ _ _ _ bb N cap hid hu hcap hlen hml =>
   have hkc : k ≤ (len : Int) := by omega
   have hne : ¬ cap = k.toNat := by omega
   have hmul : (off + k.toNat) * n = off * n + k.toNat * n := Nat.add_mul ..
   have hv := VR.own (C := C) id n (off + k.toNat) (len - k.toNat) bb N (cap - k.toNat) hid hu (by rw [← hcap]; congr 1; omega) (by omega) (by omega)
   rw [hmul] at hv
   refine ⟨_, ?_, hv⟩
   simp [execOp, ho, hpv, h3, Instr.sliceAt, Instr.slice, Instr.sliceBounds, run_underlying (d := .slice e), Z1n k1.tk, Z4j rfl h0 hkc, Sem.run_bind, Result.andThen, Sem.run_pure, Addr.add, hne]
  | ownNil => omega
theorem Z6r {t e id el off len : Nat} {p : Operand} {z : Value} {es : List (List AV)} (k : Nat) [hu : UD P t (.slice e)] [hz : ZV P e z] (hzc : z.cells = #[z]) (hz1 : z.oneCell' = true) (hw : Wanted ops s.T o true) (hd : dok o.dst s.n = true)
  (ho : o.op = .call { callee := .builtin .clear, args := #[p], argTypes := #[t] }) (hp : ev s.T p = some (.own id 1 off len)) (hH : s.H[k]? = some (id, .rows el 1 es))
  (h : AOps P ro ops rest Q { s with T := put s.T o.dst (.tup []), H := s.H.set k (id, .rows el 1 (es.take off)) }) : AOps P ro ops (o :: rest) Q s := by
 refine Z1s hw ?_
 intro Z C0 H0 w0 C a w hx0 hs
 obtain ⟨hu', hlenx, hor⟩ := hs.wr.ids _ _ (List.mem_of_getElem? hH)
 have htup : ∀ C' : Ctx, VR C' (.tup []) (.tuple #[]) := fun C' => .tup _ _ rfl (fun i c x hc => by simp at hc)
 have hle1 : ∀ e' : List AV, e' ∈ es.take off → e'.length = 1 := fun e' he => hlenx e' (List.mem_of_mem_take he)
 have hsem : ∀ (v : Value) (w' : World), (Builtin.clear_ #[t] o.type #[a.eval p]).run P w = .ok v w' → (o.semAt ro a.eval).run P w = .ok (.value v) w' := fun v w' hv => by
  rw [Oper.semAt_eq _ _ _ (by intro c; rw [ho]; nofun)]
  simp [execOp, ho, resolve, invoke, builtin, hv, Result.andThen, Sem.run_bind]
 have stay : (∀ b N cells, C.m id = some (b, N) → w.heap[b]? = some (.cells cells el (0, 0)) → True) → (o.semAt ro a.eval).run P w = .ok (.value (.tuple #[])) w →
   o.uponIn (Wd ro) 0 P a (Sat Z C0 H0 w0 (AOps P ro ops rest Q)) (fun e a' w' => match e with | .panic ch => Sat Z C0 H0 w0 ((fun ch => Q (.panic ch)) ch) a' w' | _ => False) ((o.semAt ro a.eval).run P w) := by
  intro _ hr
  rw [hr]
  obtain ⟨hw1, he1⟩ := Z35 (Z := Z) (C' := C) (id' := id) (o' := .rows el 1 (es.take off)) (w' := w) hs.wr hH (.refl C) rfl (.inl rfl) hu' (fun _ _ h => h) rfl rfl rfl (Nat.le_refl _) (fun b N' hm' => .inl ⟨N', hm'⟩) (fun _ _ _ => rfl) (by
   refine ⟨hle1, ?_⟩
   rcases hor with ⟨hm0, rfl⟩ | ⟨b', N', cells, hmb', hh, hsN, hfit, hrow⟩
   ·exact .inl ⟨hm0, by simp⟩
   ·refine .inr ⟨b', N', cells, hmb', hh, hsN, ?_, ?_⟩
    ·rw [List.length_take]; omega
    ·intro i e' j c he' hc
     rw [List.getElem?_take] at he'
     split at he'
     ·exact hrow i e' j c he' hc
     ·cases he')
  exact ⟨C, _, h, hs.put he1.le hw1 (Z1l hd) (htup C), hx0.trans he1⟩
 have hpv := hs.ev hp
 generalize hav : a.eval p = u at hpv hsem
 cases hpv with
 | ownNil _ _ hid hiu =>
  exact stay (fun _ _ _ _ _ => trivial) (hsem _ _ (by simp [Builtin.clear_, Go.run_underlying hu.ud]))
 | own _ _ _ _ b N cap hid _ hcap hlc hcm =>
  cases len with
  | zero => exact stay (fun _ _ _ _ _ => trivial) (hsem _ _ (by simp [Builtin.clear_, Go.run_underlying hu.ud]))
  | succ m =>
   rcases hor with ⟨hm0, _⟩ | ⟨b', N', cells, hmb', hh, hsN, hfit, hrow⟩
   ·rw [hid] at hm0; cases hm0
   ·rw [hid] at hmb'; cases hmb'
    have hzl : (Builtin.zeroCells z.cells (m + 1)).toList = List.replicate (m + 1) z := by
     rw [hzc]
     simp [Builtin.zeroCells]
     apply List.ext_getElem
     ·simp
     ·intro i h1 h2
      simp [Nat.mod_one]
    have hst := run_storeCells_at (P := P) b off el (List.replicate (m + 1) z) 0 cells w hh (by simp; omega) (by intro v hv'; rw [List.eq_of_mem_replicate hv']; exact hz1)
    simp only [Nat.add_zero, List.length_replicate] at hst
    have hr := hsem (.tuple #[]) (w.setRow b (cells.toList.take off ++ List.replicate (m + 1) z ++ cells.toList.drop (off + (m + 1))).toArray) (by
     simp only [Nat.mul_one]
     simp [Builtin.clear_, Go.run_underlying hu.ud, Za3 hz.zv, hzl, hst, Sem.run_bind, Result.andThen])
    rw [hr]
    obtain ⟨hw1, he1⟩ := Z35 (Z := Z) (C' := C) (id' := id) (o' := .rows el 1 (es.take off)) (w' := w.setRow b (cells.toList.take off ++ List.replicate (m + 1) z ++ cells.toList.drop (off + (m + 1))).toArray) hs.wr hH (.refl C) rfl (.inl rfl) hu' (fun _ _ h => h) rfl rfl rfl (by simp [World.setRow])
     (fun b N' hm' => .inl ⟨N', hm'⟩) (fun b2 hb2 hne => setRow_other w b b2 _ (by rintro rfl; exact hne _ hid)) (by
      refine ⟨hle1, .inr ⟨b, N, _, hid, setRow_heap w b cells _ el (0, 0) hh, ?_, ?_, ?_⟩⟩
      ·simp only [List.size_toArray, List.length_append, List.length_take, List.length_drop, List.length_replicate, Array.length_toList]
       omega
      ·rw [List.length_take]; omega
      ·intro i e' j c he' hc
       rw [List.getElem?_take] at he'
       split at he'
       ·rename_i hio
        obtain ⟨x, h3, h4⟩ := hrow i e' j c he' hc
        have hj : j = 0 := by have := hlenx e' (List.mem_of_getElem? he'); have := Z19 hc; omega
        subst hj
        refine ⟨x, ?_, h4⟩
        have hlt := (Array.getElem?_eq_some_iff.1 h3).1
        rw [List.getElem?_toArray, List.append_assoc, List.getElem?_append_left (by simp only [List.length_take, Array.length_toList]; omega), List.getElem?_take, if_pos (by omega), Array.getElem?_toList]
        exact h3
       ·cases he')
    exact ⟨C, _, h, hs.put he1.le hw1 (Z1l hd) (htup C), hx0.trans he1⟩
end Go.Sx
namespace Go.Sx
open Go
section
variable {P : Program} {T : List (Nat × AV)} {o : Oper}
end
section
variable {P : Program} {ro : Option Nat} {Q : Exit → St → Prop} {s : St} {ops : Array Oper} {o : Oper} {rest : List Oper}
theorem Z4m {t e : Nat} {p : Operand} {es : List (List AV)} [hu : UD P t (.slice e)] (hw : Wanted ops s.T o true) (hd : dok o.dst s.n = true)
  (ho : o.op = .binOp .eql t p (.const (.slice none 0 0)) t) (hp : ev s.T p = some (.lst es))
  (h : ∀ b, (b = true → es = []) → AOps P ro ops rest Q { s with T := put s.T o.dst (.v (.bool b)) }) : AOps P ro ops (o :: rest) Q s := by
 refine Z1s hw ?_
 intro Z C0 H0 w0 C a w hx0 hs
 have hpv := hs.ev hp
 have key : ∀ b, (o.semAt ro a.eval).run P w = .ok (.value (.bool b)) w → (b = true → es = []) →
   o.uponIn (Wd ro) 0 P a (Sat Z C0 H0 w0 (AOps P ro ops rest Q)) (fun e a' w' => match e with | .panic ch => Sat Z C0 H0 w0 ((fun ch => Q (.panic ch)) ch) a' w' | _ => False) ((o.semAt ro a.eval).run P w) := by
  intro b hr hb
  rw [hr]
  exact ⟨C, _, h b hb, hs.put (Ctx.Le.refl C) hs.wr (Z1l hd) (.v _), hx0⟩
 generalize hav : a.eval p = u at hpv
 have run : ∀ (x : Option Addr) (n c : Nat), u = .slice x n c → (o.semAt ro a.eval).run P w = .ok (.value (.bool x.isNone)) w := by
  rintro x n c rfl
  rw [Oper.semAt_eq _ _ _ (by intro c; rw [ho]; nofun)]
  have hc0 : a.eval (.const (.slice none 0 0)) = .slice none 0 0 := rfl
  simp [execOp, ho, hav, hc0, eqGuard, binOp, Op.equal, Op.maxDepth, Lib.run_equalIn_slice_nil w 9999 t e x n c 0 0 hu.ud, Sem.run_bind, Result.andThen]
 cases hpv with
 | lstNil => exact key _ (run _ _ _ rfl) (fun _ => rfl)
 | lst _ ad sz cap cells elem fz xs hs' => exact key _ (run _ _ _ rfl) (fun h => by cases h)
theorem Z5d {t e id el off len n : Nat} {p : Operand} {z : Value} {es : List (List AV)} (k : Nat) [hu : UD P t (.slice e)] [hz : ZV P e z] (hzc : z.cells.size = n) (hz1 : ∀ v, v ∈ z.cells.toList → v.oneCell' = true) (hw : Wanted ops s.T o true) (hd : dok o.dst s.n = true)
  (ho : o.op = .call { callee := .builtin .clear, args := #[p], argTypes := #[t] }) (hp : ev s.T p = some (.own id n off len)) (hH : s.H[k]? = some (id, .rows el n es))
  (h : AOps P ro ops rest Q { s with T := put s.T o.dst (.tup []), H := s.H.set k (id, .rows el n (es.take off)) }) : AOps P ro ops (o :: rest) Q s := by
 refine Z1s hw ?_
 intro Z C0 H0 w0 C a w hx0 hs
 obtain ⟨hu', hlenx, hor⟩ := hs.wr.ids _ _ (List.mem_of_getElem? hH)
 have htup : ∀ C' : Ctx, VR C' (.tup []) (.tuple #[]) := fun C' => .tup _ _ rfl (fun i c x hc => by simp at hc)
 have hle1 : ∀ e' : List AV, e' ∈ es.take off → e'.length = n := fun e' he => hlenx e' (List.mem_of_mem_take he)
 have hsem : ∀ (v : Value) (w' : World), (Builtin.clear_ #[t] o.type #[a.eval p]).run P w = .ok v w' → (o.semAt ro a.eval).run P w = .ok (.value v) w' := fun v w' hv => by
  rw [Oper.semAt_eq _ _ _ (by intro c; rw [ho]; nofun)]
  simp [execOp, ho, resolve, invoke, builtin, hv, Result.andThen, Sem.run_bind]
 have stay : (∀ b N cells, C.m id = some (b, N) → w.heap[b]? = some (.cells cells el (0, 0)) → True) → (o.semAt ro a.eval).run P w = .ok (.value (.tuple #[])) w →
   o.uponIn (Wd ro) 0 P a (Sat Z C0 H0 w0 (AOps P ro ops rest Q)) (fun e a' w' => match e with | .panic ch => Sat Z C0 H0 w0 ((fun ch => Q (.panic ch)) ch) a' w' | _ => False) ((o.semAt ro a.eval).run P w) := by
  intro _ hr
  rw [hr]
  obtain ⟨hw1, he1⟩ := Z35 (Z := Z) (C' := C) (id' := id) (o' := .rows el n (es.take off)) (w' := w) hs.wr hH (.refl C) rfl (.inl rfl) hu' (fun _ _ h => h) rfl rfl rfl (Nat.le_refl _) (fun b N' hm' => .inl ⟨N', hm'⟩) (fun _ _ _ => rfl) (by
   refine ⟨hle1, ?_⟩
   rcases hor with ⟨hm0, rfl⟩ | ⟨b', N', cells, hmb', hh, hsN, hfit, hrow⟩
   ·exact .inl ⟨hm0, by simp⟩
   ·refine .inr ⟨b', N', cells, hmb', hh, hsN, ?_, ?_⟩
    ·rw [List.length_take]
     exact Nat.le_trans (Nat.mul_le_mul_right _ (Nat.min_le_right _ _)) hfit
    ·intro i e' j c he' hc
     rw [List.getElem?_take] at he'
     split at he'
     ·exact hrow i e' j c he' hc
     ·cases he')
  exact ⟨C, _, h, hs.put he1.le hw1 (Z1l hd) (htup C), hx0.trans he1⟩
 have hpv := hs.ev hp
 generalize hav : a.eval p = u at hpv hsem
 cases hpv with
 | ownNil _ _ hid hiu =>
  exact stay (fun _ _ _ _ _ => trivial) (hsem _ _ (by simp [Builtin.clear_, Go.run_underlying hu.ud]))
 | own _ _ _ _ b N cap hid _ hcap hlc hcm =>
  cases len with
  | zero => exact stay (fun _ _ _ _ _ => trivial) (hsem _ _ (by simp [Builtin.clear_, Go.run_underlying hu.ud]))
  | succ m =>
   rcases hor with ⟨hm0, _⟩ | ⟨b', N', cells, hmb', hh, hsN, hfit, hrow⟩
   ·rw [hid] at hm0; cases hm0
   ·rw [hid] at hmb'; cases hmb'
    have hL1 : (Builtin.zeroCells z.cells (m + 1)).toList.length = (m + 1) * n := by simp [Builtin.zeroCells, hzc]
    have hL2 : ∀ v, v ∈ (Builtin.zeroCells z.cells (m + 1)).toList → v.oneCell' = true := by
     intro v hv'
     simp only [Builtin.zeroCells, Array.toList_map, Array.toList_range, List.mem_map, List.mem_range] at hv'
     obtain ⟨i, hi, rfl⟩ := hv'
     have hn0 : 0 < z.cells.size := by
      rcases Nat.eq_zero_or_pos z.cells.size with h0 | h0
      ·rw [h0] at hi; omega
      ·exact h0
     have hm := Nat.mod_lt i hn0
     rw [getElem!_pos z.cells (i % z.cells.size) hm]
     exact hz1 _ (Array.getElem_mem_toList hm)
    generalize hLL : (Builtin.zeroCells z.cells (m + 1)).toList = L at hL1 hL2
    have hfit' : off * n + (m + 1) * n ≤ N := by
     rw [← hcap, ← Nat.add_mul]; exact Nat.mul_le_mul_right _ (by omega)
    have hst := run_storeCells_at (P := P) b (off * n) el L 0 cells w hh (by omega) hL2
    simp only [Nat.add_zero] at hst
    have hr := hsem (.tuple #[]) (w.setRow b (cells.toList.take (off * n) ++ L ++ cells.toList.drop (off * n + L.length)).toArray) (by
     simp [Builtin.clear_, Go.run_underlying hu.ud, Za3 hz.zv, hLL, hst, Sem.run_bind, Result.andThen])
    rw [hr]
    obtain ⟨hw1, he1⟩ := Z35 (Z := Z) (C' := C) (id' := id) (o' := .rows el n (es.take off)) (w' := w.setRow b (cells.toList.take (off * n) ++ L ++ cells.toList.drop (off * n + L.length)).toArray) hs.wr hH (.refl C) rfl (.inl rfl) hu' (fun _ _ h => h) rfl rfl rfl (by simp [World.setRow])
     (fun b N' hm' => .inl ⟨N', hm'⟩) (fun b2 hb2 hne => setRow_other w b b2 _ (by rintro rfl; exact hne _ hid)) (by
      refine ⟨hle1, .inr ⟨b, N, _, hid, setRow_heap w b cells _ el (0, 0) hh, ?_, ?_, ?_⟩⟩
      ·simp only [List.size_toArray, List.length_append, List.length_take, List.length_drop, Array.length_toList]
       omega
      ·rw [List.length_take]
       exact Nat.le_trans (Nat.mul_le_mul_right _ (Nat.min_le_right _ _)) hfit
      ·intro i e' j c he' hc
       rw [List.getElem?_take] at he'
       split at he'
       ·rename_i hio
        obtain ⟨x, h3, h4⟩ := hrow i e' j c he' hc
        have hj : j < n := by have := hlenx e' (List.mem_of_getElem? he'); have := Z19 hc; omega
        have hij : i * n + j < off * n := by
         have : (i + 1) * n ≤ off * n := Nat.mul_le_mul_right _ (by omega)
         rw [Nat.add_mul] at this; omega
        refine ⟨x, ?_, h4⟩
        have hlt := (Array.getElem?_eq_some_iff.1 h3).1
        rw [List.getElem?_toArray, List.append_assoc, List.getElem?_append_left (by simp only [List.length_take, Array.length_toList]; omega), List.getElem?_take, if_pos (by omega), Array.getElem?_toList]
        exact h3
       ·cases he')
    exact ⟨C, _, h, hs.put he1.le hw1 (Z1l hd) (htup C), hx0.trans he1⟩
end
theorem Za7 {P : Program} {f : Nat} {xs : List AV} {el n : Nat} {α : Type} {g : α → List AV} {φ : List α → Prop}
  (h : ACalls P f xs [] (GP (fun r : Nat × List α => .own r.1 n 0 r.2.length) (fun r => [(r.1, .rows el n (r.2.map g))]) (fun r => φ r.2))) : ACalls P f xs [] (GSome (fun l : List α => .lst (l.map g)) φ) := by
 refine ⟨h.ok, fun Z C w vs hw hv => (h.run Z C w vs hw hv).mono ?_⟩
 rintro e w' ⟨C', H', x, ⟨⟨q, l⟩, hφ, rfl, rfl⟩, hw', he', hx⟩
 cases e with
 | panicked ch => exact hx.elim
 | outgrown => exact hx.elim
 | returned v =>
  obtain ⟨b, ob, h1, h2, h3, h4, h5, h6⟩ := frz hw'
  refine ⟨C'.hpSet b ob, [], _, ⟨l, hφ, rfl, rfl⟩, h4, he'.trans ⟨h5, fun _ _ h => h, rfl, rfl, rfl, Nat.le_refl _, fun _ _ _ => rfl, ?_, ?_, ?_⟩, h6 v _ (by simp) hx⟩
  ·intro x o hx
   simp only [Ctx.hpSet] at hx
   split at hx
   ·rename_i e
    obtain ⟨_, N, hm⟩ := h2 x e
    exact .inr (.inr ⟨q, _, N, List.mem_cons_self, hm⟩)
   ·exact .inl ⟨o, hx⟩
  ·rintro x ⟨i, o, N, hi, hm⟩
   cases hi
  ·intro i o hi
   cases hi
theorem Zei {P : Program} {f : Nat} {xs : List AV} {α : Type} {g : α → AV} {φ : α → Prop} {v : α} (h : ACalls P f xs [] (GSome g φ)) (he : ∀ a, φ a → a = v) : ACalls P f xs [] (Gives (g v)) :=
 h.mono fun e H' ⟨a, h1, h2, h3⟩ => ⟨by rw [h2, he a h1], h3⟩
theorem Z40 {P : Program} {f : Nat} {xs : List AV} {el n : Nat} {α : Type} {g : α → List AV} {l : List α}
  (h : ACalls P f xs [] (GP (fun q : Nat => .own q n 0 l.length) (fun q => [(q, .rows el n (l.map g))]) (fun _ => True))) : ACalls P f xs [] (Gives (.lst (l.map g))) := by
 refine Zei (g := fun l : List α => .lst (l.map g)) (φ := fun m => m = l) (Za7 (el := el) (n := n) (h.mono fun e H' hR => ?_)) (fun a h => h)
 obtain ⟨q, _, h1, h2⟩ := hR
 exact ⟨(q, l), rfl, h1, h2⟩
end Go.Sx
namespace Go.Sx
open Go
variable {P : Program} {ro : Option Nat} {Q : Exit → St → Prop} {s : St} {ops : Array Oper} {o : Oper} {rest : List Oper} {T : List (Nat × AV)}
theorem Z16 {fo : Operand} {args : Array Operand} {ats : Array TypeId} {f : Nat} {caps xs : List AV} {x : AV} (Hn Fr : AHeap) (hw : Wanted ops s.T o true) (hd : dok o.dst s.n = true)
  (ho : o.op = .call { callee := .value fo, args := args, argTypes := ats }) (hfo : ev s.T fo = some (.fn (.func f) caps)) (hxs : evs s.T args.toList = some xs) (hp : s.H.Perm (Hn ++ Fr))
  (hc : ACalls P f (xs ++ caps) Hn (GivesH x Hn)) (h : AOps P ro ops rest Q { s with T := put s.T o.dst x }) : AOps P ro ops (o :: rest) Q s := by
 refine Z1s hw ?_
 intro Z C0 H0 w0 C a w hx hs
 have hnd : (Hn.map Prod.fst).Nodup := by
  have h1 : ((Hn ++ Fr).map Prod.fst).Nodup := (hp.map Prod.fst).nodup_iff.1 hs.wr.nd
  rw [List.map_append, List.nodup_append] at h1
  exact h1.1
 refine Z8 Hn ho hfo hxs hc hnd Z C s.H a w hs.wr (fun p hm => hp.mem_iff.2 (List.mem_append_left _ hm)) (fun p _ y hy => hs.ev hy) nofun List.nodup_nil (fun _ _ => by simp) ro _ _ ?_
 intro v w1 C1 hv hw1 he1
 exact ⟨C1, _, h, hs.put he1.le hw1 (Z1l hd) hv, hx.trans he1⟩
end Go.Sx
namespace Go.Sx
open Go Go.Proofs
theorem Zd2 (a b : Str) : beqS a b = eqG a b := by rw [Bool.eq_iff_iff, beqS_iff, eqG_iff]
theorem Z9o (a b : FRef) : ceqs a.cells b.cells = eqG a b := by
 rw [Bool.eq_iff_iff, eqG_iff, show ceqs a.cells b.cells = (beqS a.cls b.cls && beqS a.name b.name) from rfl]
 cases a; cases b
 simp only [FRef.mk.injEq, Bool.and_eq_true, beqS_iff]
theorem Z9p (a b : MRef) : ceqs a.cells b.cells = eqG a b := by
 rw [Bool.eq_iff_iff, eqG_iff, Zbw]
 cases a; cases b
 simp only [MRef.mk.injEq, Bool.and_eq_true, beqS_iff]
theorem Z6q {α : Type} [Inhabited α] [DecidableEq α] (l : List α) (s : α) : l.any (eqG s) = hasG l s := by unfold hasG; congr 1; funext x; unfold eqG; rw [Bool.eq_iff_iff]; simp only [decide_eq_true_eq]; exact eq_comm
theorem Z8x {α : Type} [Inhabited α] [DecidableEq α] {x y : α} (h : eqG x y = false) : ¬ x = y := fun e => by rw [eqG_iff.2 e] at h; cases h
theorem Zdg (l : List Str) (hl : l.length ≤ 1000000000) : ACalls Tryz.prog 92 [.lst (l.map fun x => [sA x])] [] (GP (fun q : Nat => .own q 1 0 (l).length) (fun q => [(q, .rows 9 1 ((l).map fun x => [sA x]))]) (fun _ => True)) := by
 refine Zd (n := 8) Tryz.func92 rfl (by decide +kernel) rfl rfl ?_
 refine qS (qR ?_)
 refine Zy (w0 rfl) rfl (fun id => Z29 id 9 1 (.inl rfl) rfl) (fun id1 => ?_)
 refine qN (qS (qS (qR (qM ?_))))
 refine Z4m (w0 rfl) rfl rfl rfl (fun bn hbn => ?_)
 refine qN ?_
 refine Z2 rfl ?_ ?_
 ·intro hc
  have e0 : l = [] := by have := hbn hc; simpa using this
  subst e0
  refine qS (qR ?_)
  refine Zy (w0 rfl) rfl (fun id => Z29 id 9 1 (.inl rfl) rfl) (fun id2 => ?_)
  refine qN (qE ?_)
  exact Zf rfl (Z7 rfl Z4) (.cons_cons _ (.cons _ .slnil)) (gp _ trivial rfl rfl)
 ·intro hc
  refine qK (qS (qR ?_))
  refine Zy (w0 rfl) rfl (fun id => Zo id (ps := []) rfl rfl rfl rfl rfl rfl rfl rfl) (fun id3 => ?_)
  refine qM ?_
  refine Z0n 0 (w0 rfl) rfl rfl rfl rfl rfl rfl ⟨rfl, Z04 (fun _ => rfl)⟩ (by first | omega | (simp; omega) | (simp [maxLen]; omega) | (simp; done) | (simp [maxLen]; done)) (by first | omega | (simp; omega) | (simp [maxLen]; omega) | (simp; done) | (simp [maxLen]; done)) (fun id4 => ?_)
  refine qA (qN (qE ?_))
  exact Zf rfl (Z7 rfl Z4) (.cons_cons _ (.cons _ .slnil)) (gp id4 trivial (by show AV.own _ _ _ _ = AV.own _ _ _ _; simp) (by show [(_, AObj.rows _ _ _)] = [(_, AObj.rows _ _ _)]; simp))
theorem Zae (q n : Nat) (l : List Str) (hn : l.length = n) (hN : n ≤ 140737488355328) : ACalls Tryz.prog 94 [.own q 1 0 n] [(q, .rows 9 1 (l.map fun x => [sA x]))] (GP (fun m : List Str => .own q 1 0 m.length) (fun m => [(q, .rows 9 1 (m.map fun x => [sA x]))]) (fun m => m = cptNG l l.length)) := by
 refine Zd (n := 61) Tryz.func94 rfl (by decide +kernel) rfl rfl ?_
 refine qS (qR (qA (qN (qS (qS (qR (qM ?_)))))))
 refine qe (Zx rfl rfl rfl rfl) ?_
 refine qe eI ?_
 refine qN ?_
 refine Z2 rfl ?_ ?_
 ·intro hc
  have hlt : n < 2 := by simp at hc; omega
  refine qS (qR (qM (qA (qN (qE ?_)))))
  exact Zf rfl (Z7 rfl Z4) (.cons_cons _ .slnil) (gp l (by rw [Z24 (Nat.le_refl _) (fun k h1 h2 => by omega), List.take_length]) (by rw [hn]; rfl) rfl)
 ·intro hc
  have hlt : ¬ n < 2 := by simp at hc; omega
  refine qK (qS (qS (qR (qA (qN (qB ?_))))))
  refine Zj (α := Nat) (fun x => ⟨[(3, iA x), (0, .own q 1 0 n)], [(q, .rows 9 1 (l.map fun x => [sA x]))], [], 61⟩) (fun x => 1 ≤ x ∧ x ≤ n ∧ ∀ i, 0 < i → i < x → cptSG l i = true) (fun x => n - x) 1 ⟨Nat.le_refl _, by omega, fun i h1 h2 => by omega⟩ ?_ ?_
  ·exact Zb [0] ⟨rfl, rfl, trivial⟩ rfl (by decide) rfl rfl
  rintro x hJ
  refine qS (qS (qR (qM (qM ?_))))
  refine qe (Zx rfl rfl rfl rfl) ?_
  refine qe eI ?_
  refine qN ?_
  refine Z2 rfl ?_ ?_
  ·intro hc
   have hx : x < n := by simpa using hc
   refine qK (qS (qB (qS ?_)))
   refine Z0j 10 rfl (by kernel_rfl) ?_
   refine cM2 (cM2 ?_)
   refine ce (Z1 x rfl rfl rfl (by first | omega | (simp only [List.length_map]; omega) | (simp only [List.length_map, List.length_drop]; omega)) (by first | omega | (simp only [List.length_map]; omega) | (simp only [List.length_map, List.length_drop]; omega)) (by omega)) ?_
   refine Za 0 (w0 rfl) rfl rfl rfl rfl (Z1d (by first | assumption | omega | (simp only [List.length_drop]; omega))) Z3 ?_
   refine cM2 (cM2 ?_)
   refine ce (Z9 rfl rfl rfl (Z0c (by first | omega | (simp only [List.length_map]; omega)))) ?_
   refine ce (Z1 (x - 1) rfl rfl rfl (by first | omega | (simp only [List.length_map]; omega) | (simp only [List.length_map, List.length_drop]; omega)) (by first | omega | (simp only [List.length_map]; omega) | (simp only [List.length_map, List.length_drop]; omega)) (by omega)) ?_
   refine Za 0 (w0 rfl) rfl rfl rfl rfl (Z1d (by first | assumption | omega | (simp only [List.length_drop]; omega))) Z3 ?_
   refine ce (Z0o rfl rfl rfl rfl) ?_
   refine .done (qN ?_)
   refine Z2 rfl ?_ ?_
   ·intro hc
    have hq : eqG (l.getD x default) (l.getD (x - 1) default) = true := by rw [← Zd2]; exact hc
    refine qS (qR (qM (qM ?_)))
    refine qe (Zv (y := .own q 1 x (n - x)) (Z1g rfl rfl rfl (by first | omega | (simp only [List.length_map]; omega) | (simp only [List.length_map, List.length_drop]; omega)) (by first | omega | (simp only [List.length_map]; omega) | (simp only [List.length_map, List.length_drop]; omega))) ((by simp))) ?_
    refine qA (qN (qS (qS (qR (qA (qN (qB ?_)))))))
    refine Zj (α := List Str × Nat × Nat) (fun z => ⟨[(3, iA z.2.1), (5, iA z.2.2), (4, .own q 1 x (n - x)), (0, .own q 1 0 n)], [(q, .rows 9 1 (z.1.map fun x => [sA x]))], [], 61⟩) (fun z => CptJG l x z.1 z.2.1 z.2.2) (fun z => n - x - z.2.2) (l, x, 1) (CptJG.start hJ.1 (by omega) hJ.2.2 hq) ?_ ?_
    ·exact Zb [0] ⟨rfl, rfl, rfl, rfl, trivial⟩ rfl (by decide) rfl rfl
    rintro z hJ1
    have hm1 := hJ1.h1
    have hm2 := hJ1.h2
    have hm3 := hJ1.h3
    have hm4 := hJ1.h4
    have hml := hJ1.hl
    refine qS (qS (qR (qM (qM ?_))))
    refine qe (Zx rfl rfl rfl rfl) ?_
    refine qe eI ?_
    refine qN ?_
    refine Z2 rfl ?_ ?_
    ·intro hc
     have hj : z.2.2 < l.length - x := by simp at hc; omega
     refine qK (qS (qB (qS ?_)))
     refine Z0j 10 rfl (by kernel_rfl) ?_
     refine cM2 (cM2 ?_)
     refine ce (Z1 (x + z.2.2) rfl rfl rfl (by first | omega | (simp only [List.length_map]; omega) | (simp only [List.length_map, List.length_drop]; omega)) (by first | omega | (simp only [List.length_map]; omega) | (simp only [List.length_map, List.length_drop]; omega)) (by omega)) ?_
     refine Za 0 (w0 rfl) rfl rfl rfl rfl (Z1d (by first | assumption | omega | (simp only [List.length_drop]; omega))) Z3 ?_
     refine cM2 (cM2 ?_)
     refine ce (Z9 rfl rfl rfl (Z0c (by first | omega | (simp only [List.length_map]; omega)))) ?_
     refine ce (Z1 (x + (z.2.2 - 1)) rfl rfl rfl (by first | omega | (simp only [List.length_map]; omega) | (simp only [List.length_map, List.length_drop]; omega)) (by first | omega | (simp only [List.length_map]; omega) | (simp only [List.length_map, List.length_drop]; omega)) (by omega)) ?_
     refine Za 0 (w0 rfl) rfl rfl rfl rfl (Z1d (by first | assumption | omega | (simp only [List.length_drop]; omega))) Z3 ?_
     refine ce (Z0o rfl rfl rfl rfl) ?_
     refine .done (qN ?_)
     refine Z2 rfl ?_ ?_
     ·intro hc
      have hv : (!eqG (z.1.getD (x + z.2.2) default) (z.1.getD (x + (z.2.2 - 1)) default)) = true := by rw [← Zd2]; exact hc
      refine qS (qR (qM (qM (qM (qM ?_)))))
      refine qe (Z1 (x + z.2.2) rfl rfl rfl (by first | omega | (simp only [List.length_map]; omega) | (simp only [List.length_map, List.length_drop]; omega)) (by first | omega | (simp only [List.length_map]; omega) | (simp only [List.length_map, List.length_drop]; omega)) (by omega)) ?_
      refine Z0e 0 (w0 rfl) rfl rfl rfl rfl (Z1d (by first | assumption | omega | (simp only [List.length_drop]; omega))) Z3 ?_
      refine qe (Z1 z.2.1 rfl rfl rfl (by first | omega | (simp only [List.length_map]; omega) | (simp only [List.length_map, List.length_drop]; omega)) (by first | omega | (simp only [List.length_map]; omega) | (simp only [List.length_map, List.length_drop]; omega)) (by omega)) ?_
      refine Z42 0 rfl (w0 rfl) rfl rfl rfl rfl (by first | omega | (simp; omega)) rfl ?_
      refine qN (qR (qM ?_))
      refine qe (Z9 rfl rfl rfl (Zn (by first | omega | (simp only [List.length_map]; omega)))) ?_
      refine qA (qN (qR (qM ?_)))
      refine qe (Z9 rfl rfl rfl (Zn (by first | omega | (simp only [List.length_map]; omega)))) ?_
      refine qA (qN ?_)
      refine ⟨(z.1.set z.2.1 (z.1.getD (x + z.2.2) default), z.2.1 + 1, z.2.2 + 1), (hJ1.put hj hv), (by (try simp only) <;> omega), ?_⟩
      exact qp [0] ⟨rfl, rfl, rfl, rfl, trivial⟩
     ·intro hc
      have hv : eqG (z.1.getD (x + z.2.2) default) (z.1.getD (x + (z.2.2 - 1)) default) = true := Z2c (by rw [← Zd2]; exact hc)
      refine qK (qR (qM ?_))
      refine qe (Z9 rfl rfl rfl (Zn (by first | omega | (simp only [List.length_map]; omega)))) ?_
      refine qA (qN ?_)
      refine ⟨(z.1, z.2.1, z.2.2 + 1), (hJ1.keep hj hv), (by (try simp only) <;> omega), ?_⟩
      exact qp [0] ⟨rfl, rfl, rfl, rfl, trivial⟩
    ·intro hc
     have hj : ¬ z.2.2 < l.length - x := by simp at hc; omega
     have hfin := hJ1.fin (by omega) hj
     refine qX (qS (qR (qM (qM ?_))))
     refine qe (Zv (y := .own q 1 z.2.1 (n - z.2.1)) (Z1g rfl rfl rfl (by first | omega | (simp only [List.length_map]; omega) | (simp only [List.length_map, List.length_drop]; omega)) (by first | omega | (simp only [List.length_map]; omega) | (simp only [List.length_map, List.length_drop]; omega))) ((by simp))) ?_
     refine Z6r 0 rfl rfl (w0 rfl) rfl rfl rfl rfl ?_
     refine qN (qS (qR (qM (qM ?_))))
     refine qe (Zv (y := .own q 1 0 z.2.1) (Z26 rfl rfl rfl (by first | omega | (simp only [List.length_map]; omega) | (simp only [List.length_map, List.length_drop]; omega)) (by first | omega | (simp only [List.length_map]; omega) | (simp only [List.length_map, List.length_drop]; omega))) ((by simp))) ?_
     refine qA (qN (qE ?_))
     exact Zf rfl (Z7 rfl Z4) (.cons_cons _ .slnil) (gp (z.1.take z.2.1) hfin.1 (by show AV.own q _ 0 _ = AV.own q _ 0 _; rw [List.length_take]; congr 1; omega) (by show [(_, AObj.rows _ _ _)] = [(_, AObj.rows _ _ _)]; rw [List.map_take]))
   ·intro hc
    have hv : cptSG l x = true := by unfold cptSG; rw [show eqG (l.getD x default) (l.getD (x - 1) default) = false from by rw [← Zd2]; exact hc]; rfl
    refine qK (qR (qM ?_))
    refine qe (Z9 rfl rfl rfl (Zn (by first | omega | (simp only [List.length_map]; omega)))) ?_
    refine qA (qN ?_)
    refine ⟨(x + 1), ⟨by omega, by omega, fun i h1 h2 => by rcases Nat.lt_succ_iff_lt_or_eq.1 h2 with h | h; exact hJ.2.2 i h1 h; rw [h]; exact hv⟩, (by omega), ?_⟩
    exact qp [0] ⟨rfl, rfl, trivial⟩
  ·intro hc
   have hx : ¬ x < n := by simpa using hc
   refine qX (qS (qR (qM (qA (qN (qE ?_))))))
   exact Zf rfl (Z7 rfl Z4) (.cons_cons _ .slnil) (gp l (by rw [Z24 (Nat.le_refl _) (fun k h1 h2 => hJ.2.2 k h1 (by omega)), List.take_length]) (by rw [hn]; rfl) rfl)
theorem Zbo (l : List Str) (hl : l.length ≤ 1000000) : ACalls Tryz.prog 51 [.lst (l.map fun x => [sA x]), .fn (.func 52) []] [] (GP (fun q : Nat => .own q 1 0 ((risG tLt l)).length) (fun q => [(q, .rows 9 1 (((risG tLt l)).map fun x => [sA x]))]) (fun _ => True)) := by
 refine Zd (n := 13) Tryz.func51 rfl (by decide +kernel) rfl rfl ?_
 refine qS (qR (qA (qN (qS (qR (qM ?_))))))
 refine Z5 [] _ (w0 rfl) rfl rfl rfl rfl (.refl _) (Zdg l (by omega)) (fun v1 hv1 => ?_)
 refine qA (qN (qS (qR (qM (qM ?_)))))
 refine Z5 [_] _ (w0 rfl) rfl rfl rfl rfl (Zk (k := 0) rfl) (Zfu v1 l.length l rfl (by omega)) (fun v2 hv2 => ?_)
 refine qN (qS (qR (qM ?_)))
 refine Z5 [_] _ (w0 rfl) rfl rfl rfl rfl (Zk (k := 0) rfl) (Zae v1 l.length v2 hv2.1.length_eq (by omega)) (fun v3 hv3 => ?_)
 refine qA (qN (qE ?_))
 exact Zf rfl (Z7 rfl Z4) (.cons_cons _ .slnil) (gp v1 trivial (by show AV.own _ _ _ _ = AV.own _ _ _ _; rw [(hv3.trans (Z2x tLtT hv2.1 (by rw [hv2.1.length_eq]; exact hv2.2)))]) (by show [(_, AObj.rows _ _ _)] = [(_, AObj.rows _ _ _)]; rw [(hv3.trans (Z2x tLtT hv2.1 (by rw [hv2.1.length_eq]; exact hv2.2)))]))
theorem Zao (l : List Str) (hl : l.length ≤ 1000000) : ACalls Tryz.prog 51 [.lst (l.map fun x => [sA x]), .fn (.func 52) []] [] (Gives (.lst ((risG tLt l).map fun x => [sA x]))) := Z40 (Zbo l hl)
theorem Zdz (l : List Str) (hl : small l.length) (s : Str) : ACalls Tryz.prog 74 [.lst (l.map fun x => [sA x]), sA s] [] (Gives (iA (idxFrom (eqG s) l 0))) := by
 simp only [small] at hl
 refine Zd (n := 19) Tryz.func74 rfl (by decide +kernel) rfl rfl ?_
 refine qS (qR (qA (qN (qS (qS (qR (qM ?_)))))))
 refine qe (Zx rfl rfl rfl rfl) ?_
 refine qM (qN (qB ?_))
 refine Zj (α := Nat) (fun i => ⟨[(8, iA i), (7, iA l.length), (0, .lst (l.map fun x => [sA x])), (1, sA s)], [], [], 19⟩) (fun i => i ≤ l.length ∧ idxFrom (eqG s) (l.drop i) i = idxFrom (eqG s) l 0) (fun i => l.length - i) 0 ⟨Nat.zero_le _, rfl⟩ ?_ ?_
 ·exact Zb [] ⟨rfl, (by show some (iA _) = some (iA _); simp), rfl, rfl, trivial⟩ rfl (by decide) rfl rfl
 rintro i hJ
 refine qS (qR ?_)
 refine qe eI ?_
 refine qN (qS ?_)
 refine Z2 rfl ?_ ?_
 ·intro hc
  have hi : i < l.length := by simpa using hc
  refine qK (qS (qB (qS (qR (qM (qA (qN (qS (qR (qM (qM (qM ?_))))))))))))
  refine qe (Z6 rfl rfl rfl (Z04 (fun _ => rfl)) (by first | omega | (simp only [List.length_map]; omega) | (simp only [List.length_map, List.length_drop]; omega)) (by first | omega | (simp only [List.length_map]; omega) | (simp only [List.length_map, List.length_drop]; omega))) ?_
  refine qe (Zu rfl rfl (Z0a (by first | assumption | omega | (simp only [List.length_drop]; omega))) Z3) ?_
  refine qe (Z0o rfl rfl rfl rfl) ?_
  refine qN ?_
  refine Z2 rfl ?_ ?_
  ·intro hc
   have hq : eqG s l[i] = true := by rw [← Zd2]; exact hc
   refine qS (qR (qM (qA (qN (qE ?_)))))
   exact Z0p rfl (Z7 rfl Z4) (gi (by rw [← hJ.2, Z0w hi]; simp only [idxFrom]; rw [if_pos hq]))
  ·intro hc
   have hq : eqG s l[i] = false := by rw [← Zd2]; exact hc
   refine qK (qR ?_)
   refine qe (Z9 rfl rfl rfl (Zn (by first | omega | (simp only [List.length_map]; omega)))) ?_
   refine qM (qN ?_)
   refine ⟨i + 1, ⟨hi, by rw [← hJ.2, Z0w hi]; simp only [idxFrom]; rw [if_neg (by rw [hq]; simp)]⟩, (by omega), ?_⟩
   exact qp [] ⟨rfl, rfl, rfl, rfl, trivial⟩
 ·intro hc
  have hi : ¬ i < l.length := by simpa using hc
  refine qX (qS (qR (qA (qN (qE ?_)))))
  exact Z0p rfl (Z7 rfl Z4) (gi (by rw [← hJ.2, Z1m hi]; rfl))
theorem Z31 (l : List Str) (hl : small l.length) (s : Str) : ACalls Tryz.prog 34 [.lst (l.map fun x => [sA x]), sA s] [] (Gives (bA (hasG l s))) := by
 refine Zd (n := 9) Tryz.func34 rfl (by decide +kernel) rfl rfl ?_
 refine qS (qR (qA (qN (qS (qR (qM (qM ?_)))))))
 refine qe (Z8 [] rfl rfl rfl (Zdz l hl s) List.nodup_nil) ?_
 refine qe eI ?_
 refine qA (qN (qE ?_))
 exact Z0p rfl (Z7 rfl Z4) (gb ((Z4r _ _).trans (Z6q l s)))
theorem Zfl (l : List Str) (hl : small l.length) (g : Nat) (caps : List AV) (Hc : AHeap) (f : Str → Bool) (hg : ∀ s, s ∈ l → ACalls Tryz.prog g (sA s :: caps) Hc (GivesH (bA (f s)) Hc)) : ACalls Tryz.prog 113 [.lst (l.map fun x => [sA x]), .fn (.func g) caps] Hc (GivesH (iA (idxFrom f l 0)) Hc) := by
 simp only [small] at hl
 refine Zd (n := 19) Tryz.func113 rfl (by decide +kernel) rfl rfl ?_
 refine qS (qR (qA (qN (qS (qS (qR (qM ?_)))))))
 refine qe (Zx rfl rfl rfl rfl) ?_
 refine qM (qN (qB ?_))
 refine Zj (α := Nat) (fun i => ⟨[(8, iA i), (0, .lst (l.map fun x => [sA x])), (1, .fn (.func g) caps), (7, iA l.length)], [] ++ Hc, [], 19⟩) (fun i => i ≤ l.length ∧ idxFrom f (l.drop i) i = idxFrom f l 0) (fun i => l.length - i) 0 ⟨by omega, rfl⟩ ?_ ?_
 ·exact Z1o (F := []) (F' := []) (Hj := Hc) [] ⟨rfl, rfl, rfl, (by show some (iA _) = some (iA _); simp), trivial⟩ rfl rfl rfl (by decide) rfl rfl
 rintro i hJ
 refine qS (qR ?_)
 refine qe eI ?_
 refine qN (qS ?_)
 refine Z2 rfl ?_ ?_
 ·intro hc
  have hi : i < l.length := by simpa using hc
  refine qK (qS (qB (qS (qR (qM (qA (qN (qS (qR (qM (qM (qM ?_))))))))))))
  refine qe (Z6 rfl rfl rfl (Z04 (fun _ => rfl)) (by first | omega | (simp only [List.length_map]; omega) | (simp only [List.length_map, List.length_drop]; omega)) (by first | omega | (simp only [List.length_map]; omega) | (simp only [List.length_map, List.length_drop]; omega))) ?_
  refine qe (Zu rfl rfl (Z0a (by first | assumption | omega | (simp only [List.length_drop]; omega))) Z3) ?_
  refine Z16 Hc [] (w0 rfl) rfl rfl rfl rfl (by simp) (hg _ (List.getElem_mem hi)) ?_
  refine qN ?_
  refine Z2 rfl ?_ ?_
  ·intro hc
   have hc : f (l[i]) = true := hc
   refine qS (qR (qM (qA (qN (qE ?_)))))
   exact Zf rfl (Z7 rfl Z4) (.refl _) (gvH (congrArg iA (by rw [← hJ.2, Z0w hi]; simp [idxFrom, hc])))
  ·intro hc
   have hc : f (l[i]) = false := hc
   refine qK (qR ?_)
   refine qe (Z9 rfl rfl rfl (Zn (by first | omega | (simp only [List.length_map]; omega)))) ?_
   refine qM (qN ?_)
   refine ⟨i + 1, ⟨by omega, by rw [← hJ.2, Z0w hi]; simp [idxFrom, hc]⟩, (by omega), ?_⟩
   exact Z1o (F := []) (F' := []) (Hj := Hc) [] ⟨rfl, rfl, rfl, rfl, trivial⟩ rfl rfl rfl (by decide) rfl rfl
 ·intro hc
  have hi : ¬ i < l.length := by simpa using hc
  refine qX (qS (qR (qA (qN (qE ?_)))))
  exact Zf rfl (Z7 rfl Z4) (.refl _) (gvH (congrArg iA (by rw [← hJ.2, Z1m hi]; rfl)))
theorem Zdl (l : List Str) (hl : small l.length) (g : Nat) (caps : List AV) (Hc : AHeap) (f : Str → Bool) (hg : ∀ s, s ∈ l → ACalls Tryz.prog g (sA s :: caps) Hc (GivesH (bA (f s)) Hc)) : ACalls Tryz.prog 79 [.lst (l.map fun x => [sA x]), .fn (.func g) caps] Hc (GivesH (bA (l.any f)) Hc) := by
 refine Zd (n := 9) Tryz.func79 rfl (by decide +kernel) rfl rfl ?_
 refine qS (qR (qA (qN (qS (qR (qM (qM ?_)))))))
 refine Z16 Hc [] (w0 rfl) rfl rfl rfl rfl (by simp) (Zfl l hl g caps Hc f hg) ?_
 refine qe eI ?_
 refine qA (qN (qE ?_))
 exact Zf rfl (Z7 rfl Z4) (.refl _) (gvH (congrArg bA (Z4r f l)))
theorem Zfo (i1 : Nat) (b : List Str) (hb : small b.length) (s : Str) : ACalls Tryz.prog 80 [sA s, .ptr i1 1 0 0] [(i1, .rows 23 1 [[.lst (b.map fun x => [sA x])]])] (GivesH (bA (!hasG b s)) [(i1, .rows 23 1 [[.lst (b.map fun x => [sA x])]])]) := by
 refine Zd (n := 8) Tryz.func80 rfl (by decide +kernel) rfl rfl ?_
 refine qS (qR (qA (qN (qS (qR ?_)))))
 refine qL 0 Z3 ?_
 refine qM ?_
 refine qe (Z8 [] rfl rfl rfl (Z31 b hb s) List.nodup_nil) ?_
 refine qe (Z03 rfl rfl) ?_
 refine qA (qN (qE ?_))
 exact Zf rfl (Z7 rfl Z4) (.refl _) (gvH rfl)
theorem Zh2 (a b : List Str) (hl : small a.length) (hb : small b.length) : ACalls Tryz.prog 44 [.lst (a.map fun x => [sA x]), .lst (b.map fun x => [sA x])] [] (Gives (bA (a.all (hasG b)))) := by
 refine Zd (n := 9) Tryz.func44 rfl (by decide +kernel) rfl rfl ?_
 refine qS (qR ?_)
 refine Zy (w0 rfl) rfl (fun id => Z09 id rfl rfl rfl rfl rfl) (fun id1 => ?_)
 refine qA (qN (qS (qR (qM ?_))))
 refine qe (Z1k rfl rfl) ?_
 refine Z16 [_] [] (w0 rfl) rfl rfl rfl rfl (.refl _) (Zdl a hl 80 _ _ (fun s => !hasG b s) (fun s _ => Zfo id1 b hb s)) ?_
 refine qe (Z03 rfl rfl) ?_
 refine qA (qN (qE ?_))
 exact Z0p rfl (Z7 rfl Z4) (gb (by rw [List.all_eq_not_any_not]))
theorem Zdo (a b : List Str) (hl : small a.length) (hb : small b.length) : ACalls Tryz.prog 43 [.lst (a.map fun x => [sA x]), .lst (b.map fun x => [sA x])] [] (Gives (bA (decide (a = b)))) := by
 simp only [small] at hl hb
 refine Zd (n := 26) Tryz.func43 rfl (by decide +kernel) rfl rfl ?_
 refine qS (qR (qA (qN (qS (qS (qR (qM ?_)))))))
 refine qe (Zx rfl rfl rfl rfl) ?_
 refine qM ?_
 refine qe (Zx rfl rfl rfl rfl) ?_
 refine qe eI ?_
 refine qN ?_
 refine Z2 rfl ?_ ?_
 ·intro hc
  have hne : ¬ a.length = b.length := by simp at hc; omega
  refine qS (qR (qA (qN (qE ?_))))
  exact Z0p rfl (Z7 rfl Z4) (gb (by symm; simp only [decide_eq_false_iff_not]; intro e; exact hne (by rw [e])))
 ·intro hc
  have hne : a.length = b.length := by simp at hc; omega
  refine qK (qS (qS (qR (qM ?_))))
  refine qe (Zx rfl rfl rfl rfl) ?_
  refine qM (qN (qB ?_))
  refine Zj (α := Nat) (fun i => ⟨[(13, iA i), (12, iA a.length), (0, .lst (a.map fun x => [sA x])), (1, .lst (b.map fun x => [sA x]))], [], [], 26⟩) (fun i => i ≤ a.length ∧ a.take i = b.take i) (fun i => a.length - i) 0 ⟨Nat.zero_le _, rfl⟩ ?_ ?_
  ·exact Zb [] ⟨rfl, (by show some (iA _) = some (iA _); simp), rfl, rfl, trivial⟩ rfl (by decide) rfl rfl
  rintro i hJ
  refine qS (qR ?_)
  refine qe eI ?_
  refine qN (qS ?_)
  refine Z2 rfl ?_ ?_
  ·intro hc
   have hi : i < a.length := by simpa using hc
   refine qK (qS (qB (qS (qR (qM (qA (qN (qS ?_))))))))
   refine Z0j 9 rfl (by kernel_rfl) ?_
   refine cM2 (cM2 ?_)
   refine ce (Z6 rfl rfl rfl (Z04 (fun _ => rfl)) (by first | omega | (simp only [List.length_map]; omega) | (simp only [List.length_map, List.length_drop]; omega)) (by first | omega | (simp only [List.length_map]; omega) | (simp only [List.length_map, List.length_drop]; omega))) ?_
   refine ce (Zu rfl rfl (Z0a (by first | assumption | omega | (simp only [List.length_drop]; omega))) Z3) ?_
   refine cM2 (cM2 ?_)
   refine ce (Z6 rfl rfl rfl (Z04 (fun _ => rfl)) (by first | omega | (simp only [List.length_map]; omega) | (simp only [List.length_map, List.length_drop]; omega)) (by first | omega | (simp only [List.length_map]; omega) | (simp only [List.length_map, List.length_drop]; omega))) ?_
   refine ce (Zu rfl rfl (Z0a (by first | assumption | omega | (simp only [List.length_drop]; omega))) Z3) ?_
   refine ce (Z0o rfl rfl rfl rfl) ?_
   refine .done (qN ?_)
   refine Z2 rfl ?_ ?_
   ·intro hc
    have hq : ¬ a[i] = b[i]'(by omega) := Z8x (by rw [← Zd2]; exact Z1u hc)
    refine qS (qR (qA (qN (qE ?_))))
    exact Z0p rfl (Z7 rfl Z4) (gb (by symm; simp only [decide_eq_false_iff_not]; intro e; exact hq (by simp only [e])))
   ·intro hc
    have hq : a[i] = b[i]'(by omega) := eqG_iff.1 (by rw [← Zd2]; exact Z2c hc)
    refine qK (qR ?_)
    refine qe (Z9 rfl rfl rfl (Zn (by first | omega | (simp only [List.length_map]; omega)))) ?_
    refine qM (qN ?_)
    refine ⟨i + 1, ⟨hi, by rw [List.take_succ_eq_append_getElem hi, List.take_succ_eq_append_getElem (show i < b.length by omega), hJ.2, hq]⟩, (by omega), ?_⟩
    exact qp [] ⟨rfl, rfl, rfl, rfl, trivial⟩
  ·intro hc
   have hi : ¬ i < a.length := by simpa using hc
   refine qX (qS (qR (qA (qN (qE ?_)))))
   exact Z0p rfl (Z7 rfl Z4) (gb (by symm; simp only [decide_eq_true_eq]; have h := hJ.2; rwa [List.take_of_length_le (by omega), List.take_of_length_le (by omega)] at h))
instance : ZV Tryz.prog 46 (.agg #[.string ⟨#[]⟩, .string ⟨#[]⟩]) := ⟨by kernel_rfl⟩
theorem Zde (l : List FRef) (hl : l.length ≤ 1000000000) : ACalls Tryz.prog 96 [.lst (l.map FRef.cells)] [] (GP (fun q : Nat => .own q 2 0 (l).length) (fun q => [(q, .rows 46 2 ((l).map FRef.cells))]) (fun _ => True)) := by
 refine Zd (n := 8) Tryz.func96 rfl (by decide +kernel) rfl rfl ?_
 refine qS (qR ?_)
 refine Zy (w0 rfl) rfl (fun id => Z29 id 46 2 (.inl rfl) rfl) (fun id1 => ?_)
 refine qN (qS (qS (qR (qM ?_))))
 refine Z4m (w0 rfl) rfl rfl rfl (fun bn hbn => ?_)
 refine qN ?_
 refine Z2 rfl ?_ ?_
 ·intro hc
  have e0 : l = [] := by have := hbn hc; simpa using this
  subst e0
  refine qS (qR ?_)
  refine Zy (w0 rfl) rfl (fun id => Z29 id 46 2 (.inl rfl) rfl) (fun id2 => ?_)
  refine qN (qE ?_)
  exact Zf rfl (Z7 rfl Z4) (.cons_cons _ (.cons _ .slnil)) (gp _ trivial rfl rfl)
 ·intro hc
  refine qK (qS (qR ?_))
  refine Zy (w0 rfl) rfl (fun id => Zo id (ps := []) rfl rfl rfl rfl rfl rfl rfl rfl) (fun id3 => ?_)
  refine qM ?_
  refine Z0n 0 (w0 rfl) rfl rfl rfl rfl rfl rfl ⟨rfl, Z04 (fun _ => rfl)⟩ (by first | omega | (simp; omega) | (simp [maxLen]; omega) | (simp; done) | (simp [maxLen]; done)) (by first | omega | (simp; omega) | (simp [maxLen]; omega) | (simp; done) | (simp [maxLen]; done)) (fun id4 => ?_)
  refine qA (qN (qE ?_))
  exact Zf rfl (Z7 rfl Z4) (.cons_cons _ (.cons _ .slnil)) (gp id4 trivial (by show AV.own _ _ _ _ = AV.own _ _ _ _; simp) (by show [(_, AObj.rows _ _ _)] = [(_, AObj.rows _ _ _)]; simp))
theorem Zac (q n : Nat) (l : List FRef) (hn : l.length = n) (hN : n ≤ 140737488355328) : ACalls Tryz.prog 98 [.own q 2 0 n] [(q, .rows 46 2 (l.map FRef.cells))] (GP (fun m : List FRef => .own q 2 0 m.length) (fun m => [(q, .rows 46 2 (m.map FRef.cells))]) (fun m => m = cptNG l l.length)) := by
 refine Zd (n := 61) Tryz.func98 rfl (by decide +kernel) rfl rfl ?_
 refine qS (qR (qA (qN (qS (qS (qR (qM ?_)))))))
 refine qe (Zx rfl rfl rfl rfl) ?_
 refine qe eI ?_
 refine qN ?_
 refine Z2 rfl ?_ ?_
 ·intro hc
  have hlt : n < 2 := by simp at hc; omega
  refine qS (qR (qM (qA (qN (qE ?_)))))
  exact Zf rfl (Z7 rfl Z4) (.cons_cons _ .slnil) (gp l (by rw [Z24 (Nat.le_refl _) (fun k h1 h2 => by omega), List.take_length]) (by rw [hn]; rfl) rfl)
 ·intro hc
  have hlt : ¬ n < 2 := by simp at hc; omega
  refine qK (qS (qS (qR (qA (qN (qB ?_))))))
  refine Zj (α := Nat) (fun x => ⟨[(3, iA x), (0, .own q 2 0 n)], [(q, .rows 46 2 (l.map FRef.cells))], [], 61⟩) (fun x => 1 ≤ x ∧ x ≤ n ∧ ∀ i, 0 < i → i < x → cptSG l i = true) (fun x => n - x) 1 ⟨Nat.le_refl _, by omega, fun i h1 h2 => by omega⟩ ?_ ?_
  ·exact Zb [0] ⟨rfl, rfl, trivial⟩ rfl (by decide) rfl rfl
  rintro x hJ
  refine qS (qS (qR (qM (qM ?_))))
  refine qe (Zx rfl rfl rfl rfl) ?_
  refine qe eI ?_
  refine qN ?_
  refine Z2 rfl ?_ ?_
  ·intro hc
   have hx : x < n := by simpa using hc
   refine qK (qS (qB (qS ?_)))
   refine Z0j 10 rfl (by kernel_rfl) ?_
   refine cM2 (cM2 ?_)
   refine ce (Z1 x rfl rfl rfl (by first | omega | (simp only [List.length_map]; omega) | (simp only [List.length_map, List.length_drop]; omega)) (by first | omega | (simp only [List.length_map]; omega) | (simp only [List.length_map, List.length_drop]; omega)) (by omega)) ?_
   refine Za 0 (w0 rfl) rfl rfl rfl rfl (Z0g (by first | assumption | omega | (simp only [List.length_drop]; omega))) (Z01 rfl) ?_
   refine cM2 (cM2 ?_)
   refine ce (Z9 rfl rfl rfl (Z0c (by first | omega | (simp only [List.length_map]; omega)))) ?_
   refine ce (Z1 (x - 1) rfl rfl rfl (by first | omega | (simp only [List.length_map]; omega) | (simp only [List.length_map, List.length_drop]; omega)) (by first | omega | (simp only [List.length_map]; omega) | (simp only [List.length_map, List.length_drop]; omega)) (by omega)) ?_
   refine Za 0 (w0 rfl) rfl rfl rfl rfl (Z0g (by first | assumption | omega | (simp only [List.length_drop]; omega))) (Z01 rfl) ?_
   refine ce (Z2v rfl rfl rfl rfl rfl) ?_
   refine .done (qN ?_)
   refine Z2 rfl ?_ ?_
   ·intro hc
    have hq : eqG (l.getD x default) (l.getD (x - 1) default) = true := by rw [← Z9o]; exact hc
    refine qS (qR (qM (qM ?_)))
    refine qe (Zv (y := .own q 2 x (n - x)) (Z1g rfl rfl rfl (by first | omega | (simp only [List.length_map]; omega) | (simp only [List.length_map, List.length_drop]; omega)) (by first | omega | (simp only [List.length_map]; omega) | (simp only [List.length_map, List.length_drop]; omega))) ((by simp))) ?_
    refine qA (qN (qS (qS (qR (qA (qN (qB ?_)))))))
    refine Zj (α := List FRef × Nat × Nat) (fun z => ⟨[(3, iA z.2.1), (5, iA z.2.2), (4, .own q 2 x (n - x)), (0, .own q 2 0 n)], [(q, .rows 46 2 (z.1.map FRef.cells))], [], 61⟩) (fun z => CptJG l x z.1 z.2.1 z.2.2) (fun z => n - x - z.2.2) (l, x, 1) (CptJG.start hJ.1 (by omega) hJ.2.2 hq) ?_ ?_
    ·exact Zb [0] ⟨rfl, rfl, rfl, rfl, trivial⟩ rfl (by decide) rfl rfl
    rintro z hJ1
    have hm1 := hJ1.h1
    have hm2 := hJ1.h2
    have hm3 := hJ1.h3
    have hm4 := hJ1.h4
    have hml := hJ1.hl
    refine qS (qS (qR (qM (qM ?_))))
    refine qe (Zx rfl rfl rfl rfl) ?_
    refine qe eI ?_
    refine qN ?_
    refine Z2 rfl ?_ ?_
    ·intro hc
     have hj : z.2.2 < l.length - x := by simp at hc; omega
     refine qK (qS (qB (qS ?_)))
     refine Z0j 10 rfl (by kernel_rfl) ?_
     refine cM2 (cM2 ?_)
     refine ce (Z1 (x + z.2.2) rfl rfl rfl (by first | omega | (simp only [List.length_map]; omega) | (simp only [List.length_map, List.length_drop]; omega)) (by first | omega | (simp only [List.length_map]; omega) | (simp only [List.length_map, List.length_drop]; omega)) (by omega)) ?_
     refine Za 0 (w0 rfl) rfl rfl rfl rfl (Z0g (by first | assumption | omega | (simp only [List.length_drop]; omega))) (Z01 rfl) ?_
     refine cM2 (cM2 ?_)
     refine ce (Z9 rfl rfl rfl (Z0c (by first | omega | (simp only [List.length_map]; omega)))) ?_
     refine ce (Z1 (x + (z.2.2 - 1)) rfl rfl rfl (by first | omega | (simp only [List.length_map]; omega) | (simp only [List.length_map, List.length_drop]; omega)) (by first | omega | (simp only [List.length_map]; omega) | (simp only [List.length_map, List.length_drop]; omega)) (by omega)) ?_
     refine Za 0 (w0 rfl) rfl rfl rfl rfl (Z0g (by first | assumption | omega | (simp only [List.length_drop]; omega))) (Z01 rfl) ?_
     refine ce (Z43 rfl rfl rfl rfl rfl) ?_
     refine .done (qN ?_)
     refine Z2 rfl ?_ ?_
     ·intro hc
      have hv : (!eqG (z.1.getD (x + z.2.2) default) (z.1.getD (x + (z.2.2 - 1)) default)) = true := by rw [← Z9o]; exact hc
      refine qS (qR (qM (qM (qM (qM ?_)))))
      refine qe (Z1 (x + z.2.2) rfl rfl rfl (by first | omega | (simp only [List.length_map]; omega) | (simp only [List.length_map, List.length_drop]; omega)) (by first | omega | (simp only [List.length_map]; omega) | (simp only [List.length_map, List.length_drop]; omega)) (by omega)) ?_
      refine Z0e 0 (w0 rfl) rfl rfl rfl rfl (Z0g (by first | assumption | omega | (simp only [List.length_drop]; omega))) (Z01 rfl) ?_
      refine qe (Z1 z.2.1 rfl rfl rfl (by first | omega | (simp only [List.length_map]; omega) | (simp only [List.length_map, List.length_drop]; omega)) (by first | omega | (simp only [List.length_map]; omega) | (simp only [List.length_map, List.length_drop]; omega)) (by omega)) ?_
      refine Z5e (f := FRef.cells) 0 (fun _ => rfl) (fun _ => rfl) (w0 rfl) rfl rfl rfl rfl (by first | omega | (simp; omega)) rfl ?_
      refine qN (qR (qM ?_))
      refine qe (Z9 rfl rfl rfl (Zn (by first | omega | (simp only [List.length_map]; omega)))) ?_
      refine qA (qN (qR (qM ?_)))
      refine qe (Z9 rfl rfl rfl (Zn (by first | omega | (simp only [List.length_map]; omega)))) ?_
      refine qA (qN ?_)
      refine ⟨(z.1.set z.2.1 (z.1.getD (x + z.2.2) default), z.2.1 + 1, z.2.2 + 1), (hJ1.put hj hv), (by (try simp only) <;> omega), ?_⟩
      exact qp [0] ⟨rfl, rfl, rfl, rfl, trivial⟩
     ·intro hc
      have hv : eqG (z.1.getD (x + z.2.2) default) (z.1.getD (x + (z.2.2 - 1)) default) = true := Z2c (by rw [← Z9o]; exact hc)
      refine qK (qR (qM ?_))
      refine qe (Z9 rfl rfl rfl (Zn (by first | omega | (simp only [List.length_map]; omega)))) ?_
      refine qA (qN ?_)
      refine ⟨(z.1, z.2.1, z.2.2 + 1), (hJ1.keep hj hv), (by (try simp only) <;> omega), ?_⟩
      exact qp [0] ⟨rfl, rfl, rfl, rfl, trivial⟩
    ·intro hc
     have hj : ¬ z.2.2 < l.length - x := by simp at hc; omega
     have hfin := hJ1.fin (by omega) hj
     refine qX (qS (qR (qM (qM ?_))))
     refine qe (Zv (y := .own q 2 z.2.1 (n - z.2.1)) (Z1g rfl rfl rfl (by first | omega | (simp only [List.length_map]; omega) | (simp only [List.length_map, List.length_drop]; omega)) (by first | omega | (simp only [List.length_map]; omega) | (simp only [List.length_map, List.length_drop]; omega))) ((by simp))) ?_
     refine Z5d (n := 2) 0 rfl (by decide) (w0 rfl) rfl rfl rfl rfl ?_
     refine qN (qS (qR (qM (qM ?_))))
     refine qe (Zv (y := .own q 2 0 z.2.1) (Z26 rfl rfl rfl (by first | omega | (simp only [List.length_map]; omega) | (simp only [List.length_map, List.length_drop]; omega)) (by first | omega | (simp only [List.length_map]; omega) | (simp only [List.length_map, List.length_drop]; omega))) ((by simp))) ?_
     refine qA (qN (qE ?_))
     exact Zf rfl (Z7 rfl Z4) (.cons_cons _ .slnil) (gp (z.1.take z.2.1) hfin.1 (by show AV.own q _ 0 _ = AV.own q _ 0 _; rw [List.length_take]; congr 1; omega) (by show [(_, AObj.rows _ _ _)] = [(_, AObj.rows _ _ _)]; rw [List.map_take]))
   ·intro hc
    have hv : cptSG l x = true := by unfold cptSG; rw [show eqG (l.getD x default) (l.getD (x - 1) default) = false from by rw [← Z9o]; exact hc]; rfl
    refine qK (qR (qM ?_))
    refine qe (Z9 rfl rfl rfl (Zn (by first | omega | (simp only [List.length_map]; omega)))) ?_
    refine qA (qN ?_)
    refine ⟨(x + 1), ⟨by omega, by omega, fun i h1 h2 => by rcases Nat.lt_succ_iff_lt_or_eq.1 h2 with h | h; exact hJ.2.2 i h1 h; rw [h]; exact hv⟩, (by omega), ?_⟩
    exact qp [0] ⟨rfl, rfl, trivial⟩
  ·intro hc
   have hx : ¬ x < n := by simpa using hc
   refine qX (qS (qR (qM (qA (qN (qE ?_))))))
   exact Zf rfl (Z7 rfl Z4) (.cons_cons _ .slnil) (gp l (by rw [Z24 (Nat.le_refl _) (fun k h1 h2 => hJ.2.2 k h1 (by omega)), List.take_length]) (by rw [hn]; rfl) rfl)
theorem Zbm (l : List FRef) (hl : l.length ≤ 1000000) : ACalls Tryz.prog 53 [.lst (l.map FRef.cells), .fn (.func 54) []] [] (GP (fun q : Nat => .own q 2 0 ((risG fLt l)).length) (fun q => [(q, .rows 46 2 (((risG fLt l)).map FRef.cells))]) (fun _ => True)) := by
 refine Zd (n := 13) Tryz.func53 rfl (by decide +kernel) rfl rfl ?_
 refine qS (qR (qA (qN (qS (qR (qM ?_))))))
 refine Z5 [] _ (w0 rfl) rfl rfl rfl rfl (.refl _) (Zde l (by omega)) (fun v1 hv1 => ?_)
 refine qA (qN (qS (qR (qM (qM ?_)))))
 refine Z5 [_] _ (w0 rfl) rfl rfl rfl rfl (Zk (k := 0) rfl) (Zfs v1 l.length l rfl (by omega)) (fun v2 hv2 => ?_)
 refine qN (qS (qR (qM ?_)))
 refine Z5 [_] _ (w0 rfl) rfl rfl rfl rfl (Zk (k := 0) rfl) (Zac v1 l.length v2 hv2.1.length_eq (by omega)) (fun v3 hv3 => ?_)
 refine qA (qN (qE ?_))
 exact Zf rfl (Z7 rfl Z4) (.cons_cons _ .slnil) (gp v1 trivial (by show AV.own _ _ _ _ = AV.own _ _ _ _; rw [(hv3.trans (Z2x fLtT hv2.1 (by rw [hv2.1.length_eq]; exact hv2.2)))]) (by show [(_, AObj.rows _ _ _)] = [(_, AObj.rows _ _ _)]; rw [(hv3.trans (Z2x fLtT hv2.1 (by rw [hv2.1.length_eq]; exact hv2.2)))]))
theorem Zam (l : List FRef) (hl : l.length ≤ 1000000) : ACalls Tryz.prog 53 [.lst (l.map FRef.cells), .fn (.func 54) []] [] (Gives (.lst ((risG fLt l).map FRef.cells))) := Z40 (Zbm l hl)
theorem Zdx (l : List FRef) (hl : small l.length) (s : FRef) : ACalls Tryz.prog 115 [.lst (l.map FRef.cells), s.av] [] (Gives (iA (idxFrom (eqG s) l 0))) := by
 simp only [small] at hl
 refine Zd (n := 19) Tryz.func115 rfl (by decide +kernel) rfl rfl ?_
 refine qS (qR ?_)
 refine Zy (w0 rfl) rfl (fun id => Z09 id rfl rfl rfl rfl rfl) (fun id1 => ?_)
 refine qA (qN (qS (qS (qR (qM ?_)))))
 refine qe (Zx rfl rfl rfl rfl) ?_
 refine qM (qN (qB ?_))
 refine Zj (α := Nat) (fun i => ⟨[(8, iA i), (7, iA l.length), (0, .lst (l.map FRef.cells)), (3, .ptr id1 2 0 0)], [(id1, .rows 46 2 [s.cells])], [], 19⟩) (fun i => i ≤ l.length ∧ idxFrom (eqG s) (l.drop i) i = idxFrom (eqG s) l 0) (fun i => l.length - i) 0 ⟨Nat.zero_le _, rfl⟩ ?_ ?_
 ·exact Zb [0] ⟨rfl, (by show some (iA _) = some (iA _); simp), rfl, rfl, trivial⟩ rfl (by decide) rfl rfl
 rintro i hJ
 refine qS (qR ?_)
 refine qe eI ?_
 refine qN (qS ?_)
 refine Z2 rfl ?_ ?_
 ·intro hc
  have hi : i < l.length := by simpa using hc
  refine qK (qS (qB (qS (qR (qM (qA (qN (qS ?_))))))))
  refine Z0j 6 rfl (by kernel_rfl) ?_
  refine Za 0 (w0 rfl) rfl rfl rfl rfl rfl (Zt (Nat.le_of_ble_eq_true rfl)) ?_
  refine cM2 (cM2 ?_)
  refine ce (Z6 rfl rfl rfl (Z04 (fun _ => rfl)) (by first | omega | (simp only [List.length_map]; omega) | (simp only [List.length_map, List.length_drop]; omega)) (by first | omega | (simp only [List.length_map]; omega) | (simp only [List.length_map, List.length_drop]; omega))) ?_
  refine ce (Zu rfl rfl (Z0a (by first | assumption | omega | (simp only [List.length_drop]; omega))) (Zt (Nat.le_of_ble_eq_true rfl))) ?_
  refine ce (Z2v rfl rfl rfl rfl rfl) ?_
  refine .done (qN ?_)
  refine Z2 rfl ?_ ?_
  ·intro hc
   have hq : eqG s l[i] = true := by rw [← Z9o]; exact hc
   refine qS (qR (qM (qA (qN (qE ?_)))))
   exact Z0p rfl (Z7 rfl Z4) (gi (by rw [← hJ.2, Z0w hi]; simp only [idxFrom]; rw [if_pos hq]))
  ·intro hc
   have hq : eqG s l[i] = false := by rw [← Z9o]; exact hc
   refine qK (qR ?_)
   refine qe (Z9 rfl rfl rfl (Zn (by first | omega | (simp only [List.length_map]; omega)))) ?_
   refine qM (qN ?_)
   refine ⟨i + 1, ⟨hi, by rw [← hJ.2, Z0w hi]; simp only [idxFrom]; rw [if_neg (by rw [hq]; simp)]⟩, (by omega), ?_⟩
   exact qp [0] ⟨rfl, rfl, rfl, rfl, trivial⟩
 ·intro hc
  have hi : ¬ i < l.length := by simpa using hc
  refine qX (qS (qR (qA (qN (qE ?_)))))
  exact Z0p rfl (Z7 rfl Z4) (gi (by rw [← hJ.2, Z1m hi]; rfl))
theorem Z8i (l : List FRef) (hl : small l.length) (s : FRef) : ACalls Tryz.prog 83 [.lst (l.map FRef.cells), s.av] [] (Gives (bA (hasG l s))) := by
 refine Zd (n := 9) Tryz.func83 rfl (by decide +kernel) rfl rfl ?_
 refine qS (qR ?_)
 refine Zy (w0 rfl) rfl (fun id => Z09 id rfl rfl rfl rfl rfl) (fun id1 => ?_)
 refine qA (qN (qS (qR (qM ?_))))
 refine qL 0 (Zt (Nat.le_of_ble_eq_true rfl)) ?_
 refine qe (Z8 [] rfl rfl rfl (Zdx l hl s) List.nodup_nil) ?_
 refine qe eI ?_
 refine qA (qN (qE ?_))
 exact Z0p rfl (Z7 rfl Z4) (gb ((Z4r _ _).trans (Z6q l s)))
theorem Zfj (l : List FRef) (hl : small l.length) (g : Nat) (caps : List AV) (Hc : AHeap) (f : FRef → Bool) (hg : ∀ s, s ∈ l → ACalls Tryz.prog g (s.av :: caps) Hc (GivesH (bA (f s)) Hc)) : ACalls Tryz.prog 114 [.lst (l.map FRef.cells), .fn (.func g) caps] Hc (GivesH (iA (idxFrom f l 0)) Hc) := by
 simp only [small] at hl
 refine Zd (n := 19) Tryz.func114 rfl (by decide +kernel) rfl rfl ?_
 refine qS (qR (qA (qN (qS (qS (qR (qM ?_)))))))
 refine qe (Zx rfl rfl rfl rfl) ?_
 refine qM (qN (qB ?_))
 refine Zj (α := Nat) (fun i => ⟨[(8, iA i), (0, .lst (l.map FRef.cells)), (1, .fn (.func g) caps), (7, iA l.length)], [] ++ Hc, [], 19⟩) (fun i => i ≤ l.length ∧ idxFrom f (l.drop i) i = idxFrom f l 0) (fun i => l.length - i) 0 ⟨by omega, rfl⟩ ?_ ?_
 ·exact Z1o (F := []) (F' := []) (Hj := Hc) [] ⟨rfl, rfl, rfl, (by show some (iA _) = some (iA _); simp), trivial⟩ rfl rfl rfl (by decide) rfl rfl
 rintro i hJ
 refine qS (qR ?_)
 refine qe eI ?_
 refine qN (qS ?_)
 refine Z2 rfl ?_ ?_
 ·intro hc
  have hi : i < l.length := by simpa using hc
  refine qK (qS (qB (qS (qR (qM (qA (qN (qS (qR (qM (qM (qM ?_))))))))))))
  refine qe (Z6 rfl rfl rfl (Z04 (fun _ => rfl)) (by first | omega | (simp only [List.length_map]; omega) | (simp only [List.length_map, List.length_drop]; omega)) (by first | omega | (simp only [List.length_map]; omega) | (simp only [List.length_map, List.length_drop]; omega))) ?_
  refine qe (Zu rfl rfl (Z0a (by first | assumption | omega | (simp only [List.length_drop]; omega))) (Zt (Nat.le_of_ble_eq_true rfl))) ?_
  refine Z16 Hc [] (w0 rfl) rfl rfl rfl rfl (by simp) (hg _ (List.getElem_mem hi)) ?_
  refine qN ?_
  refine Z2 rfl ?_ ?_
  ·intro hc
   have hc : f (l[i]) = true := hc
   refine qS (qR (qM (qA (qN (qE ?_)))))
   exact Zf rfl (Z7 rfl Z4) (.refl _) (gvH (congrArg iA (by rw [← hJ.2, Z0w hi]; simp [idxFrom, hc])))
  ·intro hc
   have hc : f (l[i]) = false := hc
   refine qK (qR ?_)
   refine qe (Z9 rfl rfl rfl (Zn (by first | omega | (simp only [List.length_map]; omega)))) ?_
   refine qM (qN ?_)
   refine ⟨i + 1, ⟨by omega, by rw [← hJ.2, Z0w hi]; simp [idxFrom, hc]⟩, (by omega), ?_⟩
   exact Z1o (F := []) (F' := []) (Hj := Hc) [] ⟨rfl, rfl, rfl, rfl, trivial⟩ rfl rfl rfl (by decide) rfl rfl
 ·intro hc
  have hi : ¬ i < l.length := by simpa using hc
  refine qX (qS (qR (qA (qN (qE ?_)))))
  exact Zf rfl (Z7 rfl Z4) (.refl _) (gvH (congrArg iA (by rw [← hJ.2, Z1m hi]; rfl)))
theorem Zdj (l : List FRef) (hl : small l.length) (g : Nat) (caps : List AV) (Hc : AHeap) (f : FRef → Bool) (hg : ∀ s, s ∈ l → ACalls Tryz.prog g (s.av :: caps) Hc (GivesH (bA (f s)) Hc)) : ACalls Tryz.prog 81 [.lst (l.map FRef.cells), .fn (.func g) caps] Hc (GivesH (bA (l.any f)) Hc) := by
 refine Zd (n := 9) Tryz.func81 rfl (by decide +kernel) rfl rfl ?_
 refine qS (qR (qA (qN (qS (qR (qM (qM ?_)))))))
 refine Z16 Hc [] (w0 rfl) rfl rfl rfl rfl (by simp) (Zfj l hl g caps Hc f hg) ?_
 refine qe eI ?_
 refine qA (qN (qE ?_))
 exact Zf rfl (Z7 rfl Z4) (.refl _) (gvH (congrArg bA (Z4r f l)))
theorem Zfm (i1 : Nat) (b : List FRef) (hb : small b.length) (s : FRef) : ACalls Tryz.prog 82 [s.av, .ptr i1 1 0 0] [(i1, .rows 31 1 [[.lst (b.map FRef.cells)]])] (GivesH (bA (!hasG b s)) [(i1, .rows 31 1 [[.lst (b.map FRef.cells)]])]) := by
 refine Zd (n := 8) Tryz.func82 rfl (by decide +kernel) rfl rfl ?_
 refine qS (qR ?_)
 refine Zy (w0 rfl) rfl (fun id => Z09 id rfl rfl rfl rfl rfl) (fun id1 => ?_)
 refine qA (qN (qS (qR ?_)))
 refine qL 1 Z3 ?_
 refine qL 0 (Zt (Nat.le_of_ble_eq_true rfl)) ?_
 refine qe (Z8 [] rfl rfl rfl (Z8i b hb s) List.nodup_nil) ?_
 refine qe (Z03 rfl rfl) ?_
 refine qA (qN (qE ?_))
 exact Zf rfl (Z7 rfl Z4) (.cons _ (.refl _)) (gvH rfl)
theorem Zh0 (a b : List FRef) (hl : small a.length) (hb : small b.length) : ACalls Tryz.prog 45 [.lst (a.map FRef.cells), .lst (b.map FRef.cells)] [] (Gives (bA (a.all (hasG b)))) := by
 refine Zd (n := 9) Tryz.func45 rfl (by decide +kernel) rfl rfl ?_
 refine qS (qR ?_)
 refine Zy (w0 rfl) rfl (fun id => Z09 id rfl rfl rfl rfl rfl) (fun id1 => ?_)
 refine qA (qN (qS (qR (qM ?_))))
 refine qe (Z1k rfl rfl) ?_
 refine Z16 [_] [] (w0 rfl) rfl rfl rfl rfl (.refl _) (Zdj a hl 82 _ _ (fun s => !hasG b s) (fun s _ => Zfm id1 b hb s)) ?_
 refine qe (Z03 rfl rfl) ?_
 refine qA (qN (qE ?_))
 exact Z0p rfl (Z7 rfl Z4) (gb (by rw [List.all_eq_not_any_not]))
theorem Zdm (a b : List FRef) (hl : small a.length) (hb : small b.length) : ACalls Tryz.prog 39 [.lst (a.map FRef.cells), .lst (b.map FRef.cells)] [] (Gives (bA (decide (a = b)))) := by
 simp only [small] at hl hb
 refine Zd (n := 26) Tryz.func39 rfl (by decide +kernel) rfl rfl ?_
 refine qS (qR (qA (qN (qS (qS (qR (qM ?_)))))))
 refine qe (Zx rfl rfl rfl rfl) ?_
 refine qM ?_
 refine qe (Zx rfl rfl rfl rfl) ?_
 refine qe eI ?_
 refine qN ?_
 refine Z2 rfl ?_ ?_
 ·intro hc
  have hne : ¬ a.length = b.length := by simp at hc; omega
  refine qS (qR (qA (qN (qE ?_))))
  exact Z0p rfl (Z7 rfl Z4) (gb (by symm; simp only [decide_eq_false_iff_not]; intro e; exact hne (by rw [e])))
 ·intro hc
  have hne : a.length = b.length := by simp at hc; omega
  refine qK (qS (qS (qR (qM ?_))))
  refine qe (Zx rfl rfl rfl rfl) ?_
  refine qM (qN (qB ?_))
  refine Zj (α := Nat) (fun i => ⟨[(13, iA i), (12, iA a.length), (0, .lst (a.map FRef.cells)), (1, .lst (b.map FRef.cells))], [], [], 26⟩) (fun i => i ≤ a.length ∧ a.take i = b.take i) (fun i => a.length - i) 0 ⟨Nat.zero_le _, rfl⟩ ?_ ?_
  ·exact Zb [] ⟨rfl, (by show some (iA _) = some (iA _); simp), rfl, rfl, trivial⟩ rfl (by decide) rfl rfl
  rintro i hJ
  refine qS (qR ?_)
  refine qe eI ?_
  refine qN (qS ?_)
  refine Z2 rfl ?_ ?_
  ·intro hc
   have hi : i < a.length := by simpa using hc
   refine qK (qS (qB (qS (qR (qM (qA (qN (qS ?_))))))))
   refine Z0j 9 rfl (by kernel_rfl) ?_
   refine cM2 (cM2 ?_)
   refine ce (Z6 rfl rfl rfl (Z04 (fun _ => rfl)) (by first | omega | (simp only [List.length_map]; omega) | (simp only [List.length_map, List.length_drop]; omega)) (by first | omega | (simp only [List.length_map]; omega) | (simp only [List.length_map, List.length_drop]; omega))) ?_
   refine ce (Zu rfl rfl (Z0a (by first | assumption | omega | (simp only [List.length_drop]; omega))) (Zt (Nat.le_of_ble_eq_true rfl))) ?_
   refine cM2 (cM2 ?_)
   refine ce (Z6 rfl rfl rfl (Z04 (fun _ => rfl)) (by first | omega | (simp only [List.length_map]; omega) | (simp only [List.length_map, List.length_drop]; omega)) (by first | omega | (simp only [List.length_map]; omega) | (simp only [List.length_map, List.length_drop]; omega))) ?_
   refine ce (Zu rfl rfl (Z0a (by first | assumption | omega | (simp only [List.length_drop]; omega))) (Zt (Nat.le_of_ble_eq_true rfl))) ?_
   refine ce (Z43 rfl rfl rfl rfl rfl) ?_
   refine .done (qN ?_)
   refine Z2 rfl ?_ ?_
   ·intro hc
    have hq : ¬ a[i] = b[i]'(by omega) := Z8x (by rw [← Z9o]; exact Z1u hc)
    refine qS (qR (qA (qN (qE ?_))))
    exact Z0p rfl (Z7 rfl Z4) (gb (by symm; simp only [decide_eq_false_iff_not]; intro e; exact hq (by simp only [e])))
   ·intro hc
    have hq : a[i] = b[i]'(by omega) := eqG_iff.1 (by rw [← Z9o]; exact Z2c hc)
    refine qK (qR ?_)
    refine qe (Z9 rfl rfl rfl (Zn (by first | omega | (simp only [List.length_map]; omega)))) ?_
    refine qM (qN ?_)
    refine ⟨i + 1, ⟨hi, by rw [List.take_succ_eq_append_getElem hi, List.take_succ_eq_append_getElem (show i < b.length by omega), hJ.2, hq]⟩, (by omega), ?_⟩
    exact qp [] ⟨rfl, rfl, rfl, rfl, trivial⟩
  ·intro hc
   have hi : ¬ i < a.length := by simpa using hc
   refine qX (qS (qR (qA (qN (qE ?_)))))
   exact Z0p rfl (Z7 rfl Z4) (gb (by symm; simp only [decide_eq_true_eq]; have h := hJ.2; rwa [List.take_of_length_le (by omega), List.take_of_length_le (by omega)] at h))
instance : ZV Tryz.prog 25 (.agg #[.string ⟨#[]⟩, .string ⟨#[]⟩, .string ⟨#[]⟩]) := ⟨by kernel_rfl⟩
theorem Zdf (l : List MRef) (hl : l.length ≤ 1000000000) : ACalls Tryz.prog 100 [.lst (l.map MRef.cells)] [] (GP (fun q : Nat => .own q 3 0 (l).length) (fun q => [(q, .rows 25 3 ((l).map MRef.cells))]) (fun _ => True)) := by
 refine Zd (n := 8) Tryz.func100 rfl (by decide +kernel) rfl rfl ?_
 refine qS (qR ?_)
 refine Zy (w0 rfl) rfl (fun id => Z29 id 25 3 (.inl rfl) rfl) (fun id1 => ?_)
 refine qN (qS (qS (qR (qM ?_))))
 refine Z4m (w0 rfl) rfl rfl rfl (fun bn hbn => ?_)
 refine qN ?_
 refine Z2 rfl ?_ ?_
 ·intro hc
  have e0 : l = [] := by have := hbn hc; simpa using this
  subst e0
  refine qS (qR ?_)
  refine Zy (w0 rfl) rfl (fun id => Z29 id 25 3 (.inl rfl) rfl) (fun id2 => ?_)
  refine qN (qE ?_)
  exact Zf rfl (Z7 rfl Z4) (.cons_cons _ (.cons _ .slnil)) (gp _ trivial rfl rfl)
 ·intro hc
  refine qK (qS (qR ?_))
  refine Zy (w0 rfl) rfl (fun id => Zo id (ps := []) rfl rfl rfl rfl rfl rfl rfl rfl) (fun id3 => ?_)
  refine qM ?_
  refine Z0n 0 (w0 rfl) rfl rfl rfl rfl rfl rfl ⟨rfl, Z04 (fun _ => rfl)⟩ (by first | omega | (simp; omega) | (simp [maxLen]; omega) | (simp; done) | (simp [maxLen]; done)) (by first | omega | (simp; omega) | (simp [maxLen]; omega) | (simp; done) | (simp [maxLen]; done)) (fun id4 => ?_)
  refine qA (qN (qE ?_))
  exact Zf rfl (Z7 rfl Z4) (.cons_cons _ (.cons _ .slnil)) (gp id4 trivial (by show AV.own _ _ _ _ = AV.own _ _ _ _; simp) (by show [(_, AObj.rows _ _ _)] = [(_, AObj.rows _ _ _)]; simp))
theorem Zad (q n : Nat) (l : List MRef) (hn : l.length = n) (hN : n ≤ 140737488355328) : ACalls Tryz.prog 102 [.own q 3 0 n] [(q, .rows 25 3 (l.map MRef.cells))] (GP (fun m : List MRef => .own q 3 0 m.length) (fun m => [(q, .rows 25 3 (m.map MRef.cells))]) (fun m => m = cptNG l l.length)) := by
 refine Zd (n := 61) Tryz.func102 rfl (by decide +kernel) rfl rfl ?_
 refine qS (qR (qA (qN (qS (qS (qR (qM ?_)))))))
 refine qe (Zx rfl rfl rfl rfl) ?_
 refine qe eI ?_
 refine qN ?_
 refine Z2 rfl ?_ ?_
 ·intro hc
  have hlt : n < 2 := by simp at hc; omega
  refine qS (qR (qM (qA (qN (qE ?_)))))
  exact Zf rfl (Z7 rfl Z4) (.cons_cons _ .slnil) (gp l (by rw [Z24 (Nat.le_refl _) (fun k h1 h2 => by omega), List.take_length]) (by rw [hn]; rfl) rfl)
 ·intro hc
  have hlt : ¬ n < 2 := by simp at hc; omega
  refine qK (qS (qS (qR (qA (qN (qB ?_))))))
  refine Zj (α := Nat) (fun x => ⟨[(3, iA x), (0, .own q 3 0 n)], [(q, .rows 25 3 (l.map MRef.cells))], [], 61⟩) (fun x => 1 ≤ x ∧ x ≤ n ∧ ∀ i, 0 < i → i < x → cptSG l i = true) (fun x => n - x) 1 ⟨Nat.le_refl _, by omega, fun i h1 h2 => by omega⟩ ?_ ?_
  ·exact Zb [0] ⟨rfl, rfl, trivial⟩ rfl (by decide) rfl rfl
  rintro x hJ
  refine qS (qS (qR (qM (qM ?_))))
  refine qe (Zx rfl rfl rfl rfl) ?_
  refine qe eI ?_
  refine qN ?_
  refine Z2 rfl ?_ ?_
  ·intro hc
   have hx : x < n := by simpa using hc
   refine qK (qS (qB (qS ?_)))
   refine Z0j 10 rfl (by kernel_rfl) ?_
   refine cM2 (cM2 ?_)
   refine ce (Z1 x rfl rfl rfl (by first | omega | (simp only [List.length_map]; omega) | (simp only [List.length_map, List.length_drop]; omega)) (by first | omega | (simp only [List.length_map]; omega) | (simp only [List.length_map, List.length_drop]; omega)) (by omega)) ?_
   refine Za 0 (w0 rfl) rfl rfl rfl rfl (Z0g (by first | assumption | omega | (simp only [List.length_drop]; omega))) (Z01 rfl) ?_
   refine cM2 (cM2 ?_)
   refine ce (Z9 rfl rfl rfl (Z0c (by first | omega | (simp only [List.length_map]; omega)))) ?_
   refine ce (Z1 (x - 1) rfl rfl rfl (by first | omega | (simp only [List.length_map]; omega) | (simp only [List.length_map, List.length_drop]; omega)) (by first | omega | (simp only [List.length_map]; omega) | (simp only [List.length_map, List.length_drop]; omega)) (by omega)) ?_
   refine Za 0 (w0 rfl) rfl rfl rfl rfl (Z0g (by first | assumption | omega | (simp only [List.length_drop]; omega))) (Z01 rfl) ?_
   refine ce (Z2v rfl rfl rfl rfl rfl) ?_
   refine .done (qN ?_)
   refine Z2 rfl ?_ ?_
   ·intro hc
    have hq : eqG (l.getD x default) (l.getD (x - 1) default) = true := by rw [← Z9p]; exact hc
    refine qS (qR (qM (qM ?_)))
    refine qe (Zv (y := .own q 3 x (n - x)) (Z1g rfl rfl rfl (by first | omega | (simp only [List.length_map]; omega) | (simp only [List.length_map, List.length_drop]; omega)) (by first | omega | (simp only [List.length_map]; omega) | (simp only [List.length_map, List.length_drop]; omega))) ((by simp))) ?_
    refine qA (qN (qS (qS (qR (qA (qN (qB ?_)))))))
    refine Zj (α := List MRef × Nat × Nat) (fun z => ⟨[(3, iA z.2.1), (5, iA z.2.2), (4, .own q 3 x (n - x)), (0, .own q 3 0 n)], [(q, .rows 25 3 (z.1.map MRef.cells))], [], 61⟩) (fun z => CptJG l x z.1 z.2.1 z.2.2) (fun z => n - x - z.2.2) (l, x, 1) (CptJG.start hJ.1 (by omega) hJ.2.2 hq) ?_ ?_
    ·exact Zb [0] ⟨rfl, rfl, rfl, rfl, trivial⟩ rfl (by decide) rfl rfl
    rintro z hJ1
    have hm1 := hJ1.h1
    have hm2 := hJ1.h2
    have hm3 := hJ1.h3
    have hm4 := hJ1.h4
    have hml := hJ1.hl
    refine qS (qS (qR (qM (qM ?_))))
    refine qe (Zx rfl rfl rfl rfl) ?_
    refine qe eI ?_
    refine qN ?_
    refine Z2 rfl ?_ ?_
    ·intro hc
     have hj : z.2.2 < l.length - x := by simp at hc; omega
     refine qK (qS (qB (qS ?_)))
     refine Z0j 10 rfl (by kernel_rfl) ?_
     refine cM2 (cM2 ?_)
     refine ce (Z1 (x + z.2.2) rfl rfl rfl (by first | omega | (simp only [List.length_map]; omega) | (simp only [List.length_map, List.length_drop]; omega)) (by first | omega | (simp only [List.length_map]; omega) | (simp only [List.length_map, List.length_drop]; omega)) (by omega)) ?_
     refine Za 0 (w0 rfl) rfl rfl rfl rfl (Z0g (by first | assumption | omega | (simp only [List.length_drop]; omega))) (Z01 rfl) ?_
     refine cM2 (cM2 ?_)
     refine ce (Z9 rfl rfl rfl (Z0c (by first | omega | (simp only [List.length_map]; omega)))) ?_
     refine ce (Z1 (x + (z.2.2 - 1)) rfl rfl rfl (by first | omega | (simp only [List.length_map]; omega) | (simp only [List.length_map, List.length_drop]; omega)) (by first | omega | (simp only [List.length_map]; omega) | (simp only [List.length_map, List.length_drop]; omega)) (by omega)) ?_
     refine Za 0 (w0 rfl) rfl rfl rfl rfl (Z0g (by first | assumption | omega | (simp only [List.length_drop]; omega))) (Z01 rfl) ?_
     refine ce (Z43 rfl rfl rfl rfl rfl) ?_
     refine .done (qN ?_)
     refine Z2 rfl ?_ ?_
     ·intro hc
      have hv : (!eqG (z.1.getD (x + z.2.2) default) (z.1.getD (x + (z.2.2 - 1)) default)) = true := by rw [← Z9p]; exact hc
      refine qS (qR (qM (qM (qM (qM ?_)))))
      refine qe (Z1 (x + z.2.2) rfl rfl rfl (by first | omega | (simp only [List.length_map]; omega) | (simp only [List.length_map, List.length_drop]; omega)) (by first | omega | (simp only [List.length_map]; omega) | (simp only [List.length_map, List.length_drop]; omega)) (by omega)) ?_
      refine Z0e 0 (w0 rfl) rfl rfl rfl rfl (Z0g (by first | assumption | omega | (simp only [List.length_drop]; omega))) (Z01 rfl) ?_
      refine qe (Z1 z.2.1 rfl rfl rfl (by first | omega | (simp only [List.length_map]; omega) | (simp only [List.length_map, List.length_drop]; omega)) (by first | omega | (simp only [List.length_map]; omega) | (simp only [List.length_map, List.length_drop]; omega)) (by omega)) ?_
      refine Z5e (f := MRef.cells) 0 (fun _ => rfl) (fun _ => rfl) (w0 rfl) rfl rfl rfl rfl (by first | omega | (simp; omega)) rfl ?_
      refine qN (qR (qM ?_))
      refine qe (Z9 rfl rfl rfl (Zn (by first | omega | (simp only [List.length_map]; omega)))) ?_
      refine qA (qN (qR (qM ?_)))
      refine qe (Z9 rfl rfl rfl (Zn (by first | omega | (simp only [List.length_map]; omega)))) ?_
      refine qA (qN ?_)
      refine ⟨(z.1.set z.2.1 (z.1.getD (x + z.2.2) default), z.2.1 + 1, z.2.2 + 1), (hJ1.put hj hv), (by (try simp only) <;> omega), ?_⟩
      exact qp [0] ⟨rfl, rfl, rfl, rfl, trivial⟩
     ·intro hc
      have hv : eqG (z.1.getD (x + z.2.2) default) (z.1.getD (x + (z.2.2 - 1)) default) = true := Z2c (by rw [← Z9p]; exact hc)
      refine qK (qR (qM ?_))
      refine qe (Z9 rfl rfl rfl (Zn (by first | omega | (simp only [List.length_map]; omega)))) ?_
      refine qA (qN ?_)
      refine ⟨(z.1, z.2.1, z.2.2 + 1), (hJ1.keep hj hv), (by (try simp only) <;> omega), ?_⟩
      exact qp [0] ⟨rfl, rfl, rfl, rfl, trivial⟩
    ·intro hc
     have hj : ¬ z.2.2 < l.length - x := by simp at hc; omega
     have hfin := hJ1.fin (by omega) hj
     refine qX (qS (qR (qM (qM ?_))))
     refine qe (Zv (y := .own q 3 z.2.1 (n - z.2.1)) (Z1g rfl rfl rfl (by first | omega | (simp only [List.length_map]; omega) | (simp only [List.length_map, List.length_drop]; omega)) (by first | omega | (simp only [List.length_map]; omega) | (simp only [List.length_map, List.length_drop]; omega))) ((by simp))) ?_
     refine Z5d (n := 3) 0 rfl (by decide) (w0 rfl) rfl rfl rfl rfl ?_
     refine qN (qS (qR (qM (qM ?_))))
     refine qe (Zv (y := .own q 3 0 z.2.1) (Z26 rfl rfl rfl (by first | omega | (simp only [List.length_map]; omega) | (simp only [List.length_map, List.length_drop]; omega)) (by first | omega | (simp only [List.length_map]; omega) | (simp only [List.length_map, List.length_drop]; omega))) ((by simp))) ?_
     refine qA (qN (qE ?_))
     exact Zf rfl (Z7 rfl Z4) (.cons_cons _ .slnil) (gp (z.1.take z.2.1) hfin.1 (by show AV.own q _ 0 _ = AV.own q _ 0 _; rw [List.length_take]; congr 1; omega) (by show [(_, AObj.rows _ _ _)] = [(_, AObj.rows _ _ _)]; rw [List.map_take]))
   ·intro hc
    have hv : cptSG l x = true := by unfold cptSG; rw [show eqG (l.getD x default) (l.getD (x - 1) default) = false from by rw [← Z9p]; exact hc]; rfl
    refine qK (qR (qM ?_))
    refine qe (Z9 rfl rfl rfl (Zn (by first | omega | (simp only [List.length_map]; omega)))) ?_
    refine qA (qN ?_)
    refine ⟨(x + 1), ⟨by omega, by omega, fun i h1 h2 => by rcases Nat.lt_succ_iff_lt_or_eq.1 h2 with h | h; exact hJ.2.2 i h1 h; rw [h]; exact hv⟩, (by omega), ?_⟩
    exact qp [0] ⟨rfl, rfl, trivial⟩
  ·intro hc
   have hx : ¬ x < n := by simpa using hc
   refine qX (qS (qR (qM (qA (qN (qE ?_))))))
   exact Zf rfl (Z7 rfl Z4) (.cons_cons _ .slnil) (gp l (by rw [Z24 (Nat.le_refl _) (fun k h1 h2 => hJ.2.2 k h1 (by omega)), List.take_length]) (by rw [hn]; rfl) rfl)
theorem Zbn (l : List MRef) (hl : l.length ≤ 1000000) : ACalls Tryz.prog 55 [.lst (l.map MRef.cells), .fn (.func 56) []] [] (GP (fun q : Nat => .own q 3 0 ((risG mLt l)).length) (fun q => [(q, .rows 25 3 (((risG mLt l)).map MRef.cells))]) (fun _ => True)) := by
 refine Zd (n := 13) Tryz.func55 rfl (by decide +kernel) rfl rfl ?_
 refine qS (qR (qA (qN (qS (qR (qM ?_))))))
 refine Z5 [] _ (w0 rfl) rfl rfl rfl rfl (.refl _) (Zdf l (by omega)) (fun v1 hv1 => ?_)
 refine qA (qN (qS (qR (qM (qM ?_)))))
 refine Z5 [_] _ (w0 rfl) rfl rfl rfl rfl (Zk (k := 0) rfl) (Zft v1 l.length l rfl (by omega)) (fun v2 hv2 => ?_)
 refine qN (qS (qR (qM ?_)))
 refine Z5 [_] _ (w0 rfl) rfl rfl rfl rfl (Zk (k := 0) rfl) (Zad v1 l.length v2 hv2.1.length_eq (by omega)) (fun v3 hv3 => ?_)
 refine qA (qN (qE ?_))
 exact Zf rfl (Z7 rfl Z4) (.cons_cons _ .slnil) (gp v1 trivial (by show AV.own _ _ _ _ = AV.own _ _ _ _; rw [(hv3.trans (Z2x mLtT hv2.1 (by rw [hv2.1.length_eq]; exact hv2.2)))]) (by show [(_, AObj.rows _ _ _)] = [(_, AObj.rows _ _ _)]; rw [(hv3.trans (Z2x mLtT hv2.1 (by rw [hv2.1.length_eq]; exact hv2.2)))]))
theorem Zan (l : List MRef) (hl : l.length ≤ 1000000) : ACalls Tryz.prog 55 [.lst (l.map MRef.cells), .fn (.func 56) []] [] (Gives (.lst ((risG mLt l).map MRef.cells))) := Z40 (Zbn l hl)
theorem Zdy (l : List MRef) (hl : small l.length) (s : MRef) : ACalls Tryz.prog 117 [.lst (l.map MRef.cells), s.av] [] (Gives (iA (idxFrom (eqG s) l 0))) := by
 simp only [small] at hl
 refine Zd (n := 19) Tryz.func117 rfl (by decide +kernel) rfl rfl ?_
 refine qS (qR ?_)
 refine Zy (w0 rfl) rfl (fun id => Z09 id rfl rfl rfl rfl rfl) (fun id1 => ?_)
 refine qA (qN (qS (qS (qR (qM ?_)))))
 refine qe (Zx rfl rfl rfl rfl) ?_
 refine qM (qN (qB ?_))
 refine Zj (α := Nat) (fun i => ⟨[(8, iA i), (7, iA l.length), (0, .lst (l.map MRef.cells)), (3, .ptr id1 3 0 0)], [(id1, .rows 25 3 [s.cells])], [], 19⟩) (fun i => i ≤ l.length ∧ idxFrom (eqG s) (l.drop i) i = idxFrom (eqG s) l 0) (fun i => l.length - i) 0 ⟨Nat.zero_le _, rfl⟩ ?_ ?_
 ·exact Zb [0] ⟨rfl, (by show some (iA _) = some (iA _); simp), rfl, rfl, trivial⟩ rfl (by decide) rfl rfl
 rintro i hJ
 refine qS (qR ?_)
 refine qe eI ?_
 refine qN (qS ?_)
 refine Z2 rfl ?_ ?_
 ·intro hc
  have hi : i < l.length := by simpa using hc
  refine qK (qS (qB (qS (qR (qM (qA (qN (qS ?_))))))))
  refine Z0j 6 rfl (by kernel_rfl) ?_
  refine Za 0 (w0 rfl) rfl rfl rfl rfl rfl (Zt (Nat.le_of_ble_eq_true rfl)) ?_
  refine cM2 (cM2 ?_)
  refine ce (Z6 rfl rfl rfl (Z04 (fun _ => rfl)) (by first | omega | (simp only [List.length_map]; omega) | (simp only [List.length_map, List.length_drop]; omega)) (by first | omega | (simp only [List.length_map]; omega) | (simp only [List.length_map, List.length_drop]; omega))) ?_
  refine ce (Zu rfl rfl (Z0a (by first | assumption | omega | (simp only [List.length_drop]; omega))) (Zt (Nat.le_of_ble_eq_true rfl))) ?_
  refine ce (Z2v rfl rfl rfl rfl rfl) ?_
  refine .done (qN ?_)
  refine Z2 rfl ?_ ?_
  ·intro hc
   have hq : eqG s l[i] = true := by rw [← Z9p]; exact hc
   refine qS (qR (qM (qA (qN (qE ?_)))))
   exact Z0p rfl (Z7 rfl Z4) (gi (by rw [← hJ.2, Z0w hi]; simp only [idxFrom]; rw [if_pos hq]))
  ·intro hc
   have hq : eqG s l[i] = false := by rw [← Z9p]; exact hc
   refine qK (qR ?_)
   refine qe (Z9 rfl rfl rfl (Zn (by first | omega | (simp only [List.length_map]; omega)))) ?_
   refine qM (qN ?_)
   refine ⟨i + 1, ⟨hi, by rw [← hJ.2, Z0w hi]; simp only [idxFrom]; rw [if_neg (by rw [hq]; simp)]⟩, (by omega), ?_⟩
   exact qp [0] ⟨rfl, rfl, rfl, rfl, trivial⟩
 ·intro hc
  have hi : ¬ i < l.length := by simpa using hc
  refine qX (qS (qR (qA (qN (qE ?_)))))
  exact Z0p rfl (Z7 rfl Z4) (gi (by rw [← hJ.2, Z1m hi]; rfl))
theorem Z8j (l : List MRef) (hl : small l.length) (s : MRef) : ACalls Tryz.prog 86 [.lst (l.map MRef.cells), s.av] [] (Gives (bA (hasG l s))) := by
 refine Zd (n := 9) Tryz.func86 rfl (by decide +kernel) rfl rfl ?_
 refine qS (qR ?_)
 refine Zy (w0 rfl) rfl (fun id => Z09 id rfl rfl rfl rfl rfl) (fun id1 => ?_)
 refine qA (qN (qS (qR (qM ?_))))
 refine qL 0 (Zt (Nat.le_of_ble_eq_true rfl)) ?_
 refine qe (Z8 [] rfl rfl rfl (Zdy l hl s) List.nodup_nil) ?_
 refine qe eI ?_
 refine qA (qN (qE ?_))
 exact Z0p rfl (Z7 rfl Z4) (gb ((Z4r _ _).trans (Z6q l s)))
theorem Zfk (l : List MRef) (hl : small l.length) (g : Nat) (caps : List AV) (Hc : AHeap) (f : MRef → Bool) (hg : ∀ s, s ∈ l → ACalls Tryz.prog g (s.av :: caps) Hc (GivesH (bA (f s)) Hc)) : ACalls Tryz.prog 116 [.lst (l.map MRef.cells), .fn (.func g) caps] Hc (GivesH (iA (idxFrom f l 0)) Hc) := by
 simp only [small] at hl
 refine Zd (n := 19) Tryz.func116 rfl (by decide +kernel) rfl rfl ?_
 refine qS (qR (qA (qN (qS (qS (qR (qM ?_)))))))
 refine qe (Zx rfl rfl rfl rfl) ?_
 refine qM (qN (qB ?_))
 refine Zj (α := Nat) (fun i => ⟨[(8, iA i), (0, .lst (l.map MRef.cells)), (1, .fn (.func g) caps), (7, iA l.length)], [] ++ Hc, [], 19⟩) (fun i => i ≤ l.length ∧ idxFrom f (l.drop i) i = idxFrom f l 0) (fun i => l.length - i) 0 ⟨by omega, rfl⟩ ?_ ?_
 ·exact Z1o (F := []) (F' := []) (Hj := Hc) [] ⟨rfl, rfl, rfl, (by show some (iA _) = some (iA _); simp), trivial⟩ rfl rfl rfl (by decide) rfl rfl
 rintro i hJ
 refine qS (qR ?_)
 refine qe eI ?_
 refine qN (qS ?_)
 refine Z2 rfl ?_ ?_
 ·intro hc
  have hi : i < l.length := by simpa using hc
  refine qK (qS (qB (qS (qR (qM (qA (qN (qS (qR (qM (qM (qM ?_))))))))))))
  refine qe (Z6 rfl rfl rfl (Z04 (fun _ => rfl)) (by first | omega | (simp only [List.length_map]; omega) | (simp only [List.length_map, List.length_drop]; omega)) (by first | omega | (simp only [List.length_map]; omega) | (simp only [List.length_map, List.length_drop]; omega))) ?_
  refine qe (Zu rfl rfl (Z0a (by first | assumption | omega | (simp only [List.length_drop]; omega))) (Zt (Nat.le_of_ble_eq_true rfl))) ?_
  refine Z16 Hc [] (w0 rfl) rfl rfl rfl rfl (by simp) (hg _ (List.getElem_mem hi)) ?_
  refine qN ?_
  refine Z2 rfl ?_ ?_
  ·intro hc
   have hc : f (l[i]) = true := hc
   refine qS (qR (qM (qA (qN (qE ?_)))))
   exact Zf rfl (Z7 rfl Z4) (.refl _) (gvH (congrArg iA (by rw [← hJ.2, Z0w hi]; simp [idxFrom, hc])))
  ·intro hc
   have hc : f (l[i]) = false := hc
   refine qK (qR ?_)
   refine qe (Z9 rfl rfl rfl (Zn (by first | omega | (simp only [List.length_map]; omega)))) ?_
   refine qM (qN ?_)
   refine ⟨i + 1, ⟨by omega, by rw [← hJ.2, Z0w hi]; simp [idxFrom, hc]⟩, (by omega), ?_⟩
   exact Z1o (F := []) (F' := []) (Hj := Hc) [] ⟨rfl, rfl, rfl, rfl, trivial⟩ rfl rfl rfl (by decide) rfl rfl
 ·intro hc
  have hi : ¬ i < l.length := by simpa using hc
  refine qX (qS (qR (qA (qN (qE ?_)))))
  exact Zf rfl (Z7 rfl Z4) (.refl _) (gvH (congrArg iA (by rw [← hJ.2, Z1m hi]; rfl)))
theorem Zdk (l : List MRef) (hl : small l.length) (g : Nat) (caps : List AV) (Hc : AHeap) (f : MRef → Bool) (hg : ∀ s, s ∈ l → ACalls Tryz.prog g (s.av :: caps) Hc (GivesH (bA (f s)) Hc)) : ACalls Tryz.prog 84 [.lst (l.map MRef.cells), .fn (.func g) caps] Hc (GivesH (bA (l.any f)) Hc) := by
 refine Zd (n := 9) Tryz.func84 rfl (by decide +kernel) rfl rfl ?_
 refine qS (qR (qA (qN (qS (qR (qM (qM ?_)))))))
 refine Z16 Hc [] (w0 rfl) rfl rfl rfl rfl (by simp) (Zfk l hl g caps Hc f hg) ?_
 refine qe eI ?_
 refine qA (qN (qE ?_))
 exact Zf rfl (Z7 rfl Z4) (.refl _) (gvH (congrArg bA (Z4r f l)))
theorem Zfn (i1 : Nat) (b : List MRef) (hb : small b.length) (s : MRef) : ACalls Tryz.prog 85 [s.av, .ptr i1 1 0 0] [(i1, .rows 32 1 [[.lst (b.map MRef.cells)]])] (GivesH (bA (!hasG b s)) [(i1, .rows 32 1 [[.lst (b.map MRef.cells)]])]) := by
 refine Zd (n := 8) Tryz.func85 rfl (by decide +kernel) rfl rfl ?_
 refine qS (qR ?_)
 refine Zy (w0 rfl) rfl (fun id => Z09 id rfl rfl rfl rfl rfl) (fun id1 => ?_)
 refine qA (qN (qS (qR ?_)))
 refine qL 1 Z3 ?_
 refine qL 0 (Zt (Nat.le_of_ble_eq_true rfl)) ?_
 refine qe (Z8 [] rfl rfl rfl (Z8j b hb s) List.nodup_nil) ?_
 refine qe (Z03 rfl rfl) ?_
 refine qA (qN (qE ?_))
 exact Zf rfl (Z7 rfl Z4) (.cons _ (.refl _)) (gvH rfl)
theorem Zh1 (a b : List MRef) (hl : small a.length) (hb : small b.length) : ACalls Tryz.prog 46 [.lst (a.map MRef.cells), .lst (b.map MRef.cells)] [] (Gives (bA (a.all (hasG b)))) := by
 refine Zd (n := 9) Tryz.func46 rfl (by decide +kernel) rfl rfl ?_
 refine qS (qR ?_)
 refine Zy (w0 rfl) rfl (fun id => Z09 id rfl rfl rfl rfl rfl) (fun id1 => ?_)
 refine qA (qN (qS (qR (qM ?_))))
 refine qe (Z1k rfl rfl) ?_
 refine Z16 [_] [] (w0 rfl) rfl rfl rfl rfl (.refl _) (Zdk a hl 85 _ _ (fun s => !hasG b s) (fun s _ => Zfn id1 b hb s)) ?_
 refine qe (Z03 rfl rfl) ?_
 refine qA (qN (qE ?_))
 exact Z0p rfl (Z7 rfl Z4) (gb (by rw [List.all_eq_not_any_not]))
theorem Zdn (a b : List MRef) (hl : small a.length) (hb : small b.length) : ACalls Tryz.prog 40 [.lst (a.map MRef.cells), .lst (b.map MRef.cells)] [] (Gives (bA (decide (a = b)))) := by
 simp only [small] at hl hb
 refine Zd (n := 26) Tryz.func40 rfl (by decide +kernel) rfl rfl ?_
 refine qS (qR (qA (qN (qS (qS (qR (qM ?_)))))))
 refine qe (Zx rfl rfl rfl rfl) ?_
 refine qM ?_
 refine qe (Zx rfl rfl rfl rfl) ?_
 refine qe eI ?_
 refine qN ?_
 refine Z2 rfl ?_ ?_
 ·intro hc
  have hne : ¬ a.length = b.length := by simp at hc; omega
  refine qS (qR (qA (qN (qE ?_))))
  exact Z0p rfl (Z7 rfl Z4) (gb (by symm; simp only [decide_eq_false_iff_not]; intro e; exact hne (by rw [e])))
 ·intro hc
  have hne : a.length = b.length := by simp at hc; omega
  refine qK (qS (qS (qR (qM ?_))))
  refine qe (Zx rfl rfl rfl rfl) ?_
  refine qM (qN (qB ?_))
  refine Zj (α := Nat) (fun i => ⟨[(13, iA i), (12, iA a.length), (0, .lst (a.map MRef.cells)), (1, .lst (b.map MRef.cells))], [], [], 26⟩) (fun i => i ≤ a.length ∧ a.take i = b.take i) (fun i => a.length - i) 0 ⟨Nat.zero_le _, rfl⟩ ?_ ?_
  ·exact Zb [] ⟨rfl, (by show some (iA _) = some (iA _); simp), rfl, rfl, trivial⟩ rfl (by decide) rfl rfl
  rintro i hJ
  refine qS (qR ?_)
  refine qe eI ?_
  refine qN (qS ?_)
  refine Z2 rfl ?_ ?_
  ·intro hc
   have hi : i < a.length := by simpa using hc
   refine qK (qS (qB (qS (qR (qM (qA (qN (qS ?_))))))))
   refine Z0j 9 rfl (by kernel_rfl) ?_
   refine cM2 (cM2 ?_)
   refine ce (Z6 rfl rfl rfl (Z04 (fun _ => rfl)) (by first | omega | (simp only [List.length_map]; omega) | (simp only [List.length_map, List.length_drop]; omega)) (by first | omega | (simp only [List.length_map]; omega) | (simp only [List.length_map, List.length_drop]; omega))) ?_
   refine ce (Zu rfl rfl (Z0a (by first | assumption | omega | (simp only [List.length_drop]; omega))) (Zt (Nat.le_of_ble_eq_true rfl))) ?_
   refine cM2 (cM2 ?_)
   refine ce (Z6 rfl rfl rfl (Z04 (fun _ => rfl)) (by first | omega | (simp only [List.length_map]; omega) | (simp only [List.length_map, List.length_drop]; omega)) (by first | omega | (simp only [List.length_map]; omega) | (simp only [List.length_map, List.length_drop]; omega))) ?_
   refine ce (Zu rfl rfl (Z0a (by first | assumption | omega | (simp only [List.length_drop]; omega))) (Zt (Nat.le_of_ble_eq_true rfl))) ?_
   refine ce (Z43 rfl rfl rfl rfl rfl) ?_
   refine .done (qN ?_)
   refine Z2 rfl ?_ ?_
   ·intro hc
    have hq : ¬ a[i] = b[i]'(by omega) := Z8x (by rw [← Z9p]; exact Z1u hc)
    refine qS (qR (qA (qN (qE ?_))))
    exact Z0p rfl (Z7 rfl Z4) (gb (by symm; simp only [decide_eq_false_iff_not]; intro e; exact hq (by simp only [e])))
   ·intro hc
    have hq : a[i] = b[i]'(by omega) := eqG_iff.1 (by rw [← Z9p]; exact Z2c hc)
    refine qK (qR ?_)
    refine qe (Z9 rfl rfl rfl (Zn (by first | omega | (simp only [List.length_map]; omega)))) ?_
    refine qM (qN ?_)
    refine ⟨i + 1, ⟨hi, by rw [List.take_succ_eq_append_getElem hi, List.take_succ_eq_append_getElem (show i < b.length by omega), hJ.2, hq]⟩, (by omega), ?_⟩
    exact qp [] ⟨rfl, rfl, rfl, rfl, trivial⟩
  ·intro hc
   have hi : ¬ i < a.length := by simpa using hc
   refine qX (qS (qR (qA (qN (qE ?_)))))
   exact Z0p rfl (Z7 rfl Z4) (gb (by symm; simp only [decide_eq_true_eq]; have h := hJ.2; rwa [List.take_of_length_le (by omega), List.take_of_length_le (by omega)] at h))
end Go.Sx
