/- YtecfpjokgjdjcaaRaB3: texts of this claim, one behind the other. -/
import Derived.Deep.AppendSrc
import Derived.Laws.CopyRow
import Derived.WalkSpells
import Derived.Lib.Strings
import Derived.LoopNIn
import Derived.Maps.RangeRun
import Derived.Lib.Bytealg
import Derived.Laws.Externs
import Derived.Test.YtecfpjokgjdjcaaRaB2
set_option linter.unusedVariables false
set_option linter.unusedSimpArgs false
set_option linter.unusedSectionVars false
set_option linter.unnecessarySimpa false
namespace Go.Sx
open Go
theorem Z9t : ∀ x y : List UInt8, (Op.bytesLess x y || x == y) = !Op.bytesLess y x
 | [], [] => rfl
 | [], _ :: _ => by simp [Op.bytesLess]
 | _ :: _, [] => by simp [Op.bytesLess]
 | a :: x, b :: y => by
  have ih := Z9t x y
  by_cases h1 : a < b
  ·have h2 : ¬ b < a := fun h => by simp [UInt8.lt_iff_toNat_lt] at h h1; omega
   have h3 : ¬ b = a := fun e => by subst e; simp at h1
   simp [Op.bytesLess, h1, h2, h3]
  ·by_cases h2 : b < a
   ·have h3 : ¬ a = b := fun e => by subst e; simp at h2
    simp [Op.bytesLess, h1, h2, h3]
   ·have h3 : a = b := UInt8.toNat_inj.1 (by simp [UInt8.lt_iff_toNat_lt] at h1 h2; omega)
    subst h3
    simp [Op.bytesLess] at ih ⊢
    exact ih
theorem Z9e (x y : Str) : (Op.bytesLess x.toList y.toList || x.toList == y.toList) = !ltS y x := Z9t _ _
theorem Zaa {x y : Str} (h : ltS x y = true) : x ≠ y := fun e => by subst e; rw [ltS_ok.irr] at h; cases h
theorem Z5o {x y : Str} (h : ltS x y = false) (k : ltS y x = false) : x = y := by
 have h2 := Z9e x y
 rw [k] at h2
 have h3 : Op.bytesLess x.toList y.toList = false := h
 rw [h3] at h2
 have h4 : beqS x y = true := by unfold beqS; simpa using h2
 exact beqS_iff.1 h4
theorem Z5p {x y z : Str} (h : ltS x y = true) (k : ltS y z = true) : ltS x z = true := by
 cases hx : ltS x z with
 | true => rfl
 | false =>
  exact absurd (ltS_ok.tr _ _ _ hx (ltS_ok.asy _ _ h)) (by rw [k]; exact Bool.noConfusion)
def longS (s : Str) : Bool := decide (s.size > 64)
def allN (g : Nat → Bool) (n : Nat) : Bool := (List.range n).all fun i => Nat.beq i 0 || g i
theorem allN_iff {g : Nat → Bool} {n : Nat} : allN g n = true ↔ ∀ k, k < n → 0 < k → g k = true := by
 unfold allN
 rw [List.all_eq_true]
 constructor
 ·intro h k hk h0
  have := h k (List.mem_range.2 hk)
  cases k with
  | zero => omega
  | succ k => simpa using this
 ·intro h k hk
  cases k with
  | zero => rfl
  | succ k => simp [h (k + 1) (List.mem_range.1 hk) (by omega)]
theorem Zan {g : Nat → Bool} {n i : Nat} (hi : i < n) (h0 : 0 < i) (h : g i = false) : allN g n = false := by
 cases ha : allN g n with
 | false => rfl
 | true => have := allN_iff.1 ha i hi h0; rw [h] at this; cases this
def gS (l : List Str) (k : Nat) : Bool := ltS (l.getD (k - 1) default) (l.getD k default)
def rightL (l : List Str) : Bool := decide (l.length ≤ 1024) && !l.any longS && allN (gS l) l.length
theorem Z7h {l : List Str} (h : allN (gS l) l.length = true) : ∀ j i, i < j → j < l.length → ltS (l.getD i default) (l.getD j default) = true := by
 intro j
 induction j with
 | zero => intro i h1; omega
 | succ j ih =>
  intro i h1 h2
  have hj := allN_iff.1 h (j + 1) h2 (by omega)
  unfold gS at hj
  rw [Nat.add_sub_cancel] at hj
  rcases Nat.lt_succ_iff_lt_or_eq.1 h1 with h3 | h3
  ·exact Z5p (ih i h3 (by omega)) hj
  ·subst h3; exact hj
def findL (l : List Str) (s : Str) : Int := if rightL l then idxFrom (fun x => beqS x s) l 0 else -1
theorem Zhh {l : List Str} {s : Str} {i : Nat} (hi : i < l.length) (h : l.getD i default = s) (hb : ∀ k, k < i → l.getD k default ≠ s) : idxFrom (fun x => beqS x s) l 0 = (i : Int) := by
 rcases Z23 (fun x => beqS x s) l 0 with ⟨h1, h2⟩ | ⟨j, hj, h1, h2, h3⟩
 ·rw [List.find?_eq_none] at h2
  have := h2 _ (List.getElem_mem hi)
  rw [← Z1d hi, h, Z28] at this
  exact absurd rfl this
 ·rw [h1]
  have hjs : l.getD j default = s := by rw [Z1d hj]; exact beqS_iff.1 h3
  rcases Nat.lt_trichotomy j i with e | e | e
  ·exact absurd hjs (hb j e)
  ·subst e; simp
  ·exfalso
   -- the first one that is it
   have key : ∀ (l : List Str) (k : Nat), i < l.length → l.getD i default = s → idxFrom (fun x => beqS x s) l k ≤ (k + i : Nat) := by
    have : ∀ (i : Nat) (l : List Str) (k : Nat), i < l.length → l.getD i default = s → idxFrom (fun x => beqS x s) l k ≤ (k + i : Nat) := by
     intro i
     induction i with
     | zero =>
      intro l k hl hs
      cases l with
      | nil => simp at hl
      | cons x l => simp [List.getD] at hs; subst hs; simp [idxFrom, Z28]
     | succ i ih =>
      intro l k hl hs
      cases l with
      | nil => simp at hl
      | cons x l =>
       simp only [idxFrom]
       split
       ·omega
       ·have := ih l (k + 1) (by simpa using hl) (by simpa [List.getD] using hs)
        omega
    exact this i
   have := key l 0 hi h
   omega
theorem Zei {l : List Str} {s : Str} (hb : ∀ k, k < l.length → l.getD k default ≠ s) : idxFrom (fun x => beqS x s) l 0 = -1 := by
 rcases Z23 (fun x => beqS x s) l 0 with ⟨h1, h2⟩ | ⟨j, hj, h1, h2, h3⟩
 ·exact h1
 ·exact absurd (by rw [Z1d hj]; exact beqS_iff.1 h3) (hb j hj)
theorem Zgi {α : Type} (f : α → Bool) (l : List α) : decide (idxFrom f l 0 ≥ 0) = l.any f := by
 rcases Z23 f l 0 with ⟨h1, h2⟩ | ⟨j, hj, h1, h2, h3⟩
 ·rw [h1]
  rw [List.find?_eq_none] at h2
  have : l.any f = false := by rw [List.any_eq_false]; exact h2
  rw [this]; rfl
 ·rw [h1]
  have : l.any f = true := List.any_eq_true.2 ⟨_, List.getElem_mem hj, h3⟩
  rw [this]; simp
def sameT : List Str → List Str → Bool
 | [], [] => true
 | x :: l, y :: r => beqS x y && sameT l r
 | _, _ => false
theorem sameT_iff : ∀ {a b : List Str}, sameT a b = true ↔ a = b
 | [], [] => by simp [sameT]
 | [], _ :: _ => by simp [sameT]
 | _ :: _, [] => by simp [sameT]
 | x :: l, y :: r => by rw [sameT, Bool.and_eq_true, beqS_iff, sameT_iff, List.cons.injEq]
theorem Zdd {a b : List Str} (h : ¬ a.length = b.length) : sameT a b = false := by
 cases hs : sameT a b with
 | false => rfl
 | true => exact absurd (congrArg List.length (sameT_iff.1 hs)) h
theorem Za7 : ∀ (k i : Nat) (l : List Str), Ins ltS 0 k i l → k ≤ i → i < l.length → SAdj ltS 0 (i + 1) (insK k l)
 | 0, i, l, h, _, _ => h.done (.inl (Nat.le_refl _))
 | k + 1, i, l, h, hk, hl => by
  unfold insK
  cases hlt : ltS (l.getD (k + 1) default) (l.getD k default) with
  | true =>
   rw [if_pos rfl]
   exact Za7 k i _ (h.step ltS_ok (by omega) hk hl hlt) (by omega) (by rw [Z61]; exact hl)
  | false => exact h.done (.inr hlt)
theorem Zaf : ∀ (f i : Nat) (l : List Str), SAdj ltS 0 i l → i + f ≤ l.length → SAdj ltS 0 (i + f) (outF f i l)
 | 0, i, l, h, _ => h
 | f + 1, i, l, h, hl => by
  unfold outF
  rw [show i + (f + 1) = i + 1 + f from by omega]
  exact Zaf f (i + 1) _ (Za7 i i l (Ins.start h) (Nat.le_refl _) (by omega)) (by rw [Z7a]; omega)
theorem Zaj (l : List Str) : SOn ltS 0 (risF l).length (risF l) := by
 have hl : (risF l).length = (dd l).length := (Z46 l).length_eq
 rw [hl]
 unfold risF
 cases h : (dd l).length with
 | zero => intro i j h1 h2 h3; omega
 | succ n =>
  have := Zaf n 1 (dd l) (SAdj.refl1 (by omega)) (by omega)
  rw [show n + 1 - 1 = n from by omega, show n + 1 = 1 + n from by omega]
  exact this.on ltS_ok
theorem SOn.pw {m : List Str} (h : SOn ltS 0 m.length m) : m.Pairwise fun x y => ltS y x = false := by
 rw [List.pairwise_iff_getElem]
 intro i j hi hj hij
 have := h i j (by omega) (by omega) hj
 rwa [Z1d hj, Z1d hi] at this
theorem SOn.uniq {m r : List Str} (hp : m.Perm r) (hm : SOn ltS 0 m.length m) (hr : SOn ltS 0 r.length r) : m = r :=
 List.Perm.eq_of_pairwise (fun a b _ _ h k => Z5o k h) hm.pw hr.pw hp
def makeP (l : List Str) : List Str × Int := if l.any longS || decide (1024 < (dd l).length) then ([], 3) else (risF l, 0)
theorem Zdv {a b : Str} (h : beqS a b = false) : a ≠ b := fun e => by rw [e, Z28] at h; cases h
theorem Zhi {l : List Str} {s : Str} {m : Nat} (h : allN (gS l) l.length = true) (hm : m < l.length) (hs : ltS (l.getD m default) s = true) : ∀ k, k < m + 1 → ltS (l.getD k default) s = true := fun k hk => by
 rcases Nat.lt_succ_iff_lt_or_eq.1 hk with h1 | h1
 ·exact Z5p (Z7h h m k h1 hm) hs
 ·rw [h1]; exact hs
theorem Zhg {l : List Str} {s : Str} {m : Nat} (h : allN (gS l) l.length = true) (hm : m < l.length) (hs : ltS s (l.getD m default) = true) : ∀ k, m ≤ k → k < l.length → ltS s (l.getD k default) = true := fun k hk hl => by
 rcases Nat.lt_or_ge m k with h1 | h1
 ·exact Z5p hs (Z7h h k m h1 hl)
 ·have : k = m := by omega
  rw [this]; exact hs
theorem Z9k {l : List Str} (h1 : l.any longS = false) (h2 : (dd l).length ≤ 1024) : rightL (risF l) = true := by
 have hp := Z46 l
 have hnd : (risF l).Nodup := hp.nodup_iff.2 (Ze3 l)
 have hlen : (risF l).length ≤ 1024 := by rw [hp.length_eq]; exact h2
 have hlong : (risF l).any longS = false := by
  rw [List.any_eq_false] at h1 ⊢
  intro x hx
  exact h1 x ((Zex l x).1 hx)
 unfold rightL
 rw [decide_eq_true hlen, hlong, allN_iff.2]
 ·rfl
 ·intro k hk h0
  unfold gS
  cases hlt : ltS ((risF l).getD (k - 1) default) ((risF l).getD k default) with
  | true => rfl
  | false =>
   exfalso
   have hs := Zaj l (k - 1) k (by omega) (by omega) hk
   have e := Z5o hs hlt
   rw [Z1d hk, Z1d (by omega : k - 1 < (risF l).length)] at e
   exact List.pairwise_iff_getElem.1 hnd (k - 1) k (by omega) hk (by omega) e.symm
theorem Zeq {l : List Str} (h : (makeP l).2 = 0) : (makeP l).1 = risF l ∧ rightL (risF l) = true := by
 unfold makeP at h ⊢
 cases h1 : l.any longS || decide (1024 < (dd l).length) with
 | true => rw [h1] at h; cases h
 | false =>
  rw [Bool.or_eq_false_iff] at h1
  exact ⟨rfl, Z9k h1.1 (by have := h1.2; simp at this; omega)⟩
end Go.Sx
namespace Go.Sx
open Go Go.Proofs
theorem Zg2 (s : Str) : ACalls Try.prog 56 [sA s] [] (Gives (bA (longS s))) := by
 refine Zo (n := 6) Try.func56 rfl (by decide +kernel) rfl rfl ?_
 refine Z6 ?_
 refine Z2 ?_
 refine Z1 (w0 rfl) rfl (Z3 rfl rfl) ?_
 refine Z4 ?_
 refine Z6 ?_
 refine Z2 ?_
 refine Z1 (w0 rfl) rfl (Z0 rfl rfl) ?_
 refine Z1 (w0 rfl) rfl (Z0p rfl rfl rfl rfl) ?_
 refine Z1 (w0 rfl) rfl (Zd rfl rfl rfl rfl) ?_
 refine Z1 (w0 rfl) rfl (Z3 rfl rfl) ?_
 refine Z4 ?_
 refine Zv ?_
 exact Z1o rfl (Zf rfl Zh) (gb (by simp [longS]; omega))
theorem Zh4 (l : List Str) (hl : small l.length) (g : Nat) (caps : List AV) (f : Str → Bool) (hg : ∀ s, s ∈ l → ACalls Try.prog g (sA s :: caps) [] (Gives (bA (f s)))) : ACalls Try.prog 70 [row1 sA l, .fn (.func g) caps] [] (Gives (iA (idxFrom f l 0))) := by
 simp only [small] at hl
 refine Zo (n := 19) Try.func70 rfl (by decide +kernel) rfl rfl ?_
 refine Z6 ?_
 refine Z2 ?_
 refine Z1 (w0 rfl) rfl (Z3 rfl rfl) ?_
 refine Z4 ?_
 refine Z6 ?_
 refine Z6 ?_
 refine Z2 ?_
 refine Z1 (w0 rfl) rfl (Z0 rfl rfl) ?_
 refine Z1 (w0 rfl) rfl (Z0p rfl rfl rfl rfl) ?_
 refine Z1 (w0 rfl) rfl (Z0 rfl rfl) ?_
 refine Z4 ?_
 refine Zm ?_
 refine Z06 (α := Nat) (fun i => ⟨[(8, iA i), (0, row1 sA l), (1, .fn (.func g) caps), (7, iA l.length)], [], [], 19⟩) (fun i => i ≤ l.length ∧ idxFrom f (l.drop i) i = idxFrom f l 0) (fun i => l.length - i) 0 ⟨by omega, rfl⟩ ?_ ?_
 ·exact Zb [] ⟨rfl, rfl, rfl, (by show some (iA _) = some (iA _); simp), trivial⟩ rfl (by decide) rfl rfl
 rintro i hJ
 refine Z6 ?_
 refine Z2 ?_
 refine Z1 (w0 rfl) rfl (Zd rfl rfl rfl rfl) ?_
 refine Z4 ?_
 refine Z6 ?_
 refine Zc rfl ?_ ?_
 ·intro hc
  have hi : i < l.length := by simpa using hc
  refine Zi ?_
  refine Z6 ?_
  refine Zm ?_
  refine Z6 ?_
  refine Z2 ?_
  refine Z1 (w0 rfl) rfl (Z0 rfl rfl) ?_
  refine Z1 (w0 rfl) rfl (Z3 rfl rfl) ?_
  refine Z4 ?_
  refine Z6 ?_
  refine Z2 ?_
  refine Z1 (w0 rfl) rfl (Z0 rfl rfl) ?_
  refine Z1 (w0 rfl) rfl (Z0 rfl rfl) ?_
  refine Z1 (w0 rfl) rfl (Z0 rfl rfl) ?_
  refine Z1 (w0 rfl) rfl (Z05 rfl rfl rfl (Z0y (fun _ => rfl)) (by first | omega | (simp only [List.length_map]; omega) | (simp only [List.length_map, List.length_drop]; omega)) (by first | omega | (simp only [List.length_map]; omega) | (simp only [List.length_map, List.length_drop]; omega))) ?_
  refine Z1 (w0 rfl) rfl (Z0w rfl rfl (Z3j (by first | assumption | omega | (simp only [List.length_drop]; omega))) Zp) ?_
  refine Z1 (w0 rfl) rfl (Zq [] rfl rfl rfl (hg _ (List.getElem_mem hi)) List.nodup_nil) ?_
  refine Z4 ?_
  refine Zc rfl ?_ ?_
  ·intro hc
   have hc : f (l[i]) = true := hc
   refine Z6 ?_
   refine Z2 ?_
   refine Z1 (w0 rfl) rfl (Z0 rfl rfl) ?_
   refine Z1 (w0 rfl) rfl (Z3 rfl rfl) ?_
   refine Z4 ?_
   refine Zv ?_
   exact Z1o rfl (Zf rfl Zh) (gi (by rw [← hJ.2, Z30 hi]; simp [idxFrom, hc]))
  ·intro hc
   have hc : f (l[i]) = false := hc
   refine Zi ?_
   refine Z2 ?_
   refine Z1 (w0 rfl) rfl (Z7 rfl rfl rfl (Za (by first | omega | (simp only [List.length_map]; omega)))) ?_
   refine Z1 (w0 rfl) rfl (Z0 rfl rfl) ?_
   refine Z4 ?_
   refine ⟨i + 1, ⟨by omega, by rw [← hJ.2, Z30 hi]; simp [idxFrom, hc]⟩, (by omega), ?_⟩
   exact Zb [] ⟨rfl, rfl, rfl, rfl, trivial⟩ rfl (by decide) rfl rfl
 ·intro hc
  have hi : ¬ i < l.length := by simpa using hc
  refine Z02 ?_
  refine Z6 ?_
  refine Z2 ?_
  refine Z1 (w0 rfl) rfl (Z3 rfl rfl) ?_
  refine Z4 ?_
  refine Zv ?_
  exact Z1o rfl (Zf rfl Zh) (gi (by rw [← hJ.2, Z74 hi]; rfl))
theorem Zfy (l : List Str) (hl : small l.length) (g : Nat) (caps : List AV) (f : Str → Bool) (hg : ∀ s, s ∈ l → ACalls Try.prog g (sA s :: caps) [] (Gives (bA (f s)))) : ACalls Try.prog 55 [row1 sA l, .fn (.func g) caps] [] (Gives (bA (l.any f))) := by
 refine Zo (n := 9) Try.func55 rfl (by decide +kernel) rfl rfl ?_
 refine Z6 ?_
 refine Z2 ?_
 refine Z1 (w0 rfl) rfl (Z3 rfl rfl) ?_
 refine Z4 ?_
 refine Z6 ?_
 refine Z2 ?_
 refine Z1 (w0 rfl) rfl (Z0 rfl rfl) ?_
 refine Z1 (w0 rfl) rfl (Z0 rfl rfl) ?_
 refine Z1 (w0 rfl) rfl (Zq [] rfl rfl rfl (Zh4 l hl g caps f hg) List.nodup_nil) ?_
 refine Z1 (w0 rfl) rfl (Zd rfl rfl rfl rfl) ?_
 refine Z1 (w0 rfl) rfl (Z3 rfl rfl) ?_
 refine Z4 ?_
 refine Zv ?_
 exact Z1o rfl (Zf rfl Zh) (gb (Zgi f l))
theorem Zbx (l : List Str) (hl : small l.length) : ACalls Try.prog 30 [row1 sA l] [] (Gives (bA (!l.any longS))) := by
 refine Zo (n := 6) Try.func30 rfl (by decide +kernel) rfl rfl ?_
 refine Z6 ?_
 refine Z2 ?_
 refine Z1 (w0 rfl) rfl (Z3 rfl rfl) ?_
 refine Z4 ?_
 refine Z6 ?_
 refine Z2 ?_
 refine Z1 (w0 rfl) rfl (Z0 rfl rfl) ?_
 refine Z1 (w0 rfl) rfl (Zq [] rfl rfl rfl (Zfy l hl 56 [] longS (fun s _ => Zg2 s)) List.nodup_nil) ?_
 refine Z1 (w0 rfl) rfl (Z0i rfl rfl) ?_
 refine Z1 (w0 rfl) rfl (Z3 rfl rfl) ?_
 refine Z4 ?_
 refine Zv ?_
 exact Z1o rfl (Zf rfl Zh) (gv rfl)
theorem Z71 (l : List Str) (hl : small l.length) : ACalls Try.prog 27 [row1 sA l] [] (Gives (bA (rightL l))) := by
 have hl2 := hl
 simp only [small] at hl2
 refine Zo (n := 32) Try.func27 rfl (by decide +kernel) rfl rfl ?_
 refine Z6 ?_
 refine Z2 ?_
 refine Z1 (w0 rfl) rfl (Z3 rfl rfl) ?_
 refine Z4 ?_
 refine Z6 ?_
 refine Z6 ?_
 refine Z2 ?_
 refine Z1 (w0 rfl) rfl (Z0 rfl rfl) ?_
 refine Z1 (w0 rfl) rfl (Z0p rfl rfl rfl rfl) ?_
 refine Z1 (w0 rfl) rfl (Zd rfl rfl rfl rfl) ?_
 refine Z1 (w0 rfl) rfl (Z0 rfl rfl) ?_
 refine Z0k (wF rfl rfl rfl rfl) rfl (fun hg => (Z0 rfl rfl)) ?_
 refine Z0k (wF rfl rfl rfl rfl) rfl (fun hg => (Zq [] rfl rfl (Zl (Z04 hg rfl) Z0c) (Zbx l hl) List.nodup_nil)) ?_
 refine Z0k (wF rfl rfl rfl rfl) rfl (fun hg => (Z0i rfl (Z04 hg rfl))) ?_
 refine Z1 (w0 rfl) rfl (Zc9 rfl rfl rfl (fun h => by rw [h]; rfl)) ?_
 refine Z4 ?_
 refine Zc rfl ?_ ?_
 ·intro hc
  have hr : rightL l = false := by cases hr : rightL l with | false => rfl | true => (have hr2 := hr; unfold rightL at hr2; simp only [Bool.and_eq_true, decide_eq_true_eq] at hr2; rcases Bool.or_eq_true_iff.1 hc with h | h; simp at h; omega; rw [hr2.1.2] at h; cases h)
  refine Z6 ?_
  refine Z2 ?_
  refine Z1 (w0 rfl) rfl (Z3 rfl rfl) ?_
  refine Z4 ?_
  refine Zv ?_
  exact Z1o rfl (Zf rfl Zh) (gb hr.symm)
 ·intro hc
  have h1 : l.length ≤ 1024 := by have := (Bool.or_eq_false_iff.1 hc).1; simp at this; omega
  have h2 : l.any longS = false := by have := (Bool.or_eq_false_iff.1 hc).2; simpa using this
  refine Zi ?_
  refine Z6 ?_
  refine Z6 ?_
  refine Z2 ?_
  refine Z1 (w0 rfl) rfl (Z0 rfl rfl) ?_
  refine Z1 (w0 rfl) rfl (Z0p rfl rfl rfl rfl) ?_
  refine Z1 (w0 rfl) rfl (Z0 rfl rfl) ?_
  refine Z4 ?_
  refine Zm ?_
  refine Z06 (α := Nat) (fun i => ⟨[(14, iA i), (0, row1 sA l), (13, iA l.length)], [], [], 32⟩) (fun i => i ≤ l.length ∧ ∀ k, k < i → 0 < k → gS l k = true) (fun i => l.length - i) 0 ⟨by omega, fun k h1 h2 => by omega⟩ ?_ ?_
  ·exact Zb [] ⟨rfl, rfl, (by show some (iA _) = some (iA _); simp), trivial⟩ rfl (by decide) rfl rfl
  rintro i hJ
  refine Z6 ?_
  refine Z2 ?_
  refine Z1 (w0 rfl) rfl (Zd rfl rfl rfl rfl) ?_
  refine Z4 ?_
  refine Z6 ?_
  refine Zc rfl ?_ ?_
  ·intro hc
   have hi : i < l.length := by simpa using hc
   refine Zi ?_
   refine Z6 ?_
   refine Zm ?_
   refine Z6 ?_
   refine Z2 ?_
   refine Z1 (w0 rfl) rfl (Z0 rfl rfl) ?_
   refine Z1 (w0 rfl) rfl (Z3 rfl rfl) ?_
   refine Z4 ?_
   refine Z6 ?_
   refine Z0e [0, 1, 3, 7, 7, 31, 63, 7, 7, 263, 903, 1927, 4095, 8191] 14 rfl (by kernel_rfl) ?_
   refine Z9 (w0 rfl) rfl (Z0 rfl rfl) ?_
   refine Z9 (w0 rfl) rfl (Zd rfl rfl rfl rfl) ?_
   refine Z9 (w0 rfl) rfl (Z0 rfl rfl) ?_
   refine Zg (wT rfl rfl rfl rfl) rfl (fun hg => (Z0 rfl rfl)) ?_
   refine Zg (wT rfl rfl rfl rfl) rfl (fun hg => (Z0 rfl rfl)) ?_
   refine Zg (wT rfl rfl rfl rfl) rfl (fun hg => (Z05 rfl (Z04 hg rfl) (Z04 hg rfl) (Z0y (fun _ => rfl)) (by (try simp at hg) <;> first | omega | (simp only [List.length_map]; omega) | (simp only [List.length_map, List.length_drop]; omega)) (by (try simp at hg) <;> first | omega | (simp only [List.length_map]; omega) | (simp only [List.length_map, List.length_drop]; omega)))) ?_
   refine Zg (wT rfl rfl rfl rfl) rfl (fun hg => (Z0w rfl (Z04 hg rfl) (Z4x (by (try simp at hg) <;> first | assumption | omega | (simp only [List.length_drop]; omega))) Zp)) ?_
   refine Zg (wT rfl rfl rfl rfl) rfl (fun hg => (Z0 rfl rfl)) ?_
   refine Zg (wT rfl rfl rfl rfl) rfl (fun hg => (Z0 rfl rfl)) ?_
   refine Zg (wT rfl rfl rfl rfl) rfl (fun hg => (Z7 rfl (Z04 hg rfl) rfl (Ze (by first | omega | (simp only [List.length_map]; omega))))) ?_
   refine Zg (wT rfl rfl rfl rfl) rfl (fun hg => (Z05 rfl (Z04 hg rfl) (Z04 hg rfl) (Z0y (fun _ => rfl)) (by (try simp at hg) <;> first | omega | (simp only [List.length_map]; omega) | (simp only [List.length_map, List.length_drop]; omega)) (by (try simp at hg) <;> first | omega | (simp only [List.length_map]; omega) | (simp only [List.length_map, List.length_drop]; omega)))) ?_
   refine Zg (wT rfl rfl rfl rfl) rfl (fun hg => (Z0w rfl (Z04 hg rfl) (Z4x (by (try simp at hg) <;> first | assumption | omega | (simp only [List.length_drop]; omega))) Zp)) ?_
   refine Zg (wT rfl rfl rfl rfl) rfl (fun hg => (Z0m rfl (Z04 hg rfl) (Z04 hg rfl) rfl)) ?_
   refine Z9 (w0 rfl) rfl (Z0g rfl rfl rfl (fun h => h)) ?_
   refine .done ?_
   refine Z4 ?_
   refine Zc rfl ?_ ?_
   ·intro hc
    have h0 : 0 < i := by have := Z6u hc; simpa using this
    have e1 : ((i : Int) - 1).toNat = i - 1 := by omega
    have hle := Z69 hc
    rw [e1] at hle
    have hg : gS l i = false := Z6l ((Z9e _ _).symm.trans hle)
    have hr : rightL l = false := by unfold rightL; rw [Zan hi h0 hg, Bool.and_false]
    refine Z6 ?_
    refine Z2 ?_
    refine Z1 (w0 rfl) rfl (Z3 rfl rfl) ?_
    refine Z4 ?_
    refine Zv ?_
    exact Z1o rfl (Zf rfl Zh) (gb hr.symm)
   ·intro hc
    have hgk : 0 < i → gS l i = true := fun h0 => by have e1 : ((i : Int) - 1).toNat = i - 1 := (by omega); rw [e1] at hc; rcases Bool.and_eq_false_iff.1 hc with h | h; simp at h; omega; exact Z9g ((Z9e _ _).symm.trans h)
    refine Zi ?_
    refine Z2 ?_
    refine Z1 (w0 rfl) rfl (Z7 rfl rfl rfl (Za (by first | omega | (simp only [List.length_map]; omega)))) ?_
    refine Z1 (w0 rfl) rfl (Z0 rfl rfl) ?_
    refine Z4 ?_
    refine ⟨i + 1, ⟨by omega, fun k h1 h2 => by rcases Nat.lt_succ_iff_lt_or_eq.1 h1 with h | h; exact hJ.2 k h h2; subst h; exact hgk h2⟩, (by omega), ?_⟩
    exact Zb [] ⟨rfl, rfl, rfl, trivial⟩ rfl (by decide) rfl rfl
  ·intro hc
   have hi : ¬ i < l.length := by simpa using hc
   have hr : rightL l = true := by unfold rightL; rw [decide_eq_true h1, h2, allN_iff.2 (fun k a b => hJ.2 k (by omega) b)]; rfl
   refine Z02 ?_
   refine Z6 ?_
   refine Z2 ?_
   refine Z1 (w0 rfl) rfl (Z3 rfl rfl) ?_
   refine Z4 ?_
   refine Zv ?_
   exact Z1o rfl (Zf rfl Zh) (gb hr.symm)
theorem Zbw (a b : List Str) (ha : small a.length) : ACalls Try.prog 21 [row1 sA a, row1 sA b] [] (Gives (bA (sameT a b))) := by
 simp only [small] at ha
 refine Zo (n := 26) Try.func21 rfl (by decide +kernel) rfl rfl ?_
 refine Z6 ?_
 refine Z2 ?_
 refine Z1 (w0 rfl) rfl (Z3 rfl rfl) ?_
 refine Z4 ?_
 refine Z6 ?_
 refine Z6 ?_
 refine Z2 ?_
 refine Z1 (w0 rfl) rfl (Z0 rfl rfl) ?_
 refine Z1 (w0 rfl) rfl (Z0p rfl rfl rfl rfl) ?_
 refine Z1 (w0 rfl) rfl (Z0 rfl rfl) ?_
 refine Z1 (w0 rfl) rfl (Z0p rfl rfl rfl rfl) ?_
 refine Z1 (w0 rfl) rfl (Zd rfl rfl rfl rfl) ?_
 refine Z4 ?_
 refine Zc rfl ?_ ?_
 ·intro hc
  have hc : ¬ a.length = b.length := by simp at hc; omega
  refine Z6 ?_
  refine Z2 ?_
  refine Z1 (w0 rfl) rfl (Z3 rfl rfl) ?_
  refine Z4 ?_
  refine Zv ?_
  exact Z1o rfl (Zf rfl Zh) (gb (Zdd hc).symm)
 ·intro hc
  have he : a.length = b.length := by simp at hc; omega
  refine Zi ?_
  refine Z6 ?_
  refine Z6 ?_
  refine Z2 ?_
  refine Z1 (w0 rfl) rfl (Z3 rfl rfl) ?_
  refine Z4 ?_
  refine Zm ?_
  refine Z06 (α := Nat) (fun i => ⟨[(5, iA i), (0, row1 sA a), (1, row1 sA b)], [], [], 26⟩) (fun i => i ≤ a.length ∧ sameT (a.drop i) (b.drop i) = sameT a b) (fun i => a.length - i) 0 ⟨by omega, rfl⟩ ?_ ?_
  ·exact Zb [] ⟨rfl, rfl, rfl, trivial⟩ rfl (by decide) rfl rfl
  rintro i hJ
  refine Z6 ?_
  refine Z6 ?_
  refine Z2 ?_
  refine Z1 (w0 rfl) rfl (Z0 rfl rfl) ?_
  refine Z1 (w0 rfl) rfl (Z0 rfl rfl) ?_
  refine Z1 (w0 rfl) rfl (Z0p rfl rfl rfl rfl) ?_
  refine Z1 (w0 rfl) rfl (Zd rfl rfl rfl rfl) ?_
  refine Z4 ?_
  refine Zc rfl ?_ ?_
  ·intro hc
   have hi : i < a.length := by simpa using hc
   have hi' : i < b.length := by omega
   refine Zi ?_
   refine Z6 ?_
   refine Zm ?_
   refine Z6 ?_
   refine Z14 9 rfl (by kernel_rfl) ?_
   refine Z9 (w0 rfl) rfl (Z0 rfl rfl) ?_
   refine Z9 (w0 rfl) rfl (Z0 rfl rfl) ?_
   refine Z9 (w0 rfl) rfl (Z05 rfl rfl rfl (Z0y (fun _ => rfl)) (by first | omega | (simp only [List.length_map]; omega) | (simp only [List.length_map, List.length_drop]; omega)) (by first | omega | (simp only [List.length_map]; omega) | (simp only [List.length_map, List.length_drop]; omega))) ?_
   refine Z9 (w0 rfl) rfl (Z0w rfl rfl (Z3j (by first | assumption | omega | (simp only [List.length_drop]; omega))) Zp) ?_
   refine Z9 (w0 rfl) rfl (Z0 rfl rfl) ?_
   refine Z9 (w0 rfl) rfl (Z0 rfl rfl) ?_
   refine Z9 (w0 rfl) rfl (Z05 rfl rfl rfl (Z0y (fun _ => rfl)) (by first | omega | (simp only [List.length_map]; omega) | (simp only [List.length_map, List.length_drop]; omega)) (by first | omega | (simp only [List.length_map]; omega) | (simp only [List.length_map, List.length_drop]; omega))) ?_
   refine Z9 (w0 rfl) rfl (Z0w rfl rfl (Z3j (by first | assumption | omega | (simp only [List.length_drop]; omega))) Zp) ?_
   refine Z9 (w0 rfl) rfl (Z0m rfl rfl rfl rfl) ?_
   refine .done ?_
   refine Z4 ?_
   refine Zc rfl ?_ ?_
   ·intro hc
    have hc : beqS (a[i]) (b[i]) = false := Z6l hc
    refine Z6 ?_
    refine Z2 ?_
    refine Z1 (w0 rfl) rfl (Z3 rfl rfl) ?_
    refine Z4 ?_
    refine Zv ?_
    exact Z1o rfl (Zf rfl Zh) (gb (by rw [← hJ.2, Z30 hi, Z30 hi']; simp [sameT, hc]))
   ·intro hc
    have hc : beqS (a[i]) (b[i]) = true := Z9g hc
    refine Zi ?_
    refine Z2 ?_
    refine Z1 (w0 rfl) rfl (Z0 rfl rfl) ?_
    refine Z1 (w0 rfl) rfl (Z7 rfl rfl rfl (Za (by first | omega | (simp only [List.length_map]; omega)))) ?_
    refine Z1 (w0 rfl) rfl (Z3 rfl rfl) ?_
    refine Z4 ?_
    refine ⟨i + 1, ⟨by omega, by rw [← hJ.2, Z30 hi, Z30 hi']; simp [sameT, hc]⟩, (by omega), ?_⟩
    exact Zb [] ⟨rfl, rfl, rfl, trivial⟩ rfl (by decide) rfl rfl
  ·intro hc
   have hi : ¬ i < a.length := by simpa using hc
   have hi' : ¬ i < b.length := by omega
   refine Z02 ?_
   refine Z6 ?_
   refine Z2 ?_
   refine Z1 (w0 rfl) rfl (Z3 rfl rfl) ?_
   refine Z4 ?_
   refine Zv ?_
   exact Z1o rfl (Zf rfl Zh) (gb (by rw [← hJ.2, Z74 hi, Z74 hi']; rfl))
theorem Zi8 (l : List Str) (hl : small l.length) : ACalls Try.prog 15 [row1 sA l] [] (Gives (row1 sA (l.take 1100))) := by
 simp only [small] at hl
 refine Zo (n := 9) Try.func15 rfl (by decide +kernel) rfl rfl ?_
 refine Z6 ?_
 refine Z2 ?_
 refine Z1 (w0 rfl) rfl (Z3 rfl rfl) ?_
 refine Z4 ?_
 refine Z6 ?_
 refine Z6 ?_
 refine Z2 ?_
 refine Z1 (w0 rfl) rfl (Z0 rfl rfl) ?_
 refine Z1 (w0 rfl) rfl (Z0p rfl rfl rfl rfl) ?_
 refine Z1 (w0 rfl) rfl (Zd rfl rfl rfl rfl) ?_
 refine Z4 ?_
 refine Zc rfl ?_ ?_
 ·intro hc
  have h1 : 1100 < l.length := by simp at hc; omega
  refine Z2 ?_
  refine Z1 (w0 rfl) rfl (Z0 rfl rfl) ?_
  refine Z1 (w0 rfl) rfl (Z1w rfl rfl rfl (by first | omega | (simp only [List.length_map]; omega) | (simp only [List.length_map, List.length_drop]; omega)) (by first | omega | (simp only [List.length_map]; omega) | (simp only [List.length_map, List.length_drop]; omega))) ?_
  refine Z1 (w0 rfl) rfl (Z3 rfl rfl) ?_
  refine Z4 ?_
  refine Z6 ?_
  refine Z2 ?_
  refine Z1 (w0 rfl) rfl (Z0 rfl rfl) ?_
  refine Z1 (w0 rfl) rfl (Z3 rfl rfl) ?_
  refine Z4 ?_
  refine Zv ?_
  exact Z1o rfl (Zf rfl Zh) (gvr (by first | (rw [List.take_of_length_le (by omega : l.length ≤ 1100)]; rfl) | (show AV.lst ((l.map fun x => [sA x]).take 1100) = _; rw [← List.map_take]; rfl)))
 ·intro hc
  have h1 : ¬ 1100 < l.length := by simp at hc; omega
  refine Zi ?_
  refine Z6 ?_
  refine Z2 ?_
  refine Z1 (w0 rfl) rfl (Z0 rfl rfl) ?_
  refine Z1 (w0 rfl) rfl (Z3 rfl rfl) ?_
  refine Z4 ?_
  refine Zv ?_
  exact Z1o rfl (Zf rfl Zh) (gvr (by first | (rw [List.take_of_length_le (by omega : l.length ≤ 1100)]; rfl) | (show AV.lst ((l.map fun x => [sA x]).take 1100) = _; rw [← List.map_take]; rfl)))
theorem Zfz (l : List Str) (hl : small l.length) (s : Str) : ACalls Try.prog 13 [row1 sA l, sA s] [] (Gives (iA (findL l s))) := by
 have hl2 := hl
 simp only [small] at hl2
 refine Zo (n := 51) Try.func13 rfl (by decide +kernel) rfl rfl ?_
 refine Z6 ?_
 refine Z2 ?_
 refine Z1 (w0 rfl) rfl (Z3 rfl rfl) ?_
 refine Z4 ?_
 refine Zbm ?_
 refine Z6 ?_
 refine Z6 ?_
 refine Z2 ?_
 refine Z1 (w0 rfl) rfl (Z0 rfl rfl) ?_
 refine Z1 (w0 rfl) rfl (Zq [] rfl rfl rfl (Z71 l hl) List.nodup_nil) ?_
 refine Z1 (w0 rfl) rfl (Z0i rfl rfl) ?_
 refine Z4 ?_
 refine Zc rfl ?_ ?_
 ·intro hc
  have hr : rightL l = false := Z6l hc
  refine Z6 ?_
  refine Z2 ?_
  refine Z1 (w0 rfl) rfl (Z3 rfl rfl) ?_
  refine Z4 ?_
  refine Zv ?_
  exact Z1o rfl (Zf rfl Zh) (gi (by unfold findL; rw [hr]; rfl))
 ·intro hc
  have hr : rightL l = true := Z9g hc
  have hal : allN (gS l) l.length = true := by have := hr; unfold rightL at this; exact Z69 this
  refine Zi ?_
  refine Z6 ?_
  refine Z2 ?_
  refine Z1 (w0 rfl) rfl (Z0 rfl rfl) ?_
  refine Z1 (w0 rfl) rfl (Z0p rfl rfl rfl rfl) ?_
  refine Z1 (w0 rfl) rfl (Z3 rfl rfl) ?_
  refine Z1 (w0 rfl) rfl (Z3 rfl rfl) ?_
  refine Z4 ?_
  refine Z6 ?_
  refine Zbl ?_
  refine Z6 ?_
  refine Zm ?_
  refine Z06 (α := Nat × Nat) (fun x => ⟨[(5, iA x.1), (6, iA x.2), (0, row1 sA l), (1, sA s)], [], [], 51⟩) (fun x => x.1 ≤ x.2 ∧ x.2 ≤ l.length ∧ (∀ k, k < x.1 → ltS (l.getD k default) s = true) ∧ (∀ k, x.2 ≤ k → k < l.length → ltS s (l.getD k default) = true)) (fun x => x.2 - x.1) (0, l.length) ⟨(by (try simp only) <;> omega), Nat.le_refl _, fun k h => absurd h (Nat.not_lt_zero _), fun k h1 h2 => absurd h2 (Nat.not_lt.2 h1)⟩ ?_ ?_
  ·exact Zb [] ⟨rfl, (by show some (iA _) = some (iA _); simp), rfl, rfl, trivial⟩ rfl (by decide) rfl rfl
  rintro x hJ
  refine Z6 ?_
  refine Z6 ?_
  refine Z2 ?_
  refine Z1 (w0 rfl) rfl (Z0 rfl rfl) ?_
  refine Z1 (w0 rfl) rfl (Z0 rfl rfl) ?_
  refine Z1 (w0 rfl) rfl (Zd rfl rfl rfl rfl) ?_
  refine Z4 ?_
  refine Zc rfl ?_ ?_
  ·intro hc
   have hlh : x.1 < x.2 := by simpa using hc
   have hmlt : ((x.1 + x.2) / 2) < l.length := by omega
   refine Zi ?_
   refine Zm ?_
   refine Z6 ?_
   refine Z2 ?_
   refine Z1 (w0 rfl) rfl (Z0 rfl rfl) ?_
   refine Z1 (w0 rfl) rfl (Z0 rfl rfl) ?_
   refine Z1 (w0 rfl) rfl (Z7 rfl rfl rfl (Za (by first | omega | (simp only [List.length_map]; omega)))) ?_
   refine Z1 (w0 rfl) rfl (Zy (y := iA (((x.1 + x.2) / 2) : Nat)) (Z17 rfl rfl rfl (by decide) (by (exact Z10 (x.1 + x.2) 2 (by omega)))) (congrArg iA (Z3m (x.1 + x.2) 2))) ?_
   refine Z1 (w0 rfl) rfl (Z3 rfl rfl) ?_
   refine Z4 ?_
   refine Zm ?_
   refine Z6 ?_
   refine Z2 ?_
   refine Z1 (w0 rfl) rfl (Z0 rfl rfl) ?_
   refine Z1 (w0 rfl) rfl (Z0 rfl rfl) ?_
   refine Z1 (w0 rfl) rfl (Z05 rfl rfl rfl (Z0y (fun _ => rfl)) (by first | omega | (simp only [List.length_map]; omega) | (simp only [List.length_map, List.length_drop]; omega)) (by first | omega | (simp only [List.length_map]; omega) | (simp only [List.length_map, List.length_drop]; omega))) ?_
   refine Z1 (w0 rfl) rfl (Z0w rfl rfl (Z3j (by first | assumption | omega | (simp only [List.length_drop]; omega))) Zp) ?_
   refine Z1 (w0 rfl) rfl (Z0 rfl rfl) ?_
   refine Z1 (w0 rfl) rfl (Z0m rfl rfl rfl rfl) ?_
   refine Z1 (w0 rfl) rfl (Z3 rfl rfl) ?_
   refine Z4 ?_
   refine Zc rfl ?_ ?_
   ·intro hc
    have hmid : l.getD ((x.1 + x.2) / 2) default = s := by rw [Z1d hmlt]; exact beqS_iff.1 hc
    refine Z6 ?_
    refine Z2 ?_
    refine Z1 (w0 rfl) rfl (Z0 rfl rfl) ?_
    refine Z1 (w0 rfl) rfl (Z3 rfl rfl) ?_
    refine Z4 ?_
    refine Z02 ?_
    refine Z6 ?_
    refine Z6 ?_
    refine Z2 ?_
    refine Z1 (w0 rfl) rfl (Z0 rfl rfl) ?_
    refine Z1 (w0 rfl) rfl (Z0 rfl rfl) ?_
    refine Z1 (w0 rfl) rfl (Z0p rfl rfl rfl rfl) ?_
    refine Z1 (w0 rfl) rfl (Zd rfl rfl rfl rfl) ?_
    refine Z1 (w0 rfl) rfl (Z0 rfl rfl) ?_
    refine Z0k (wT rfl rfl rfl rfl) rfl (fun hg => (Z0 rfl rfl)) ?_
    refine Z0k (wT rfl rfl rfl rfl) rfl (fun hg => (Z0 rfl rfl)) ?_
    refine Z0k (wT rfl rfl rfl rfl) rfl (fun hg => (Z05 rfl (Z04 hg rfl) (Z04 hg rfl) (Z0y (fun _ => rfl)) (by (try simp at hg) <;> first | omega | (simp only [List.length_map]; omega) | (simp only [List.length_map, List.length_drop]; omega)) (by (try simp at hg) <;> first | omega | (simp only [List.length_map]; omega) | (simp only [List.length_map, List.length_drop]; omega)))) ?_
    refine Z0k (wT rfl rfl rfl rfl) rfl (fun hg => (Z0w rfl (Z04 hg rfl) (Z4x (by (try simp at hg) <;> first | assumption | omega | (simp only [List.length_drop]; omega))) Zp)) ?_
    refine Z0k (wT rfl rfl rfl rfl) rfl (fun hg => (Z0 rfl rfl)) ?_
    refine Z0k (wT rfl rfl rfl rfl) rfl (fun hg => (Z0m rfl (Z04 hg rfl) (Z04 hg rfl) rfl)) ?_
    refine Z1 (w0 rfl) rfl (Z0g rfl rfl rfl (fun h => h)) ?_
    refine Z4 ?_
    refine Zc rfl ?_ ?_
    ·intro hc
     refine Z6 ?_
     refine Z2 ?_
     refine Z1 (w0 rfl) rfl (Z0 rfl rfl) ?_
     refine Z1 (w0 rfl) rfl (Z3 rfl rfl) ?_
     refine Z4 ?_
     refine Zv ?_
     exact Z1o rfl (Zf rfl Zh) (gi (by unfold findL; rw [hr]; exact (Zhh hmlt hmid (fun k hk e => Zaa (Z7h hal _ _ hk hmlt) (e.trans hmid.symm))).symm))
    ·intro hc
     refine Zi ?_
     refine Z6 ?_
     refine Z2 ?_
     refine Z1 (w0 rfl) rfl (Z3 rfl rfl) ?_
     refine Z4 ?_
     refine Zv ?_
     exact Z1o rfl (Zf rfl Zh) (gi (by exfalso; rcases Bool.and_eq_false_iff.1 hc with h | h; simp at h; omega; have h2 : beqS (l.getD ((x.1 + x.2) / 2) default) s = false := h; rw [hmid, Z28] at h2; cases h2))
   ·intro hc
    have hne : l.getD ((x.1 + x.2) / 2) default ≠ s := by rw [Z1d hmlt]; exact Zdv hc
    refine Z6 ?_
    refine Z2 ?_
    refine Z1 (w0 rfl) rfl (Z0 rfl rfl) ?_
    refine Z1 (w0 rfl) rfl (Z0 rfl rfl) ?_
    refine Z1 (w0 rfl) rfl (Z05 rfl rfl rfl (Z0y (fun _ => rfl)) (by first | omega | (simp only [List.length_map]; omega) | (simp only [List.length_map, List.length_drop]; omega)) (by first | omega | (simp only [List.length_map]; omega) | (simp only [List.length_map, List.length_drop]; omega))) ?_
    refine Z1 (w0 rfl) rfl (Z0w rfl rfl (Z3j (by first | assumption | omega | (simp only [List.length_drop]; omega))) Zp) ?_
    refine Z1 (w0 rfl) rfl (Z0 rfl rfl) ?_
    refine Z1 (w0 rfl) rfl (Z0m rfl rfl rfl rfl) ?_
    refine Z1 (w0 rfl) rfl (Z3 rfl rfl) ?_
    refine Z4 ?_
    refine Zc rfl ?_ ?_
    ·intro hc
     have hlt : ltS (l.getD ((x.1 + x.2) / 2) default) s = true := by rw [Z1d hmlt]; exact hc
     refine Z2 ?_
     refine Z1 (w0 rfl) rfl (Z0 rfl rfl) ?_
     refine Z1 (w0 rfl) rfl (Z7 rfl rfl rfl (Za (by first | omega | (simp only [List.length_map]; omega)))) ?_
     refine Z1 (w0 rfl) rfl (Z3 rfl rfl) ?_
     refine Z4 ?_
     refine ⟨(((x.1 + x.2) / 2) + 1, x.2), ⟨(by (try simp only) <;> omega), (by (try simp only) <;> omega), fun k h => Zhi hal hmlt hlt k (by (try simp only at h); omega), hJ.2.2.2⟩, (by (try simp only) <;> omega), ?_⟩
     exact Zb [] ⟨rfl, rfl, rfl, rfl, trivial⟩ rfl (by decide) rfl rfl
    ·intro hc
     have hgt : ltS s (l.getD ((x.1 + x.2) / 2) default) = true := by cases h : ltS s (l.getD ((x.1 + x.2) / 2) default) with | true => rfl | false => exact absurd (Z5o (by rw [Z1d hmlt]; exact hc) h) hne
     refine Z2 ?_
     refine Z1 (w0 rfl) rfl (Z0 rfl rfl) ?_
     refine Z1 (w0 rfl) rfl (Z3 rfl rfl) ?_
     refine Z4 ?_
     refine ⟨(x.1, ((x.1 + x.2) / 2)), ⟨(by (try simp only) <;> omega), (by (try simp only) <;> omega), hJ.2.2.1, fun k h1 h2 => Zhg hal hmlt hgt k h1 h2⟩, (by (try simp only) <;> omega), ?_⟩
     exact Zb [] ⟨rfl, rfl, rfl, rfl, trivial⟩ rfl (by decide) rfl rfl
  ·intro hc
   have hlh : ¬ x.1 < x.2 := by simpa using hc
   refine Z02 ?_
   refine Z6 ?_
   refine Z6 ?_
   refine Z2 ?_
   refine Z1 (w0 rfl) rfl (Z0 rfl rfl) ?_
   refine Z1 (w0 rfl) rfl (Z0 rfl rfl) ?_
   refine Z1 (w0 rfl) rfl (Z0p rfl rfl rfl rfl) ?_
   refine Z1 (w0 rfl) rfl (Zd rfl rfl rfl rfl) ?_
   refine Z1 (w0 rfl) rfl (Z0 rfl rfl) ?_
   refine Z0k (wT rfl rfl rfl rfl) rfl (fun hg => (Z0 rfl rfl)) ?_
   refine Z0k (wT rfl rfl rfl rfl) rfl (fun hg => (Z0 rfl rfl)) ?_
   refine Z0k (wT rfl rfl rfl rfl) rfl (fun hg => (Z05 rfl (Z04 hg rfl) (Z04 hg rfl) (Z0y (fun _ => rfl)) (by (try simp at hg) <;> first | omega | (simp only [List.length_map]; omega) | (simp only [List.length_map, List.length_drop]; omega)) (by (try simp at hg) <;> first | omega | (simp only [List.length_map]; omega) | (simp only [List.length_map, List.length_drop]; omega)))) ?_
   refine Z0k (wT rfl rfl rfl rfl) rfl (fun hg => (Z0w rfl (Z04 hg rfl) (Z4x (by (try simp at hg) <;> first | assumption | omega | (simp only [List.length_drop]; omega))) Zp)) ?_
   refine Z0k (wT rfl rfl rfl rfl) rfl (fun hg => (Z0 rfl rfl)) ?_
   refine Z0k (wT rfl rfl rfl rfl) rfl (fun hg => (Z0m rfl (Z04 hg rfl) (Z04 hg rfl) rfl)) ?_
   refine Z1 (w0 rfl) rfl (Z0g rfl rfl rfl (fun h => h)) ?_
   refine Z4 ?_
   refine Zc rfl ?_ ?_
   ·intro hc
    refine Z6 ?_
    refine Z2 ?_
    refine Z1 (w0 rfl) rfl (Z0 rfl rfl) ?_
    refine Z1 (w0 rfl) rfl (Z3 rfl rfl) ?_
    refine Z4 ?_
    refine Zv ?_
    exact Z1o rfl (Zf rfl Zh) (gi (by exfalso; have h1 : x.1 < l.length := (by have := Z6u hc; simpa using this); have h2 := beqS_iff.1 (Z69 hc); exact Zaa (hJ.2.2.2 x.1 (by omega) h1) h2.symm))
   ·intro hc
    refine Zi ?_
    refine Z6 ?_
    refine Z2 ?_
    refine Z1 (w0 rfl) rfl (Z3 rfl rfl) ?_
    refine Z4 ?_
    refine Zv ?_
    exact Z1o rfl (Zf rfl Zh) (gi (by unfold findL; rw [hr]; exact (Zei (fun k hk e => by rcases Nat.lt_or_ge k x.1 with h | h; exact Zaa (hJ.2.2.1 k h) e; exact Zaa (hJ.2.2.2 k (by omega) hk) e.symm)).symm))
theorem Zfe (l : List Str) (hl : l.length ≤ 100000) : ACalls Try.prog 9 [row1 sA l] [] (Gives (.tup [row1 sA (makeP l).1, iA (makeP l).2])) := by
 have hls : small l.length := by unfold small; omega
 refine Zo (n := 35) Try.func9 rfl (by decide +kernel) rfl rfl ?_
 refine Z6 ?_
 refine Z2 ?_
 refine Z1 (w0 rfl) rfl (Z3 rfl rfl) ?_
 refine Z1 (w0 rfl) rfl (Z3 rfl rfl) ?_
 refine Z4 ?_
 refine Z6 ?_
 refine Z6 ?_
 refine Z2 ?_
 refine Z1 (w0 rfl) rfl (Z0 rfl rfl) ?_
 refine Z1 (w0 rfl) rfl (Zq [] rfl rfl rfl (Zbx l hls) List.nodup_nil) ?_
 refine Z1 (w0 rfl) rfl (Z0i rfl rfl) ?_
 refine Z4 ?_
 refine Zc rfl ?_ ?_
 ·intro hc
  have hlong : l.any longS = true := Z9g (Z6l hc)
  refine Z6 ?_
  refine Z2 ?_
  refine Z1 (w0 rfl) rfl (Zca (y := .lst []) (Z3 rfl rfl) .z) ?_
  refine Z1 (w0 rfl) rfl (Z3 rfl rfl) ?_
  refine Z4 ?_
  refine Zv ?_
  exact Z1o rfl (Zf rfl (Zf rfl Zh)) (gvr (by unfold makeP; rw [hlong]; rfl))
 ·intro hc
  have hlong : l.any longS = false := by have := Z9g hc; simpa using this
  refine Zi ?_
  refine Z6 ?_
  refine Z2 ?_
  refine Z1t (w0 rfl) rfl (fun id => Z5b id rfl) (fun id1 => ?_)
  refine Z1 (w0 rfl) rfl (Z3 rfl rfl) ?_
  refine Z4 ?_
  refine Z6 ?_
  refine Z2 ?_
  refine Z1t (w0 rfl) rfl (fun id => Zc8 id 9 1 (.inl rfl) rfl) (fun id2 => ?_)
  refine Z4 ?_
  refine Z6 ?_
  refine Z6 ?_
  refine Z2 ?_
  refine Z1 (w0 rfl) rfl (Z0 rfl rfl) ?_
  refine Z1 (w0 rfl) rfl (Z0p rfl rfl rfl rfl) ?_
  refine Z1 (w0 rfl) rfl (Z0 rfl rfl) ?_
  refine Z4 ?_
  refine Zm ?_
  refine Z06 (α := Nat × Nat) (fun x => ⟨[(14, iA x.2), (12, row1 sA l), (13, iA l.length), (4, .map id1), (5, .own x.1 1 0 (dd (l.take x.2)).length)], [(x.1, .rows 9 1 ((dd (l.take x.2)).map fun x => [sA x])), (id1, .mp (setM (dd (l.take x.2))))], [], 35⟩) (fun x => x.2 ≤ l.length) (fun x => l.length - x.2) (id2, 0) (Nat.zero_le _) ?_ ?_
  ·exact Zb [0, 1] ⟨rfl, rfl, (by show some (iA _) = some (iA _); simp), rfl, rfl, trivial⟩ rfl (by decide) rfl rfl
  rintro x hJ
  have hdl := Zhb (l.take x.2)
  rw [List.length_take] at hdl
  refine Z6 ?_
  refine Z2 ?_
  refine Z1 (w0 rfl) rfl (Zd rfl rfl rfl rfl) ?_
  refine Z4 ?_
  refine Z6 ?_
  refine Zc rfl ?_ ?_
  ·intro hc
   have hx : x.2 < l.length := by simpa using hc
   refine Zi ?_
   refine Z6 ?_
   refine Zm ?_
   refine Z6 ?_
   refine Z2 ?_
   refine Z1 (w0 rfl) rfl (Z05 rfl rfl rfl (Z0y (fun _ => rfl)) (by first | omega | (simp only [List.length_map]; omega) | (simp only [List.length_map, List.length_drop]; omega)) (by first | omega | (simp only [List.length_map]; omega) | (simp only [List.length_map, List.length_drop]; omega))) ?_
   refine Z1 (w0 rfl) rfl (Z0w rfl rfl (Z3j (by first | assumption | omega | (simp only [List.length_drop]; omega))) Zp) ?_
   refine Z1 (w0 rfl) rfl (Z3 rfl rfl) ?_
   refine Z4 ?_
   refine Z6 ?_
   refine Z2 ?_
   refine Z1 (w0 rfl) rfl (Z0 rfl rfl) ?_
   refine Z1 (w0 rfl) rfl (Z0 rfl rfl) ?_
   refine Zbj (out := (dd (l.take x.2))) 1 (w0 rfl) rfl rfl rfl rfl rfl ?_
   refine Z1 (w0 rfl) rfl (Z0i rfl rfl) ?_
   refine Z4 ?_
   refine Zc rfl ?_ ?_
   ·intro hc
    have hin : inL (dd (l.take x.2)) l[x.2] = false := Z6l hc
    have e : dd (l.take (x.2 + 1)) = (dd (l.take x.2)) ++ [l[x.2]] := by rw [Zc2 hx, ddS, hin]; rfl
    refine Z6 ?_
    refine Z2 ?_
    refine Z1 (w0 rfl) rfl (Z0 rfl rfl) ?_
    refine Z1 (w0 rfl) rfl (Z0 rfl rfl) ?_
    refine Zbk (out := (dd (l.take x.2))) 1 (w0 rfl) rfl rfl rfl rfl rfl rfl hin ?_
    refine Z4 ?_
    refine Z2 ?_
    refine Z1 (w0 rfl) rfl (Z0 rfl rfl) ?_
    refine Z1 (w0 rfl) rfl (Z0 rfl rfl) ?_
    refine Z1t (w0 rfl) rfl (fun id => Z0l id (ps := [(0, .tmp 25)]) rfl rfl rfl rfl rfl rfl rfl rfl) (fun id3 => ?_)
    refine Z1g 1 (w0 rfl) rfl rfl rfl rfl (by simp) rfl ⟨rfl, _, _, List.mem_of_getElem? (i := 0) rfl, by simp, rfl⟩ (by first | omega | (simp; omega) | (simp [maxLen]; omega) | (simp; done) | (simp [maxLen]; done)) (by first | omega | (simp; omega) | (simp [maxLen]; omega) | (simp; done) | (simp [maxLen]; done)) (fun id4 => ?_)
    refine Z1 (w0 rfl) rfl (Z3 rfl rfl) ?_
    refine Z4 ?_
    refine Z2 ?_
    refine Z1 (w0 rfl) rfl (Z7 rfl rfl rfl (Za (by first | omega | (simp only [List.length_map]; omega)))) ?_
    refine Z1 (w0 rfl) rfl (Z0 rfl rfl) ?_
    refine Z4 ?_
    refine ⟨(id4, x.2 + 1), (by show x.2 + 1 ≤ l.length; omega), (by show l.length - (x.2 + 1) < l.length - x.2; omega), ?_⟩
    exact Zb [1, 2] ⟨rfl, rfl, rfl, rfl, (by show some (AV.own _ _ _ _) = some (AV.own _ _ _ _); first | (rw [e]; done) | (rw [e]; simp [cellsA])), trivial⟩ (by show some [(_, AObj.rows _ _ _), (_, AObj.mp _)] = some [(_, AObj.rows _ _ _), (_, AObj.mp _)]; first | (rw [e]; done) | (rw [e]; simp [cellsA])) (by decide) rfl rfl
   ·intro hc
    have hin : inL (dd (l.take x.2)) l[x.2] = true := Z9g hc
    have e : dd (l.take (x.2 + 1)) = (dd (l.take x.2)) := by rw [Zc2 hx, ddS, hin]; rfl
    refine Zi ?_
    refine Z2 ?_
    refine Z1 (w0 rfl) rfl (Z7 rfl rfl rfl (Za (by first | omega | (simp only [List.length_map]; omega)))) ?_
    refine Z1 (w0 rfl) rfl (Z0 rfl rfl) ?_
    refine Z4 ?_
    refine ⟨(x.1, x.2 + 1), (by show x.2 + 1 ≤ l.length; omega), (by show l.length - (x.2 + 1) < l.length - x.2; omega), ?_⟩
    exact Zb [0, 1] ⟨rfl, rfl, rfl, rfl, (by show some (AV.own _ _ _ _) = some (AV.own _ _ _ _); first | (rw [e]; done) | (rw [e]; simp [cellsA])), trivial⟩ (by show some [(_, AObj.rows _ _ _), (_, AObj.mp _)] = some [(_, AObj.rows _ _ _), (_, AObj.mp _)]; first | (rw [e]; done) | (rw [e]; simp [cellsA])) (by decide) rfl rfl
  ·intro hc
   have hx : ¬ x.2 < l.length := by simpa using hc
   have e0 : (dd (l.take x.2)) = dd l := by rw [List.take_of_length_le (by omega)]
   refine Z02 ?_
   refine Z6 ?_
   refine Z6 ?_
   refine Z2 ?_
   refine Z1 (w0 rfl) rfl (Z0 rfl rfl) ?_
   refine Z1 (w0 rfl) rfl (Z0p rfl rfl rfl rfl) ?_
   refine Z1 (w0 rfl) rfl (Zd rfl rfl rfl rfl) ?_
   refine Z4 ?_
   refine Zc rfl ?_ ?_
   ·intro hc
    have hbig : 1024 < (dd l).length := by rw [← e0]; simp at hc; omega
    refine Z6 ?_
    refine Z2 ?_
    refine Z1 (w0 rfl) rfl (Zca (y := .lst []) (Z3 rfl rfl) .z) ?_
    refine Z1 (w0 rfl) rfl (Z3 rfl rfl) ?_
    refine Z4 ?_
    refine Zv ?_
    exact Z1o rfl (Zf rfl (Zf rfl Zh)) (gvr (by unfold makeP; rw [decide_eq_true hbig, Bool.or_true]; rfl))
   ·intro hc
    have hbig : ¬ 1024 < (dd l).length := by rw [← e0]; simp at hc; omega
    refine Zi ?_
    refine Z6 ?_
    refine Z2 ?_
    refine Z1 (w0 rfl) rfl (Z0 rfl rfl) ?_
    refine Zk [_] _ (w0 rfl) rfl rfl rfl rfl (Zt (k := 0) rfl) (Zh7 _ _ _ rfl (by omega)) (fun v5 hv5 => ?_)
    refine Z4 ?_
    refine Z6 ?_
    have hu : v5 = risF l := SOn.uniq (hv5.1.trans ((Z46 l).trans (by rw [e0])).symm) (by have := hv5.1.length_eq; rw [this]; exact hv5.2) (Zaj l)
    refine Z15 (Z3b 0 5 (T' := []) rfl rfl (by have := hv5.1.length_eq; simp; omega) trivial) ?_
    refine Z2 ?_
    refine Z1 (w0 rfl) rfl (Z0 rfl rfl) ?_
    refine Z1 (w0 rfl) rfl (Z3 rfl rfl) ?_
    refine Z1 (w0 rfl) rfl (Z3 rfl rfl) ?_
    refine Z4 ?_
    refine Zv ?_
    exact Z1o rfl (Zf rfl (Zf rfl Zh)) (gvr (by unfold makeP; rw [hlong, decide_eq_false hbig, hu]; rfl))
end Go.Sx
namespace Go.Sx
open Go
def EffA (P : Program) (o : Oper) (T : List (Nat × AV)) (H : AHeap) (x : AV) (H' : AHeap) (id : Nat) : Prop :=
 ∀ Z C a w, WR C H w → (∀ p, p ∈ o.op.operands → ∀ y, ev T p = some y → VR C y (a.eval p)) → id ∉ C.U → id ∉ Z →
  ∀ ro next R, (∀ v w1 C1, VR C1 x v → WR C1 H' w1 → Ext Z C H w C1 H' w1 → next (a.put o.dst v) w1) → o.uponIn (Wd ro) 0 P a next R ((o.semAt ro a.eval).run P w)
inductive VCalm (P : Program) (ops : Array Oper) (H0 : AHeap) (ws rs : List Nat) (K : St → Prop) : Nat → List Oper → List (Nat × (Nat × AObj)) → AHeap → St → Prop
 | done {k : Nat} {M : List (Nat × (Nat × AObj))} {S : AHeap} {s : St} (h : K s) : VCalm P ops H0 ws rs K k [] M S s
 | keep {k : Nat} {l : List Oper} {M : List (Nat × (Nat × AObj))} {S : AHeap} {s : St} (p : Nat × AObj) (hp : p ∈ s.H) (hf : (ws.all fun w => Nat.ble k w) = true) (h : VCalm P ops H0 ws rs K k l M (p :: S) s) : VCalm P ops H0 ws rs K k l M S s
 | eff {k : Nat} {o : Oper} {r : List Oper} {M : List (Nat × (Nat × AObj))} {S : AHeap} {s : St} (Hn : AHeap) (x : AV) (hw : Wanted ops s.T o true) (hd : dok o.dst s.n = true) (he : Eff P o s.T Hn x []) (hk : ws.contains k = false)
   (hn : ∀ p, p ∈ Hn → p ∈ H0 ∨ ∃ j, (j, p) ∈ M ∧ anc ops k k j = true) (hr : Hn = [] ∨ rs.contains k = true ∨ ∀ p, p ∈ Hn → p ∈ S)
   (h : VCalm P ops H0 ws rs K (k + 1) r M S { s with T := put s.T o.dst x }) : VCalm P ops H0 ws rs K k (o :: r) M S s
 | eff1 {k : Nat} {o : Oper} {r : List Oper} {M : List (Nat × (Nat × AObj))} {S : AHeap} {s : St} (x : Nat → AV) (ob : Nat → AObj) (hw : Wanted ops s.T o true) (hd : dok o.dst s.n = true) (he : ∀ id, Eff P o s.T [] (x id) [(id, ob id)]) (hk : rs.contains k = true) (hk2 : ws.contains k = false)
   (h : ∀ id, VCalm P ops H0 ws rs K (k + 1) r ((k, (id, ob id)) :: M) S { s with T := put s.T o.dst (x id), H := (id, ob id) :: s.H }) : VCalm P ops H0 ws rs K k (o :: r) M S s
 | off {k : Nat} {o : Oper} {r : List Oper} {M : List (Nat × (Nat × AObj))} {S : AHeap} {s : St} (hw : Wanted ops s.T o false) (hd : dok o.dst s.n = true) (hk : ws.contains k = false)
   (h : VCalm P ops H0 ws rs K (k + 1) r M S { s with T := put s.T o.dst (.v undef) }) : VCalm P ops H0 ws rs K k (o :: r) M S s
 | write {k : Nat} {o : Oper} {r : List Oper} {M : List (Nat × (Nat × AObj))} {S : AHeap} {s : St} (H' : AHeap) (hw : Wanted ops s.T o true) (hd : dok o.dst s.n = true) (he : EffW P o s.T s.H H') (hk : ws.contains k = true) (hS : ∀ p, p ∈ S → p ∈ H')
   (h : VCalm P ops H0 ws rs K (k + 1) r M S { s with T := put s.T o.dst (.v undef), H := H' }) : VCalm P ops H0 ws rs K k (o :: r) M S s
 | app {k : Nat} {o : Oper} {r : List Oper} {M : List (Nat × (Nat × AObj))} {S : AHeap} {s : St} (x : Nat → AV) (H' : Nat → AHeap) (hw : Wanted ops s.T o true) (hd : dok o.dst s.n = true) (he : ∀ id, EffA P o s.T s.H (x id) (H' id) id) (hk : ws.contains k = true) (hS : ∀ id p, p ∈ S → p ∈ H' id)
   (h : ∀ id, VCalm P ops H0 ws rs K (k + 1) r M S { s with T := put s.T o.dst (x id), H := H' id }) : VCalm P ops H0 ws rs K k (o :: r) M S s
def GV (P : Program) (ops : Array Oper) (ws rs : List Nat) (T : List (Nat × AV)) (os : Nat → AHeap) (H0 S : AHeap) (i : Nat) (o : Oper) (x : AV) (obs B B' : AHeap) : Prop :=
 (ws.contains i = false ∧ obs = [] ∧ B' = B ∧ ((Wanted ops T o false ∧ x = .v undef) ∨
  (Wanted ops T o true ∧ ∃ Hn, Eff P o T Hn x [] ∧ (∀ p, p ∈ Hn → p ∈ H0 ∨ ∃ j, j < i ∧ p ∈ os j ∧ anc ops i i j = true) ∧ (Hn = [] ∨ rs.contains i = true ∨ ∀ p, p ∈ Hn → p ∈ S)))) ∨
 (ws.contains i = false ∧ rs.contains i = true ∧ B' = obs ++ B ∧ Wanted ops T o true ∧ Eff P o T [] x obs) ∨
 (ws.contains i = true ∧ obs = [] ∧ Wanted ops T o true ∧ x = .v undef ∧ EffW P o T B B') ∨
 (ws.contains i = true ∧ Wanted ops T o true ∧ ∃ id, obs = [(id, .rows 0 0 [])] ∧ EffA P o T B x B' id)
theorem GV.mono {P : Program} {ops : Array Oper} {ws rs : List Nat} {T : List (Nat × AV)} {os ps : Nat → AHeap} {H0 S S' : AHeap} {i : Nat} {o : Oper} {x : AV} {obs B B' : AHeap} (hS : ∀ p, p ∈ S → p ∈ S') (ho : ∀ j, j < i → ps j = os j)
  (h : GV P ops ws rs T os H0 S i o x obs B B') : GV P ops ws rs T ps H0 S' i o x obs B B' := by
 rcases h with ⟨h1, h2, h3, h4 | ⟨h4, Hn, h5, h6, h7⟩⟩ | h | h | h
 ·exact .inl ⟨h1, h2, h3, .inl h4⟩
 ·refine .inl ⟨h1, h2, h3, .inr ⟨h4, Hn, h5, fun p hp => (h6 p hp).imp id (fun ⟨j, a, b, c⟩ => ⟨j, a, by rw [ho j a]; exact b, c⟩), h7.imp id (fun h => h.imp id (fun h p hp => hS p (h p hp)))⟩⟩
 ·exact .inr (.inl h)
 ·exact .inr (.inr (.inl h))
 ·exact .inr (.inr (.inr h))
def GoodV (P : Program) (ops : Array Oper) (n : Nat) (ws rs : List Nat) (xs : Nat → AV) (os B : Nat → AHeap) (T0 : List (Nat × AV)) (H0 S : AHeap) (i : Nat) : Prop :=
 ∃ o, ops[i]? = some o ∧ dok o.dst n = true ∧ GV P ops ws rs (TT ops xs T0 i) os H0 S i o (xs i) (os i) (B i) (B (i + 1))
theorem GoodV.congr {P : Program} {ops : Array Oper} {n : Nat} {ws rs : List Nat} {xs ys : Nat → AV} {os ps B E : Nat → AHeap} {T0 : List (Nat × AV)} {H0 S S' : AHeap} {i : Nat} (h1 : ∀ j, j ≤ i → ys j = xs j) (h2 : ∀ j, j ≤ i → ps j = os j) (h3 : ∀ j, j ≤ i + 1 → E j = B j) (hS : ∀ p, p ∈ S → p ∈ S')
  (h : GoodV P ops n ws rs xs os B T0 H0 S i) : GoodV P ops n ws rs ys ps E T0 H0 S' i := by
 obtain ⟨o, ho, hd, h⟩ := h
 refine ⟨o, ho, hd, ?_⟩
 rw [Z0n (ops := ops) (T0 := T0) i (fun j hj => h1 j (by omega)), h1 i (Nat.le_refl _), h2 i (Nat.le_refl _), h3 i (by omega), h3 (i + 1) (Nat.le_refl _)]
 exact h.mono hS (fun j hj => h2 j (by omega))
structure ToldV (P : Program) (ops : Array Oper) (n : Nat) (ws rs : List Nat) (T0 : List (Nat × AV)) (H0 : AHeap) (L : List Nat) (k : Nat) (S : AHeap) (xs : Nat → AV) (os B : Nat → AHeap) : Prop where
 b0 : B 0 = H0
 g : ∀ i, i < k → GoodV P ops n ws rs xs os B T0 H0 S i
 fr : ∀ i p, i < k → p ∈ os i → p.1 ∉ L
 di : ∀ i j p q, i < k → j < k → p ∈ os i → q ∈ os j → p.1 = q.1 → i = j
 nd : ∀ i, i < k → ((os i).map Prod.fst).Nodup
 s : ∀ p, p ∈ S → ∀ c, (∃ v, ws.contains v = true ∧ v < c) → c ≤ k → p ∈ B c
theorem ToldV.adv {P : Program} {ops : Array Oper} {n : Nat} {ws rs : List Nat} {T0 : List (Nat × AV)} {H0 : AHeap} {L : List Nat} {k : Nat} {S : AHeap} {xs : Nat → AV} {os B : Nat → AHeap} (h : ToldV P ops n ws rs T0 H0 L k S xs os B)
  {o : Oper} (ho : ops[k]? = some o) (hd : dok o.dst n = true) (x : AV) (obs H' : AHeap) (hg : GV P ops ws rs (TT ops xs T0 k) os H0 S k o x obs (B k) H') (hS : ∀ p, p ∈ S → p ∈ H')
  (h1 : ∀ p, p ∈ obs → p.1 ∉ L) (h2 : ∀ i p q, i < k → p ∈ os i → q ∈ obs → p.1 ≠ q.1) (h3 : (obs.map Prod.fst).Nodup) :
  ∃ (ys : Nat → AV) (ps E : Nat → AHeap), ToldV P ops n ws rs T0 H0 L (k + 1) S ys ps E ∧ TT ops ys T0 (k + 1) = put (TT ops xs T0 k) o.dst x ∧ E (k + 1) = H' ∧ (∀ i, i < k → ps i = os i) ∧ ps k = obs := by
 let ys : Nat → AV := fun i => if i = k then x else xs i
 let ps : Nat → AHeap := fun i => if i = k then obs else os i
 let E : Nat → AHeap := fun i => if i = k + 1 then H' else B i
 have e1 : ∀ i, i < k → ys i = xs i := fun i hi => if_neg (by omega)
 have e2 : ∀ i, i < k → ps i = os i := fun i hi => if_neg (by omega)
 have e3 : ∀ i, i ≤ k → E i = B i := fun i hi => if_neg (by omega)
 have e4 : ys k = x := if_pos rfl
 have e5 : ps k = obs := if_pos rfl
 have e6 : E (k + 1) = H' := if_pos rfl
 have et : TT ops ys T0 k = TT ops xs T0 k := Z0n k e1
 refine ⟨ys, ps, E, ⟨(e3 0 (Nat.zero_le _)).trans h.b0, ?_, ?_, ?_, ?_, ?_⟩, ?_, e6, e2, e5⟩
 ·intro i hi
  rcases Nat.lt_or_ge i k with hlt | hge
  ·exact (h.g i hlt).congr (fun j hj => e1 j (by omega)) (fun j hj => e2 j (by omega)) (fun j hj => e3 j (by omega)) (fun _ h => h)
  ·have e : i = k := by omega
   subst e
   refine ⟨o, ho, hd, ?_⟩
   rw [et, e4, e5, e6, e3 i (Nat.le_refl _)]
   exact hg.mono (fun _ h => h) e2
 ·intro i p hi hp
  rcases Nat.lt_or_ge i k with hlt | hge
  ·rw [e2 i hlt] at hp; exact h.fr i p hlt hp
  ·have e : i = k := by omega
   subst e; rw [e5] at hp; exact h1 p hp
 ·intro i j p q hi hj hp hq hpq
  rcases Nat.lt_or_ge i k with hlt | hge <;> rcases Nat.lt_or_ge j k with hlt' | hge'
  ·rw [e2 i hlt] at hp; rw [e2 j hlt'] at hq; exact h.di i j p q hlt hlt' hp hq hpq
  ·have e : j = k := by omega
   subst e; rw [e5] at hq; rw [e2 i hlt] at hp; exact (h2 i p q hlt hp hq hpq).elim
  ·have e : i = k := by omega
   subst e; rw [e5] at hp; rw [e2 j hlt'] at hq; exact (h2 j q p hlt' hq hp hpq.symm).elim
  ·omega
 ·intro i hi
  rcases Nat.lt_or_ge i k with hlt | hge
  ·rw [e2 i hlt]; exact h.nd i hlt
  ·have e : i = k := by omega
   subst e; rw [e5]; exact h3
 ·intro p hp c hv hc
  rcases Nat.lt_or_ge k c with hlt | hge
  ·have e : c = k + 1 := by omega
   subst e; rw [e6]; exact hS p hp
  ·rw [e3 c hge]; exact h.s p hp c hv hge
 ·simp only [TT, ho, Option.bind_some]
  rw [e4, et]
theorem VCalm.tell {P : Program} {ops : Array Oper} {H0 : AHeap} {ws rs : List Nat} {K : St → Prop} {T0 : List (Nat × AV)} {D : List Nat} {n : Nat} (L : List Nat) {k : Nat} {l : List Oper} {M : List (Nat × (Nat × AObj))} {S : AHeap} {s : St} (h : VCalm P ops H0 ws rs K k l M S s) :
  ∀ (xs : Nat → AV) (os B : Nat → AHeap), ToldV P ops n ws rs T0 H0 L k S xs os B → ops.toList.drop k = l → s = ⟨TT ops xs T0 k, B k, D, n⟩ → (∀ j p, (j, p) ∈ M → j < k ∧ p ∈ os j) → (∀ p, p ∈ S → p ∈ B k) →
   ∃ (ys : Nat → AV) (ps E : Nat → AHeap) (S' : AHeap), ToldV P ops n ws rs T0 H0 L (k + l.length) S' ys ps E ∧ K ⟨TT ops ys T0 (k + l.length), E (k + l.length), D, n⟩ := by
 induction h with
 | done h =>
  intro xs os B hT hl hs hM hS
  subst hs
  exact ⟨xs, os, B, _, hT, h⟩
 | @keep k l M S s p hp hf h ih =>
  intro xs os B hT hl hs hM hS
  subst hs
  refine ih xs os B ⟨hT.b0, fun i hi => (hT.g i hi).congr (fun _ _ => rfl) (fun _ _ => rfl) (fun _ _ => rfl) (fun q hq => List.mem_cons_of_mem _ hq), hT.fr, hT.di, hT.nd, ?_⟩ hl rfl hM ?_
  ·intro q hq c hv hc
   rcases List.mem_cons.1 hq with rfl | hq
   ·obtain ⟨v, hv, hvc⟩ := hv
    have := List.all_eq_true.1 hf v (by simpa using hv)
    have := Nat.le_of_ble_eq_true this
    omega
   ·exact hT.s q hq c hv hc
  ·intro q hq
   rcases List.mem_cons.1 hq with rfl | hq
   ·exact hp
   ·exact hS q hq
 | @eff k o r M S s Hn x hw hd he hk hn hr h ih =>
  intro xs os B hT hl hs hM hS
  subst hs
  obtain ⟨h1, h2⟩ := Z07 hl
  have ho : ops[k]? = some o := by rw [← Array.getElem?_toList]; exact h1
  obtain ⟨ys, ps, E, g1, g2, g3, g4, g5⟩ := hT.adv ho hd x [] (B k) (.inl ⟨hk, rfl, rfl, .inr ⟨hw, Hn, he, fun p hp => (hn p hp).imp id (fun ⟨j, a, b⟩ => ⟨j, (hM j p a).1, (hM j p a).2, b⟩), hr⟩⟩) hS nofun (fun _ _ _ _ _ h => nomatch h) List.nodup_nil
  rw [show k + (o :: r).length = k + 1 + r.length by simp; omega]
  exact ih ys ps E g1 h2 (by rw [g2, g3]) (fun j p hp => ⟨by have := (hM j p hp).1; omega, by rw [g4 j (hM j p hp).1]; exact (hM j p hp).2⟩) (by rw [g3]; exact hS)
 | @eff1 k o r M S s x ob hw hd he hk hk2 h ih =>
  intro xs os B hT hl hs hM hS
  subst hs
  obtain ⟨h1, h2⟩ := Z07 hl
  have ho : ops[k]? = some o := by rw [← Array.getElem?_toList]; exact h1
  obtain ⟨id, hid⟩ := Z8c (L ++ ((List.range k).flatMap fun i => (os i).map Prod.fst))
  rw [List.mem_append, not_or] at hid
  obtain ⟨ys, ps, E, g1, g2, g3, g4, g5⟩ := hT.adv ho hd (x id) [(id, ob id)] ((id, ob id) :: B k) (.inr (.inl ⟨hk2, hk, rfl, hw, he id⟩)) (fun p hp => List.mem_cons_of_mem _ (hS p hp)) (fun p hp => by rw [List.mem_singleton.1 hp]; exact hid.1)
   (fun i p q hi hp hq e => by rw [List.mem_singleton.1 hq] at e; exact hid.2 (List.mem_flatMap.2 ⟨i, List.mem_range.2 hi, List.mem_map.2 ⟨p, hp, e⟩⟩)) (by simp)
  rw [show k + (o :: r).length = k + 1 + r.length by simp; omega]
  refine ih id ys ps E g1 h2 (by rw [g2, g3]) ?_ (by rw [g3]; exact fun p hp => List.mem_cons_of_mem _ (hS p hp))
  intro j p hp
  rcases List.mem_cons.1 hp with hp | hp
  ·cases hp; exact ⟨by omega, by rw [g5]; exact List.mem_cons_self⟩
  ·exact ⟨by have := (hM j p hp).1; omega, by rw [g4 j (hM j p hp).1]; exact (hM j p hp).2⟩
 | @off k o r M S s hw hd hk h ih =>
  intro xs os B hT hl hs hM hS
  subst hs
  obtain ⟨h1, h2⟩ := Z07 hl
  have ho : ops[k]? = some o := by rw [← Array.getElem?_toList]; exact h1
  obtain ⟨ys, ps, E, g1, g2, g3, g4, g5⟩ := hT.adv ho hd (.v undef) [] (B k) (.inl ⟨hk, rfl, rfl, .inl ⟨hw, rfl⟩⟩) hS nofun (fun _ _ _ _ _ h => nomatch h) List.nodup_nil
  rw [show k + (o :: r).length = k + 1 + r.length by simp; omega]
  exact ih ys ps E g1 h2 (by rw [g2, g3]) (fun j p hp => ⟨by have := (hM j p hp).1; omega, by rw [g4 j (hM j p hp).1]; exact (hM j p hp).2⟩) (by rw [g3]; exact hS)
 | @write k o r M S s H' hw hd he hk hS' h ih =>
  intro xs os B hT hl hs hM hS
  subst hs
  obtain ⟨h1, h2⟩ := Z07 hl
  have ho : ops[k]? = some o := by rw [← Array.getElem?_toList]; exact h1
  obtain ⟨ys, ps, E, g1, g2, g3, g4, g5⟩ := hT.adv ho hd (.v undef) [] H' (.inr (.inr (.inl ⟨hk, rfl, hw, rfl, he⟩))) hS' nofun (fun _ _ _ _ _ h => nomatch h) List.nodup_nil
  rw [show k + (o :: r).length = k + 1 + r.length by simp; omega]
  exact ih ys ps E g1 h2 (by rw [g2, g3]) (fun j p hp => ⟨by have := (hM j p hp).1; omega, by rw [g4 j (hM j p hp).1]; exact (hM j p hp).2⟩) (by rw [g3]; exact hS')
 | @app k o r M S s x H' hw hd he hk hS' h ih =>
  intro xs os B hT hl hs hM hS
  subst hs
  obtain ⟨h1, h2⟩ := Z07 hl
  have ho : ops[k]? = some o := by rw [← Array.getElem?_toList]; exact h1
  obtain ⟨id, hid⟩ := Z8c (L ++ ((List.range k).flatMap fun i => (os i).map Prod.fst))
  rw [List.mem_append, not_or] at hid
  obtain ⟨ys, ps, E, g1, g2, g3, g4, g5⟩ := hT.adv ho hd (x id) [(id, .rows 0 0 [])] (H' id) (.inr (.inr (.inr ⟨hk, hw, id, rfl, he id⟩))) (hS' id) (fun p hp => by rw [List.mem_singleton.1 hp]; exact hid.1)
   (fun i p q hi hp hq e => by rw [List.mem_singleton.1 hq] at e; exact hid.2 (List.mem_flatMap.2 ⟨i, List.mem_range.2 hi, List.mem_map.2 ⟨p, hp, e⟩⟩)) (by simp)
  rw [show k + (o :: r).length = k + 1 + r.length by simp; omega]
  exact ih id ys ps E g1 h2 (by rw [g2, g3]) (fun j p hp => ⟨by have := (hM j p hp).1; omega, by rw [g4 j (hM j p hp).1]; exact (hM j p hp).2⟩) (by rw [g3]; exact hS' id)
def hpF (N : Nat) (ps : Nat → AHeap) (H0 : AHeap) (B : Nat → AHeap) (listed : Array Bool) (cur : Nat) : AHeap :=
 if cur = 0 then (List.range N).flatMap (fun j => if listed.getD j false = true then ps j else []) ++ H0 else B cur
structure InvV (P : Program) (ops : Array Oper) (ws : List Nat) (ys : Nat → AV) (ps B : Nat → AHeap) (cur : Nat) (s : St) (Z : List Nat) (C0 : Ctx) (H0 : AHeap) (w0 : World) (listed : Array Bool) (a : Act) (w : World) (C : Ctx) : Prop where
 wr : WR C (hpF ops.size ps s.H B listed cur) w
 sl0 : ∀ t x, lk s.T t = some x → (∀ j, j < ops.size → listed.getD j false = true → (ops[j]?).bind (·.dst) ≠ some t) → ∃ v, a.tmps[t]? = some v ∧ VR C x v
 sl1 : ∀ j t, j < ops.size → listed.getD j false = true → (ops[j]?).bind (·.dst) = some t → ∃ v, a.tmps[t]? = some v ∧ VR C (ys j) v
 df : a.defers = s.D.map (mark C)
 du : ∀ i, i ∈ s.D → i ∈ C.U
 sz : a.tmps.size = s.n
 av : ∀ j p, j < ops.size → listed.getD j false = false → p ∈ ps j → p.1 ∉ C.U
 ext : Ext Z C0 H0 w0 C (hpF ops.size ps s.H B listed cur) w
 dn : ∀ i o, ops[i]? = some o → listed.getD i false = true → ∀ e, e ∈ o.after → Region.binds .any e = true → listed.getD e.on false = true
 lw : ∀ v, ws.contains v = true → v < ops.size → (listed.getD v false = true ↔ v < cur)
 lc : cur ≤ ops.size
 lz : cur = 0 ∨ ∃ v, ws.contains v = true ∧ v < cur
def okLooksV (ops : Array Oper) (ms : List Nat) : Bool := (List.range ops.size).all fun i => match ops[i]? with
 | some o => (o.looksAt ops).all fun t => (List.range ops.size).all fun j => !((ops[j]?).bind (·.dst) == some t) || (Nat.blt j i && bitOf ms i j) || (Nat.blt i j && bitOf ms j i)
 | none => false
def tidyV (ops : Array Oper) (ms ws rs : List Nat) : Bool := (okEdges ops && okDst ops ops.size && okCert ops ms && okLooksV ops ms && okWrites ms ws rs && (ws ++ rs).all fun i => Nat.blt i ops.size) && !ws.isEmpty
section
variable {P : Program} {ops : Array Oper} {o : Oper} {rest : List Oper} {H0 : AHeap} {ws rs : List Nat} {K : St → Prop} {k : Nat} {M : List (Nat × (Nat × AObj))} {S : AHeap} {s : St}
def inH (H : AHeap) : AHeap → List Nat → Prop
 | [], _ => True
 | p :: S, j :: js => H[j]? = some p ∧ inH H S js
 | _ :: _, [] => False
end
end Go.Sx
namespace Go.Sx
open Go
section
variable {α : Type} [Inhabited α]
variable {P : Program} {ro : Option Nat} {Q : Exit → St → Prop} {s : St} {ops : Array Oper} {o : Oper} {rest : List Oper}
end
end Go.Sx
namespace Go.Sx
open Go
section
variable {P : Program} {ro : Option Nat} {Q : Exit → St → Prop} {s : St} {ops : Array Oper} {o : Oper} {rest : List Oper} {H0 : AHeap} {K : St → Prop} {k : Nat} {M : List (Nat × (Nat × AObj))} {S : List (AHeap × AHeap)} {ws rs : List Nat} {p : Operand} {x : AV}
theorem qS {x y : Code} (h : AWp P ro x (thenQ (AWp P ro y Q) Q) s) : AWp P ro (.seq x y) Q s := Z6 h
theorem qR {id : Nat} {l : List Oper} (h : AOps P ro l.toArray l Q s) : AWp P ro (.region id l.toArray false) Q s := Z2 h
theorem qB {id : Nat} {c : Code} (h : AWp P ro c (blockQ id Q) s) : AWp P ro (.block id c) Q s := Zm h
theorem qK (h : Q .normal s) : AWp P ro .skip Q s := Zi h
theorem qX {i : Nat} (h : Q (.exit i) s) : AWp P ro (.exit i) Q s := Z02 h
end
end Go.Sx
namespace Go.Sx
open Go
def pcmp (b : BinOp) (nil : Bool) : Option Bool := match b with | .eql => some nil | .neq => some (!nil) | _ => none
section
variable {P : Program} {T : List (Nat × AV)} {o : Oper}
theorem Zdc {t e : TypeId} (h : P.underlying t = some (.pointer e)) (d : Nat) (x : Option Addr) (w : World) : (Op.equalIn (d + 1) t (.pointer x) (.pointer none)).run P w = .ok x.isNone w := by
 cases x with
 | none => simp [Op.equalIn, Go.run_underlying h, Result.andThen, Sem.run_bind]
 | some a => simp [Op.equalIn, Go.run_underlying h, Result.andThen, Sem.run_bind]
theorem Z7z {b : BinOp} {t t' e : TypeId} {p q : Operand} {z : Bool} [h : UD P t (.pointer e)] (ho : o.op = .binOp b t p q t') (hp : ev T p = some (.v (.pointer none))) (hq : ev T q = some (.v (.pointer none)))
  (hb : pcmp b true = some z) : Eff P o T [] (.v (.bool z)) [] :=
 Z01 (by intro c; rw [ho]; nofun) fun C H a w hw hn hv => by
  have h2 := hv p (by rw [ho]; simp [Op.operands]) _ hp
  have h3 := VR.val (hv q (by rw [ho]; simp [Op.operands]) _ hq)
  obtain ⟨y, hy, hyn⟩ : ∃ y : Option Addr, a.eval p = .pointer y ∧ y.isNone = true := ⟨none, VR.val h2, rfl⟩
  refine ⟨.bool z, ?_, .v _⟩
  have hr := fun d => Zdc h.ud d y w
  cases b <;> simp only [pcmp, Option.some.injEq, reduceCtorEq] at hb <;> subst hb
  ·simp [execOp, ho, hy, h3, eqGuard, binOp, Op.equal, Op.maxDepth, hr 9999, hyn, Result.andThen, Sem.run_bind]
  ·simp [execOp, ho, hy, h3, eqGuard, binOp, Op.equal, Op.maxDepth, hr 9999, hyn, Result.andThen, Sem.run_bind]
theorem Z80 {b : BinOp} {t t' e : TypeId} {p q : Operand} {id sz i c : Nat} {z : Bool} [h : UD P t (.pointer e)] (ho : o.op = .binOp b t p q t') (hp : ev T p = some (.ptr id sz i c)) (hq : ev T q = some (.v (.pointer none)))
  (hb : pcmp b false = some z) : Eff P o T [] (.v (.bool z)) [] :=
 Z01 (by intro c; rw [ho]; nofun) fun C H a w hw hn hv => by
  have h2 := hv p (by rw [ho]; simp [Op.operands]) _ hp
  have h3 := VR.val (hv q (by rw [ho]; simp [Op.operands]) _ hq)
  obtain ⟨y, hy, hyn⟩ : ∃ y : Option Addr, a.eval p = .pointer y ∧ y.isNone = false := by
   generalize a.eval p = u at h2
   cases h2 with
   | ptr _ _ _ _ b' N hid _ => exact ⟨_, rfl, rfl⟩
  refine ⟨.bool z, ?_, .v _⟩
  have hr := fun d => Zdc h.ud d y w
  cases b <;> simp only [pcmp, Option.some.injEq, reduceCtorEq] at hb <;> subst hb
  ·simp [execOp, ho, hy, h3, eqGuard, binOp, Op.equal, Op.maxDepth, hr 9999, hyn, Result.andThen, Sem.run_bind]
  ·simp [execOp, ho, hy, h3, eqGuard, binOp, Op.equal, Op.maxDepth, hr 9999, hyn, Result.andThen, Sem.run_bind]
end
end Go.Sx
namespace Go.Sx
open Go
variable {P : Program} {ro : Option Nat} {Q : Exit → St → Prop} {s : St} {ops : Array Oper} {o : Oper} {rest : List Oper} {T : List (Nat × AV)}
theorem Z6e {t t' : TypeId} {p q : Operand} {k : IntKind} {x y : Int} (ho : o.op = .binOp .andNot t p q t') (hp : ev T p = some (.v (.int k x))) (hq : ev T q = some (.v (.int k y))) : Eff P o T [] (.v (.int k (bitsI .andNot k x y))) [] :=
 Z01 (by intro c; rw [ho]; nofun) fun C H a w hw hn hv => by
  have h2 := VR.val (hv p (by rw [ho]; simp [Op.operands]) _ hp)
  have h3 := VR.val (hv q (by rw [ho]; simp [Op.operands]) _ hq)
  refine ⟨_, ?_, .v _⟩
  simp [execOp, ho, h2, h3, eqGuard, binOp, Op.intBits, bitsI, Sem.run_bind, Result.andThen]
theorem Z3d (id n : Nat) {t e bytes : Nat} {p q : Operand} {z : Value} [hu : UD P t (.slice e)] [ha : AP P e 1 bytes] [hz : ZC P e [z]] (ho : o.op = .makeSlice t p q)
  (hp : ev T p = some (.v (.int .i64 n))) (hq : ev T q = some (.v (.int .i64 n))) (h1 : bytes * n ≤ 140737488355328) (hm : n ≤ maxLen) (h2 : one (.v z) = true) :
  Eff P o T [] (.own id 1 0 n) [(id, .rows e 1 (List.replicate n [.v z]))] :=
 Z4e (N := n) (by intro c; rw [ho]; nofun) fun C H a w hw _ hv hid => by
  have e1 := VR.val (hv p (by rw [ho]; simp [Op.operands]) _ hp)
  have e2 := VR.val (hv q (by rw [ho]; simp [Op.operands]) _ hq)
  obtain ⟨i, zv, hi, hzv, hsz, hby, hzs, hpos⟩ := AP.open ha.ap
  have hz2 : zv.cells = #[z] := by
   have := hz.zc
   unfold Program.zc at this
   rw [hi] at this
   simp only [hzv, Option.map_some, Option.some.injEq] at this
   apply Array.ext'
   rw [this]
  have hm' : n ≤ 9223372036854775807 := hm
  have hw2 : IntKind.i64.wrap (n : Int) = n := Z0t (by omega)
  have hb1 : ¬ (281474976710656 < (bytes : Int) * n) := by
   have : ((bytes * n : Nat) : Int) ≤ 140737488355328 := Int.ofNat_le.2 h1
   rw [Int.natCast_mul] at this; omega
  let z0 : Array Value := if n = 0 then #[] else zv.cells
  refine ⟨.slice (some ⟨w.heap.size, 0, none⟩) n n, .cells ((Array.range n).map (z0[· % z0.size]!)) e, ?_, ?_, ?_⟩
  ·have e3 : (asInt (.int .i64 (n : Int))).run P w = .ok (n : Int) w := by simp [asInt, asIntOf, Sem.run_bind, Result.andThen]
   have h00 : ¬ ((n : Int) < 0) := by omega
   have hc1 : ¬ ((bytes : Int) * n > 2 ^ 48) := hb1
   have hc0 : (decide ((n : Int) < 0) || decide ((bytes : Int) * n > 2 ^ 48)) = false := by rw [decide_eq_false h00, decide_eq_false hc1]; rfl
   have hn0 : ((n : Int)).toNat = n := by omega
   have hrun : (Instr.makeSlice t (.int .i64 n) (.int .i64 n)).run P w = .ok (.slice (some ⟨w.heap.size, 0, none⟩) n n) (w.alloc (.cells ((Array.range n).map (z0[· % z0.size]!)) e)) := by
    unfold Instr.makeSlice
    simp only [Sem.run_bind, Go.run_underlying hu.ud, Result.andThen, e3, typeInfo, hi, hby, hw2, hc0, h00, Int.lt_irrefl, decide_false, Bool.or_false, Bool.false_or, Bool.false_eq_true, if_false, run_askRoom, hn0, sizeOf, hsz, Nat.mul_one, Sem.run_pure]
    by_cases h0 : n = 0
    ·have hz0 : z0 = #[] := if_pos h0
     rw [hz0]
     simp [h0, hi, hby, hsz, newRow, run_newObj_alloc, Sem.run_bind, Result.andThen]
    ·have hz0 : z0 = zv.cells := if_neg h0
     rw [hz0]
     simp [h0, hi, hby, hsz, hb1, hzv, zeroValue, typeInfo, newRow, run_newObj_alloc, Sem.run_bind, Result.andThen, -getElem!_pos]
   have e4 : execOp a.eval o = (do pure (.value (← Instr.makeSlice t (a.eval p) (a.eval q)))) := by simp only [execOp, ho]
   rw [e4, e1, e2, Sem.run_bind, hrun]
   rfl
  ·have := VR.own (C := C.bind id w.heap.size n) id 1 0 n w.heap.size n n (Ctx.bind_m ..) List.mem_cons_self (by simp) (Nat.le_refl _) hm
   simpa using this
  ·refine ⟨by intro l hl; rw [List.eq_of_mem_replicate hl]; rfl, .inr ⟨w.heap.size, n, _, Ctx.bind_m .., heap_alloc_new w _, by simp, by simp, ?_⟩⟩
   intro i' l j c hl hc
   have hlt := Z09 hl
   rw [List.length_replicate] at hlt
   have hl2 : l = [.v z] := List.eq_of_mem_replicate (List.mem_of_getElem? hl)
   subst hl2
   have hj := Z09 hc
   simp only [List.length_singleton] at hj
   have : j = 0 := by omega
   subst this
   simp at hc; subst hc
   have hz0 : z0 = #[z] := by show (if n = 0 then #[] else zv.cells) = _; rw [if_neg (by omega), hz2]
   refine ⟨z, ?_, .v z, Z4y (C := C) (.v z) h2⟩
   rw [hz0]
   simp [hlt, Nat.mod_one]
theorem Z3c {t e m id el : Nat} {p q : Operand} {row : List AV} {kd : IntKind} {j : Int} (k : Nat) [hu : UD P t (.array m e)] [k1 : TK P e false 1] (hw : Wanted ops s.T o true) (hd : dok o.dst s.n = true)
  (ho : o.op = .slice t p none (some q) none) (hp : ev s.T p = some (.ptr id m 0 0)) (hH : s.H[k]? = some (id, .rows el m [row])) (hq : ev s.T q = some (.v (.int kd j))) (h0 : 0 ≤ j) (h1 : j ≤ m)
  (h : AOps P ro ops rest Q { s with T := put s.T o.dst (.lst ((row.take j.toNat).map fun c => [c])), H := s.H.eraseIdx k }) : AOps P ro ops (o :: rest) Q s := by
 refine Z0v hw ?_
 intro Z C0 H0 w0 C a w hx0 hs
 have hpv := hs.ev hp
 have hqv := VR.val (hs.ev hq)
 obtain ⟨hu', hlen, hor⟩ := hs.wr.ids _ _ (List.mem_of_getElem? hH)
 have hwp := hs.wr.perm (Zt hH)
 obtain ⟨b, ob, g1, g2, g3, g4, g5, g6⟩ := frz hwp
 have hrl : row.length = m := hlen row List.mem_cons_self
 generalize hav : a.eval p = u at hpv
 cases hpv with
 | ptr _ _ _ _ bb N hid _ =>
  have hb := g1 N bb hid
  subst hb
  rcases hor with ⟨hm, _⟩ | ⟨b', N', cells, hm, hh, hsz, hfit, hrow⟩
  ·rw [hid] at hm; cases hm
  ·rw [hid] at hm; cases hm
   have hob := g3 bb rfl
   rw [hh] at hob
   subst hob
   have hrun : (o.semAt ro a.eval).run P w = .ok (.value (.slice (some ⟨bb, 0, none⟩) j.toNat m)) w := by
    rw [Oper.semAt_eq _ _ _ (by intro c; rw [ho]; nofun)]
    simp [execOp, ho, hav, hqv, Instr.sliceAt, Instr.sliceBounds, Instr.sureAddr, run_underlying (d := .array m e), Z0d k1.tk, Z1f rfl h0 h1, Sem.run_bind, Result.andThen, Sem.run_pure, Addr.add]
   rw [hrun]
   have hv : VR (C.hpSet (some bb) (some (.cells cells el (0, 0)))) (.lst ((row.take j.toNat).map fun c => [c])) (.slice (some ⟨bb, 0, none⟩) j.toNat m) := by
    have hl : ((row.take j.toNat).map fun c => [c]).length = j.toNat := by simp; omega
    have hel : ∀ (i : Nat) (e : List AV) (jj : Nat) (c : AV), ((row.take j.toNat).map fun c => [c])[i]? = some e → e[jj]? = some c → jj = 0 ∧ row[i]? = some c := by
     intro i e jj c h2 h3
     rw [List.getElem?_map, List.getElem?_take] at h2
     split at h2
     ·cases h4 : row[i]? with
      | none => rw [h4] at h2; cases h2
      | some r =>
       rw [h4] at h2; simp at h2; subst h2
       have hj := Z09 h3
       simp at hj; subst hj
       simp at h3; subst h3
       exact ⟨rfl, rfl⟩
     ·cases h2
    have := VR.lst (C := C.hpSet (some bb) (some (.cells cells el (0, 0)))) ((row.take j.toNat).map fun c => [c]) ⟨bb, 0, none⟩ 1 m cells el (0, 0) (fun i _ => (cells[i]?).getD default) (fun _ => rfl) (fun _ => by simp [Ctx.hpSet])
     (by intro e he; obtain ⟨c, _, rfl⟩ := List.mem_map.1 he; rfl)
     (by
      intro i e jj c h2 h3
      obtain ⟨rfl, h4⟩ := hel i e jj c h2 h3
      obtain ⟨x, h5, _, _⟩ := hrow 0 row i c rfl h4
      simp only [Nat.zero_mul, Nat.zero_add] at h5
      simp only [Nat.zero_add, Nat.mul_one, Nat.add_zero, h5]; rfl)
     (by
      intro i e jj c h2 h3
      obtain ⟨rfl, h4⟩ := hel i e jj c h2 h3
      obtain ⟨x, h5, h6, _⟩ := hrow 0 row i c rfl h4
      simp only [Nat.zero_mul, Nat.zero_add] at h5
      simp only [h5]; exact h6.mono g5)
     (by
      intro i e jj c h2 h3
      obtain ⟨rfl, h4⟩ := hel i e jj c h2 h3
      obtain ⟨x, h5, _, h6⟩ := hrow 0 row i c rfl h4
      simp only [Nat.zero_mul, Nat.zero_add] at h5
      simp only [h5]; exact h6)
     (by rw [hl]; omega)
    rw [hl] at this; exact this
   have hext : Ext Z C s.H w (C.hpSet (some bb) (some (.cells cells el (0, 0)))) (s.H.eraseIdx k) w := by
    refine ⟨g5, fun _ _ h => h, rfl, rfl, rfl, Nat.le_refl _, fun _ _ _ => rfl, ?_, ?_, ?_⟩
    ·intro x o hx
     simp only [Ctx.hpSet] at hx
     split at hx
     ·rename_i e
      obtain ⟨_, N, hm⟩ := g2 x e
      exact .inr (.inr ⟨id, _, N, List.mem_of_getElem? hH, hm⟩)
     ·exact .inl ⟨o, hx⟩
    ·rintro x ⟨i, o, N, hi, hm⟩
     exact .inl ⟨i, o, N, List.mem_of_mem_eraseIdx hi, hm⟩
    ·intro i o hi
     exact .inl ⟨o, List.mem_of_mem_eraseIdx hi⟩
   exact ⟨_, _, h, hs.put g5 g4 (Z0s hd) hv, hx0.trans hext⟩
theorem Z6b {t t' e id el n : Nat} {p q : Operand} {y : AV} {es ys : List (List AV)} (k : Nat) [hu : UD P t (.slice e)] [k1 : TK P e false 1] (hw : Wanted ops s.T o true) (hd : dok o.dst s.n = true)
  (ho : o.op = .call { callee := .builtin .copy, args := #[p, q], argTypes := #[t, t'] }) (hp : ev s.T p = some (.own id 1 0 n)) (hH : s.H[k]? = some (id, .rows el 1 es)) (hn : es.length = n) (hq : ev s.T q = some y) (hy : SlA s.H 1 y ys) (hl : ys.length = n) (h0 : 0 < n)
  (h : AOps P ro ops rest Q { s with T := put s.T o.dst (.v (.int .i64 n)), H := s.H.set k (id, .rows el 1 ys) }) : AOps P ro ops (o :: rest) Q s := by
 refine Z0v hw ?_
 intro Z C0 H0 w0 C a w hx0 hs
 obtain ⟨ad, c, hqv, hnil, hlen, hcells⟩ := hy.cells hs.wr (hs.ev hq)
 obtain ⟨hu', hlenx, hor⟩ := hs.wr.ids _ _ (List.mem_of_getElem? hH)
 have hpv := hs.ev hp
 generalize hav : a.eval p = u at hpv
 cases hpv with
 | ownNil => omega
 | own _ _ _ _ b N cap hid _ hcap hlc hcm =>
  rcases hor with ⟨hm0, _⟩ | ⟨b', N', cells, hmb', hh, hsN, hfit, hrow⟩
  ·rw [hid] at hm0; cases hm0
  ·rw [hid] at hmb'; cases hmb'
   cases ad with
   | none => have := hnil rfl; subst this; simp at hl; omega
   | some ad =>
    obtain ⟨news, hn1, hn2, hn3, hn4⟩ := hcells ad rfl
    rw [Nat.mul_one] at hn1
    have hsz : (P.info? e).map (·.size) = some 1 := by
     have := k1.tk
     unfold Program.tk at this
     split at this
     ·rename_i d i h1 h2
      simp at this
      rw [h2]; simp [this.2]
     ·cases this
    have hrun := run_copy_row (P := P) w t t' o.type e b (0 * 1) n cap ad ys.length c cells el news hu.ud hsz hh (by rw [hn1, hl]; simp) hn2 (by rw [hn1, hl]; omega) hn3
    have hr : (o.semAt ro a.eval).run P w = .ok (.value (.int .i64 n)) (w.setRow b (cells.toList.take (0 * 1) ++ news ++ cells.toList.drop (0 * 1 + news.length)).toArray) := by
     rw [Oper.semAt_eq _ _ _ (by intro c; rw [ho]; nofun)]
     rw [hl] at hrun hqv
     simp only [Nat.zero_mul] at hrun hav
     simp [execOp, ho, resolve, invoke, builtin, hav, hqv, hrun, Result.andThen, Sem.run_bind, goInt, hn1, hl]
    rw [hr]
    obtain ⟨hw1, he1⟩ := Z18 (Z := Z) (C' := C) (id' := id) (o' := .rows el 1 ys) (w' := w.setRow b (cells.toList.take (0 * 1) ++ news ++ cells.toList.drop (0 * 1 + news.length)).toArray) hs.wr hH (.refl C) rfl (.inl rfl) hu' (fun _ _ h => h) rfl rfl rfl (by simp)
     (fun b N' hm' => .inl ⟨N', hm'⟩) (fun b2 hb2 hne => setRow_other w b b2 _ (by rintro rfl; exact hne _ hid)) (by
      refine ⟨hlen, .inr ⟨b, _, _, hid, setRow_heap w b cells _ el (0, 0) hh, ?_, ?_, ?_⟩⟩
      ·simp only [List.size_toArray, List.length_append, List.length_take, List.length_drop, Array.length_toList, hn1]
       omega
      ·omega
      ·intro i e' j cc he' hcc
       obtain ⟨u, h3, h4⟩ := hn4 i e' j cc he' hcc
       have hlt := Z09 h3
       refine ⟨u, ?_, h4, hn3 u (List.mem_of_getElem? h3)⟩
       rw [List.getElem?_toArray, Z0x _ _ _ _ (by have := Array.length_toList (xs := cells); omega), if_neg (by omega), if_pos (by rw [hn1] at hlt ⊢; omega), ← h3]
       congr 1)
    exact ⟨C, _, h, hs.put he1.le hw1 (Z0s hd) (.v _), hx0.trans he1⟩
def byteRows (x : ByteArray) : List (List AV) := x.data.toList.map fun b => [.v (.int .u8 b.toNat)]
theorem Z21 (x : ByteArray) : (byteRows x).length = x.size := by
 unfold byteRows
 rw [List.length_map, Array.length_toList]; rfl
theorem Z3f {C : Ctx} {H : AHeap} {w : World} {Z : List Nat} {t tx ty e bytes id id' k : Nat} {v : Value} {x : ByteArray} {xs : List (List AV)} [hu : UD P t (.slice e)] [hux : UD P tx .string] [ha : AP P e 1 bytes]
  (hs : WR C H w) (hH : H[k]? = some (id, .rows e 1 xs)) (hp : VR C (.own id 1 0 xs.length) v)
  (hml : (xs.length + x.size) * bytes ≤ 140737488355328) (hm : xs.length + x.size ≤ maxLen) (hid : id' ∉ C.U) (hidz : id' ∉ Z) :
  ∃ v' w' C', (Builtin.append_ #[t, tx] ty #[v, .string x]).run P w = .ok v' w' ∧ VR C' (.own id' 1 0 (xs.length + x.size)) v' ∧ WR C' (H.set k (id', .rows e 1 (xs ++ byteRows x))) w' ∧ Ext Z C H w C' (H.set k (id', .rows e 1 (xs ++ byteRows x))) w' := by
 obtain ⟨i, z, hi, hz, hsz, hby, hzs, hpos⟩ := AP.open ha.ap
 have hmem := List.mem_of_getElem? hH
 have hown : SlA H 1 (.own id 1 0 xs.length) xs := ⟨rfl, e, xs, hmem, by omega, by simp⟩
 obtain ⟨hu', hlenx, hor⟩ := hs.ids _ _ hmem
 obtain ⟨adp, cp, hv, hnilp, _, hcellsp⟩ := hown.cells hs hp
 have hsrc := Src.ofString (P := P) w hux.ud x
 have hlb := byteCells_length x
 have hlen : ∀ e : List AV, e ∈ byteRows x → e.length = 1 := by
  intro e he; obtain ⟨b, _, rfl⟩ := List.mem_map.1 he; rfl
 have hav : ∀ x, ∀ z, z ∈ Z → z ∉ C.U → z ∉ (C.bindO id' x).U := by
  intro x z hz' hn
  simp only [Ctx.bindO, List.mem_cons, not_or]
  exact ⟨fun e => hidz (e ▸ hz'), hn⟩
 have hle : ∀ x, C.Le (C.bindO id' x) := fun x => Ctx.le_bindO hid
 have hn4 : ∀ (i : Nat) (e : List AV) (j : Nat) (cc : AV), (byteRows x)[i]? = some e → e[j]? = some cc → ∃ u, (byteCells x)[i * 1 + j]? = some u ∧ ∀ C : Ctx, VR C cc u := by
  intro i e j cc h1 h2
  unfold byteRows at h1
  rw [List.getElem?_map] at h1
  cases h3 : x.data.toList[i]? with
  | none => rw [h3] at h1; cases h1
  | some b =>
   rw [h3] at h1; simp at h1; subst h1
   have hj := Z09 h2
   simp at hj; subst hj
   simp at h2; subst h2
   refine ⟨.int .u8 b.toNat, ?_, fun C => .v _⟩
   unfold byteCells
   rw [Nat.mul_one, Nat.add_zero, List.getElem?_map, h3]; rfl
 have grow : ∀ (olds zs : List Value) (N : Nat), olds.length = xs.length * 1 → (olds ++ byteCells x ++ zs).length = N →
   (∀ (i : Nat) (e : List AV) (j : Nat) (cc : AV), xs[i]? = some e → e[j]? = some cc → ∃ u, olds[i * 1 + j]? = some u ∧ VR C cc u) →
   (∀ u, u ∈ olds → u.oneCell' = true) →
   WR (C.bindO id' (some (w.heap.size, N))) (H.set k (id', .rows e 1 (xs ++ byteRows x))) (w.drew.alloc (.cells (olds ++ byteCells x ++ zs).toArray e)) ∧
    Ext Z C H w (C.bindO id' (some (w.heap.size, N))) (H.set k (id', .rows e 1 (xs ++ byteRows x))) (w.drew.alloc (.cells (olds ++ byteCells x ++ zs).toArray e)) := by
  intro olds zs N h1 h3 h4 h6
  have hal : ∀ b, b < w.heap.size → (w.drew.alloc (.cells (olds ++ byteCells x ++ zs).toArray e)).heap[b]? = w.heap[b]? := fun b hb => heap_alloc_old w.drew _ (h := hb)
  refine Z18 hs hH (hle _) rfl (.inr hid) List.mem_cons_self (hav _) rfl rfl rfl (by simp) (fun b N' hm => .inr ?_) (fun b hb _ => hal b hb) ?_
  ·rw [Ctx.bindO_m] at hm; cases hm; exact Nat.le_refl _
  ·exact Zfp (w := w) (Ctx.bindO_m ..) (heap_alloc_new w.drew _) h3 hlenx hlen h1 (by rw [hlb, Z21, Nat.mul_one]) (fun i e' j cc a b => let ⟨u, x, y⟩ := h4 i e' j cc a b; ⟨u, x, y.mono (hle _)⟩) (fun i e' j cc a b => let ⟨u, x, y⟩ := hn4 i e' j cc a b; ⟨u, x, y _⟩) h6 hsrc.one
 have hvgrow : ∀ cap, xs.length + x.size ≤ cap → cap ≤ maxLen → VR (C.bindO id' (some (w.heap.size, cap * 1))) (.own id' 1 0 (xs.length + x.size)) (.slice (some ⟨w.heap.size, 0, none⟩) (xs.length + x.size) cap) := by
  intro cap h1 h2
  have := VR.own (C := C.bindO id' (some (w.heap.size, cap * 1))) id' 1 0 (xs.length + x.size) w.heap.size (cap * 1) cap (Ctx.bindO_m ..) List.mem_cons_self (by simp) h1 h2
  simpa using this
 have hzc : ∀ m cap, m ≤ cap → m * 1 + (Builtin.zeroCells z.cells (cap - m)).size = cap * 1 := by
  intro m cap h
  rw [size_zeroCells, hzs, ← Nat.add_mul]; congr 1; omega
 have hm63 : ((xs.length + x.size : Nat) : Int) ≤ 9223372036854775807 := by simp only [maxLen] at hm; omega
 -- there is no room
 have nogo : ∀ (base : Option Addr) (cap : Nat) (olds : List Value), (Builtin.firstCells i.size xs.length (.slice base xs.length cap)).run P w.drew = .ok olds.toArray w.drew → cap < xs.length + x.size → olds.length = xs.length * 1 →
   (∀ (i : Nat) (e : List AV) (j : Nat) (cc : AV), xs[i]? = some e → e[j]? = some cc → ∃ u, olds[i * 1 + j]? = some u ∧ VR C cc u) → (∀ u, u ∈ olds → u.oneCell' = true) →
   ∃ v' w' C', (Builtin.append_ #[t, tx] ty #[.slice base xs.length cap, .string x]).run P w = .ok v' w' ∧ VR C' (.own id' 1 0 (xs.length + x.size)) v' ∧ WR C' (H.set k (id', .rows e 1 (xs ++ byteRows x))) w' ∧ Ext Z C H w C' (H.set k (id', .rows e 1 (xs ++ byteRows x))) w' := by
  intro base cap olds hold hg h1 h2 h3
  have hcap1 := grownCap_ge w (xs.length + x.size) cap e
  have hcapm := grownCap_le_maxLen w (xs.length + x.size) cap e hm
  have hrun := run_append_grow_src (P := P) w t tx ty e i z hu.ud hi hz base xs.length cap olds hold (.string x) x.size (byteCells x) (by rw [hsz]; exact hsrc) hg hm63 (by rw [hby]; exact growslice_fits hg hml)
  obtain ⟨h4, h5⟩ := grow olds (Builtin.zeroCells z.cells (grownCap w (xs.length + x.size) cap e - (xs.length + x.size))).toList (grownCap w (xs.length + x.size) cap e * 1) h1
   (by have := hzc (xs.length + x.size) _ hcap1; simp only [List.length_append, Array.length_toList, hlb, h1]; omega) h2 h3
  have e0 : ((olds ++ byteCells x).toArray ++ Builtin.zeroCells z.cells (grownCap w (xs.length + x.size) cap e - (xs.length + x.size))) = (olds ++ byteCells x ++ (Builtin.zeroCells z.cells (grownCap w (xs.length + x.size) cap e - (xs.length + x.size))).toList).toArray := by simp
  rw [e0] at hrun
  exact ⟨_, _, _, hrun, hvgrow _ hcap1 hcapm, h4, h5⟩
 have hp' := hp
 generalize hxn : xs.length = n at hp'
 cases hp' with
 | ownNil _ _ hmn =>
  have hx0 : xs = [] := List.length_eq_zero_iff.1 hxn
  subst hx0
  rcases Nat.eq_zero_or_pos x.size with h0 | h0
  ·have hx : byteRows x = [] := List.length_eq_zero_iff.1 (by rw [Z21]; exact h0)
   refine ⟨.slice none 0 0, w, C.bindO id' (C.m id), ?_, ?_, ?_⟩
   ·have hb : byteCells x = [] := List.length_eq_zero_iff.1 (by rw [hlb]; exact h0)
    have hc := hsrc.cells
    rw [h0] at hc
    rw [hb] at hc
    simp [Builtin.append_, Go.run_underlying hu.ud, Go.run_underlying hux.ud, sizeOf, typeInfo, hi, hsz, Builtin.lenOf, h0, hc, Result.andThen, Sem.run_bind]
   ·have := VR.ownNil (C := C.bindO id' (C.m id)) id' 1 (by rw [Ctx.bindO_m]; exact hmn) List.mem_cons_self
    simpa [h0] using this
   ·rw [hx]
    refine Z18 hs hH (hle _) rfl (.inr hid) List.mem_cons_self (hav _) rfl rfl rfl (Nat.le_refl _) (fun b N hm => .inl ⟨N, by rw [Ctx.bindO_m] at hm; exact hm⟩) (fun _ _ _ => rfl) ?_
    exact ⟨nofun, .inl ⟨by rw [Ctx.bindO_m]; exact hmn, rfl⟩⟩
  ·have := nogo none 0 [] (by simp [Builtin.firstCells]) (by simpa using h0) rfl (by intro i e j cc h; simp at h) nofun
   simpa using this
 | own _ _ _ _ b N cap hmb _ hcap hlc hcm =>
  subst hxn
  rcases hor with ⟨hm0, _⟩ | ⟨b', N', cells, hmb', hh, hsN, hfit, hrow⟩
  ·rw [hmb] at hm0; cases hm0
  ·rw [hmb] at hmb'; cases hmb'
   simp only [Nat.zero_mul, Nat.zero_add] at hcap hv ⊢
   rcases Nat.lt_or_ge cap (xs.length + x.size) with hg | hg
   ·obtain ⟨olds, ho1, ho2, ho3, ho4⟩ := hcellsp ⟨b, 0, none⟩ (by simpa using (by cases hv; rfl : (some (⟨b, 0, none⟩ : Addr)) = adp).symm)
    exact nogo (some ⟨b, 0, none⟩) cap olds (by rw [hsz]; exact run_firstCells_some w.drew 1 xs.length ⟨b, 0, none⟩ xs.length cap olds ho1 (by simpa using ho2)) hg ho1 ho4 ho3
   ·have hNs : xs.length + x.size ≤ cells.size := by rw [hsN, ← hcap]; omega
    have hst := run_storeCells_at P b xs.length e (byteCells x) 0 cells w hh (by rw [hlb]; omega) hsrc.one
    simp only [Nat.add_zero] at hst
    have hrun : (Builtin.append_ #[t, tx] ty #[.slice (some ⟨b, 0, none⟩) xs.length cap, .string x]).run P w = .ok (.slice (some ⟨b, 0, none⟩) (xs.length + x.size) cap) (w.setRow b (cells.toList.take xs.length ++ byteCells x ++ cells.toList.drop (xs.length + (byteCells x).length)).toArray) := by
     have hc := hsrc.cells
     simp [Builtin.append_, Go.run_underlying hu.ud, Go.run_underlying hux.ud, sizeOf, typeInfo, hi, hsz, Builtin.lenOf, hg, hc, hst, Z3p, Result.andThen, Sem.run_bind]
    refine ⟨_, _, C.bindO id' (C.m id), hrun, ?_, ?_⟩
    ·have := VR.own (C := C.bindO id' (C.m id)) id' 1 0 (xs.length + x.size) b N cap (by rw [Ctx.bindO_m]; exact hmb) List.mem_cons_self (by simpa using hcap) hg hcm
     simpa using this
    ·refine Z18 hs hH (hle _) rfl (.inr hid) List.mem_cons_self (hav _) rfl rfl rfl (by simp) (fun b2 N2 hm2 => .inl ⟨N2, by rw [Ctx.bindO_m] at hm2; exact hm2⟩) (fun b2 hb2 hne => setRow_other w b b2 _ (by rintro rfl; exact hne N hmb)) ?_
     refine ⟨?_, .inr ⟨b, N, _, by rw [Ctx.bindO_m]; exact hmb, setRow_heap w b cells _ e (0, 0) hh, ?_, ?_, ?_⟩⟩
     ·intro e' he'
      rcases List.mem_append.1 he' with h | h
      ·exact hlenx e' h
      ·exact hlen e' h
     ·simp only [List.size_toArray, List.length_append, List.length_take, List.length_drop, Array.length_toList, hlb]
      omega
     ·rw [List.length_append, Z21]; omega
     ·intro i' e' j cc he' hcc
      rw [List.getElem?_toArray, Z0x _ _ _ _ (by rw [hlb, Array.length_toList]; exact hNs), hlb]
      rw [List.getElem?_append] at he'
      split at he'
      ·rename_i hlt
       have hj : j < 1 := by rw [← hlenx e' (List.mem_of_getElem? he')]; exact Z09 hcc
       rw [if_pos (by omega), Array.getElem?_toList]
       obtain ⟨u, h1, h2, h3⟩ := hrow i' e' j cc he' hcc
       exact ⟨u, h1, h2.mono (hle _), h3⟩
      ·rename_i hge
       obtain ⟨u, h1, h2⟩ := hn4 (i' - xs.length) e' j cc he' hcc
       have hlt := Z09 h1
       rw [hlb] at hlt
       rw [if_neg (by omega), if_pos (by omega)]
       refine ⟨u, ?_, h2 _, hsrc.one u (List.mem_of_getElem? h1)⟩
       rw [← h1]; congr 1; omega
theorem Z7n {t tx e bytes id : Nat} {p q : Operand} {x : ByteArray} {xs : List (List AV)} {n : Nat} (k : Nat) [hu : UD P t (.slice e)] [hux : UD P tx .string] [ha : AP P e 1 bytes] (hw : Wanted ops s.T o true) (hd : dok o.dst s.n = true)
  (ho : o.op = .call { callee := .builtin .append, args := #[p, q], argTypes := #[t, tx] }) (hp : ev s.T p = some (.own id 1 0 n)) (hH : s.H[k]? = some (id, .rows e 1 xs)) (hn : n = xs.length) (hq : ev s.T q = some (.v (.string x)))
  (hml : (xs.length + x.size) * bytes ≤ 140737488355328) (hm : xs.length + x.size ≤ maxLen)
  (h : ∀ id', AOps P ro ops rest Q { s with T := put s.T o.dst (.own id' 1 0 (xs.length + x.size)), H := s.H.set k (id', .rows e 1 (xs ++ byteRows x)) }) : AOps P ro ops (o :: rest) Q s := by
 subst hn
 refine Z0v hw ?_
 intro Z C0 H0 w0 C a w hx0 hs
 obtain ⟨id', hid⟩ := Z8c (C.U ++ Z)
 rw [List.mem_append, not_or] at hid
 obtain ⟨v', w', C', h1, h2, h3, h4⟩ := Z3f (P := P) (ty := o.type) (t := t) (tx := tx) hs.wr hH (hs.ev hp) hml hm hid.1 hid.2
 have hqv := VR.val (hs.ev hq)
 have hr : (o.semAt ro a.eval).run P w = .ok (.value v') w' := by
  rw [Oper.semAt_eq _ _ _ (by intro c; rw [ho]; nofun)]
  simp [execOp, ho, resolve, invoke, builtin, hqv, h1, Result.andThen, Sem.run_bind]
 rw [hr]
 exact ⟨C', _, h id', hs.put h4.le h3 (Z0s hd) h2, hx0.trans h4⟩
end Go.Sx
namespace Go.Sx
open Go
variable {P : Program} {ro : Option Nat} {Q : Exit → St → Prop} {s : St} {ops : Array Oper} {o : Oper} {rest : List Oper} {T : List (Nat × AV)}
end Go.Sx
namespace Go.Sx
open Go
theorem adB (a : Addr) (n : Nat) : (a.add n).block = a.block := by unfold Addr.add; split <;> rfl
theorem adO (a : Addr) (n : Nat) : (a.add n).off = a.off + n := by unfold Addr.add; split; omega; rfl
theorem adS (a : Addr) (n : Nat) (h : a.spot = none) : (a.add n).spot = none := by unfold Addr.add; split; exact h; rfl
section
variable {P : Program} {T : List (Nat × AV)} {o : Oper}
theorem Z4f {t e n : Nat} {b : Bool} {p q : Operand} {es : List (List AV)} {kd : IntKind} {k : Int} [h : UD P t (.slice e)] [k1 : TK P e b n] (ho : o.op = .slice t p (some q) none none)
  (hp : ev T p = some (.lst es)) (hq : ev T q = some (.v (.int kd k))) (hes : ∀ e : List AV, e ∈ es → e.length = n) (h0 : 0 ≤ k) (h1 : k ≤ es.length) : Eff P o T [] (.lst (es.drop k.toNat)) [] :=
 Z01 (by intro c; rw [ho]; nofun) fun C H a w hw hn hv => by
  have h2 := hv p (by rw [ho]; simp [Op.operands]) _ hp
  have h3 := VR.val (hv q (by rw [ho]; simp [Op.operands]) _ hq)
  generalize hpv : a.eval p = u at h2
  cases h2 with
  | lstNil =>
   have hk : k = 0 := by simp at h1; omega
   subst hk
   refine ⟨.slice none 0 0, ?_, by simpa using VR.lstNil⟩
   have hb : ∀ code, (Instr.sliceBound (.int kd 0) 0 code).run P w = .ok 0 w := fun code => Z1f rfl (by omega) (by omega) w
   simp [execOp, ho, hpv, h3, Instr.sliceAt, Instr.slice, Instr.sliceBounds, run_underlying (d := .slice e), Z0d k1.tk, hb, Sem.run_bind, Result.andThen, Sem.run_pure]
  | lst _ ad sz cap cells elem fz xs hs hb hz hc hvv ho' hcap =>
   have hkc : k ≤ (es.length : Int) := h1
   refine ⟨.slice (some (if cap = k.toNat then ad else ad.add (k.toNat * n))) (es.length - k.toNat) (cap - k.toNat), ?_, ?_⟩
   ·by_cases hck : cap = k.toNat <;>
     simp [hck, execOp, ho, hpv, h3, Instr.sliceAt, Instr.slice, Instr.sliceBounds, run_underlying (d := .slice e), Z0d k1.tk, Z1f rfl h0 hkc, Sem.run_bind, Result.andThen, Sem.run_pure]
   ·have hl : (es.drop k.toNat).length = es.length - k.toNat := by rw [List.length_drop]
    have hne : es.drop k.toNat ≠ [] → es ≠ [] := fun h e => h (by rw [e]; simp)
    have hne2 : es.drop k.toNat ≠ [] → ¬ cap = k.toNat := fun h e => h (by rw [List.drop_of_length_le (by omega)])
    have hget : ∀ (i : Nat) (e : List AV), (es.drop k.toNat)[i]? = some e → es[k.toNat + i]? = some e := fun i e h => by
     rw [List.getElem?_drop] at h; exact h
    have hsz : es ≠ [] → sz = n := fun h => by
     cases es with
     | nil => exact absurd rfl h
     | cons x r => rw [← hz x List.mem_cons_self, hes x List.mem_cons_self]
    have hfin := VR.lst (C := C) (es.drop k.toNat) (if cap = k.toNat then ad else ad.add (k.toNat * n)) sz (cap - k.toNat) cells elem fz (fun i j => xs (k.toNat + i) j)
     (fun h => by rw [if_neg (hne2 h)]; exact adS _ _ (hs (hne h))) (fun h => by rw [if_neg (hne2 h)]; rw [adB]; exact hb (hne h)) (fun e he => hz e (List.mem_of_mem_drop he))
     (fun i e j c g1 g2 => by
      have hm : es.drop k.toNat ≠ [] := fun e => by rw [e] at g1; simp at g1
      rw [if_neg (hne2 hm), ← hc (k.toNat + i) e j c (hget i e g1) g2]
      congr 1
      have := hsz (hne hm)
      subst this
      rw [adO, Nat.add_mul]; omega)
     (fun i e j c g1 g2 => hvv _ e j c (hget i e g1) g2) (fun i e j c g1 g2 => ho' _ e j c (hget i e g1) g2) (by omega)
    rw [hl] at hfin
    exact hfin
end
section
variable {P : Program} {ro : Option Nat} {Q : Exit → St → Prop} {s : St} {ops : Array Oper} {o : Oper} {rest : List Oper}
end
end Go.Sx
namespace Go.Sx
open Go
section
variable {P : Program} {ro : Option Nat} {Q : Exit → St → Prop} {s : St}
end
section
variable {P : Program} {T : List (Nat × AV)} {o : Oper}
theorem Z2a {t t' : TypeId} {p q : Operand} {x y : ByteArray} (ho : o.op = .binOp .add t p q t') (hp : ev T p = some (.v (.string x))) (hq : ev T q = some (.v (.string y))) (hz : x.size + y.size ≤ 9223372036854775807) : Eff P o T [] (.v (.string (x ++ y))) [] :=
 Z01 (by intro c; rw [ho]; nofun) fun C H a w hw hn hv => by
  have h2 := VR.val (hv p (by rw [ho]; simp [Op.operands]) _ hp)
  have h3 := VR.val (hv q (by rw [ho]; simp [Op.operands]) _ hq)
  refine ⟨.string (x ++ y), ?_, .v _⟩
  have hm : ¬ ((x.size + y.size : Nat) : Int) > IntKind.i64.max := by
   have : IntKind.i64.max = 9223372036854775807 := rfl
   omega
  simp [execOp, ho, h2, h3, eqGuard, binOp, Op.stringOp, Sem.run_bind, Result.andThen]
  rw [if_neg (by simpa using hm)]
end
def pull : AHeap → List Nat → Option (AHeap × AHeap)
 | H, [] => some ([], H)
 | H, k :: ks => match H[k]? with
  | some p => match pull (H.eraseIdx k) ks with
   | some (A, B) => some (p :: A, B)
   | none => none
  | none => none
end Go.Sx
namespace Go.Sx
open Go
def ARounds (P : Program) (ro : Option Nat) (c : Code) (Q : Exit → St → Prop) : Nat → St → Prop
 | 0, _ => False
 | m + 1, s => AWp P ro c (thenQ (ARounds P ro c Q m) Q) s
theorem Z6c {P : Program} {ro : Option Nat} {c : Code} {Q : Exit → St → Prop} {s : St} (m : Nat) (h : ARounds P ro c Q m s) : AWp P ro (.loop c) Q s := by
 intro Z C0 H0 w0 C a w he hs
 refine wpIn_loop_rounds m ?_
 induction m generalizing s C a w with
 | zero => exact h.elim
 | succ m ih =>
  refine wpIn_mono (h Z C0 H0 w0 C a w he hs) ?_
  rintro e a' w' ⟨h1, C', s', hq, hs', he'⟩
  cases e with
  | normal => exact ih hq C' a' w' he' hs'
  | outgrown => exact absurd rfl h1
  | _ => exact ⟨h1, C', s', hq, hs', he'⟩
theorem zRd {P : Program} {ro : Option Nat} {c : Code} {Q : Exit → St → Prop} {s : St} {m : Nat} (h : AWp P ro c (thenQ (ARounds P ro c Q m) Q) s) : ARounds P ro c Q (m + 1) s := h
end Go.Sx
namespace Go.Sx
open Go
class Con (P : Program) (f : Nat) (xs : List AV) (x : outParam AV) : Prop where
 c : ACalls P f xs [] (Gives x)
structure Wk (A : Prop) : Prop where
 x : A
theorem wY {ops : Array Oper} {o : Oper} {T : List (Nat × AV)} {g t : Nat} {b : Bool} {og : Oper} (h : o.guard = some (g, b)) (h1 : ops[g]? = some og) (h2 : og.dst = some t) (h3 : lk T t = some (.v (.bool b))) : Wanted ops T o true := by
 cases b
 ·exact wF h h1 h2 h3
 ·exact wT h h1 h2 h3
theorem wZ {ops : Array Oper} {o : Oper} {T : List (Nat × AV)} {g t : Nat} {b : Bool} {og : Oper} (h : o.guard = some (g, b)) (h1 : ops[g]? = some og) (h2 : og.dst = some t) (h3 : lk T t = some (.v (.bool (!b)))) : Wanted ops T o false := by
 cases b
 ·exact wF h h1 h2 h3
 ·exact wT h h1 h2 h3
section
variable {P : Program} {t : TypeId} {r : List AV}
theorem Zb5 {x1 x2 : AV} [h : TK P t true 2] : Ld P t (x1 :: x2 :: r) (.agg [x1, x2]) := .inr ⟨2, h.tk, by simp, rfl⟩
theorem Zel {x1 x2 x3 : AV} [h : TK P t true 3] : Ld P t (x1 :: x2 :: x3 :: r) (.agg [x1, x2, x3]) := .inr ⟨3, h.tk, by simp, rfl⟩
theorem Zem {x1 x2 x3 x4 : AV} [h : TK P t true 4] : Ld P t (x1 :: x2 :: x3 :: x4 :: r) (.agg [x1, x2, x3, x4]) := .inr ⟨4, h.tk, by simp, rfl⟩
theorem Zen {x1 x2 x3 x4 x5 : AV} [h : TK P t true 5] : Ld P t (x1 :: x2 :: x3 :: x4 :: x5 :: r) (.agg [x1, x2, x3, x4, x5]) := .inr ⟨5, h.tk, by simp, rfl⟩
theorem Zeo {x1 x2 x3 x4 x5 x6 x7 : AV} [h : TK P t true 7] : Ld P t (x1 :: x2 :: x3 :: x4 :: x5 :: x6 :: x7 :: r) (.agg [x1, x2, x3, x4, x5, x6, x7]) := .inr ⟨7, h.tk, by simp, rfl⟩
end
def maskOf (ms : List Nat) (o : Oper) : Nat := o.after.foldl (fun m e => bif Region.binds .any e then m ||| (1 <<< e.on) ||| ms.getD e.on 0 else m) 0
def masksOf (l : List Oper) : List Nat := l.foldl (fun ms o => ms ++ [maskOf ms o]) []
section
variable {P : Program} {ro : Option Nat} {Q : Exit → St → Prop} {ops : Array Oper} {rest : List Oper} {T : List (Nat × AV)} {H : AHeap} {D : List Nat} {n d ty : Nat} {po : String} {af : Array Edge} {p q : Operand} {x y : AV} {t t' : TypeId} {H0 : AHeap} {KK : St → Prop} {kk : Nat} {M : List (Nat × (Nat × AObj))}
theorem zM  (h : AOps P ro ops rest Q ⟨(d, x) :: T, H, D, n⟩) (hp : ev T p = some x := by rfl) (hd : Nat.blt d n = true := by rfl) : AOps P ro ops ({ dst := some d, op := .move p, type := ty, pos := po, after := af, guard := none } :: rest) Q ⟨T, H, D, n⟩ := Z1 (w0 rfl) hd (Z0 rfl hp) h
theorem zcM  (h : Calm P ops H0 KK (kk + 1) rest M ⟨(d, x) :: T, H, D, n⟩) (hp : ev T p = some x := by rfl) (hd : Nat.blt d n = true := by rfl) : Calm P ops H0 KK kk ({ dst := some d, op := .move p, type := ty, pos := po, after := af, guard := none } :: rest) M ⟨T, H, D, n⟩ := Z9 (w0 rfl) hd (Z0 rfl hp) h
theorem Zkn  {g gt : Nat} {gb : Bool} {og : Oper} (h : Calm P ops H0 KK (kk + 1) rest M ⟨(d, x) :: T, H, D, n⟩) (g1 : ops[g]? = some og := by rfl) (g2 : og.dst = some gt := by rfl) (g3 : lk T gt = some (.v (.bool gb)) := by rfl) (hp : ev T p = some x := by rfl) (hd : Nat.blt d n = true := by rfl) : Calm P ops H0 KK kk ({ dst := some d, op := .move p, type := ty, pos := po, after := af, guard := some (g, gb) } :: rest) M ⟨T, H, D, n⟩ := Z9 (wY rfl g1 g2 g3) hd (Z0 rfl hp) h
theorem zgM  {g gt : Nat} {gb : Bool} {og : Oper} (h : AOps P ro ops rest Q ⟨(d, x) :: T, H, D, n⟩) (g1 : ops[g]? = some og := by rfl) (g2 : og.dst = some gt := by rfl) (g3 : lk T gt = some (.v (.bool gb)) := by rfl) (hp : ev T p = some x := by rfl) (hd : Nat.blt d n = true := by rfl) : AOps P ro ops ({ dst := some d, op := .move p, type := ty, pos := po, after := af, guard := some (g, gb) } :: rest) Q ⟨T, H, D, n⟩ := Z1 (wY rfl g1 g2 g3) hd (Z0 rfl hp) h
theorem zA  (h : AOps P ro ops rest Q ⟨(d, x) :: T, H, D, n⟩) (hp : ev T p = some x := by rfl) (hd : Nat.blt d n = true := by rfl) : AOps P ro ops ({ dst := some d, op := .assign p, type := ty, pos := po, after := af, guard := none } :: rest) Q ⟨T, H, D, n⟩ := Z1 (w0 rfl) hd (Z3 rfl hp) h
theorem zcA  (h : Calm P ops H0 KK (kk + 1) rest M ⟨(d, x) :: T, H, D, n⟩) (hp : ev T p = some x := by rfl) (hd : Nat.blt d n = true := by rfl) : Calm P ops H0 KK kk ({ dst := some d, op := .assign p, type := ty, pos := po, after := af, guard := none } :: rest) M ⟨T, H, D, n⟩ := Z9 (w0 rfl) hd (Z3 rfl hp) h
theorem Zkh  {g gt : Nat} {gb : Bool} {og : Oper} (h : Calm P ops H0 KK (kk + 1) rest M ⟨(d, x) :: T, H, D, n⟩) (g1 : ops[g]? = some og := by rfl) (g2 : og.dst = some gt := by rfl) (g3 : lk T gt = some (.v (.bool gb)) := by rfl) (hp : ev T p = some x := by rfl) (hd : Nat.blt d n = true := by rfl) : Calm P ops H0 KK kk ({ dst := some d, op := .assign p, type := ty, pos := po, after := af, guard := some (g, gb) } :: rest) M ⟨T, H, D, n⟩ := Z9 (wY rfl g1 g2 g3) hd (Z3 rfl hp) h
theorem zgA  {g gt : Nat} {gb : Bool} {og : Oper} (h : AOps P ro ops rest Q ⟨(d, x) :: T, H, D, n⟩) (g1 : ops[g]? = some og := by rfl) (g2 : og.dst = some gt := by rfl) (g3 : lk T gt = some (.v (.bool gb)) := by rfl) (hp : ev T p = some x := by rfl) (hd : Nat.blt d n = true := by rfl) : AOps P ro ops ({ dst := some d, op := .assign p, type := ty, pos := po, after := af, guard := some (g, gb) } :: rest) Q ⟨T, H, D, n⟩ := Z1 (wY rfl g1 g2 g3) hd (Z3 rfl hp) h
theorem zI {b : BinOp} {k : IntKind} {u v : Int} {z : Bool} (h : AOps P ro ops rest Q ⟨(d, .v (.bool z)) :: T, H, D, n⟩) (hp : ev T p = some (.v (.int k u)) := by rfl) (hq : ev T q = some (.v (.int k v)) := by rfl) (hz : icmp b u v = some z := by rfl) (hd : Nat.blt d n = true := by rfl) : AOps P ro ops ({ dst := some d, op := .binOp b t p q t', type := ty, pos := po, after := af, guard := none } :: rest) Q ⟨T, H, D, n⟩ := Z1 (w0 rfl) hd (Zd rfl hp hq hz) h
theorem zcI {b : BinOp} {k : IntKind} {u v : Int} {z : Bool} (h : Calm P ops H0 KK (kk + 1) rest M ⟨(d, .v (.bool z)) :: T, H, D, n⟩) (hp : ev T p = some (.v (.int k u)) := by rfl) (hq : ev T q = some (.v (.int k v)) := by rfl) (hz : icmp b u v = some z := by rfl) (hd : Nat.blt d n = true := by rfl) : Calm P ops H0 KK kk ({ dst := some d, op := .binOp b t p q t', type := ty, pos := po, after := af, guard := none } :: rest) M ⟨T, H, D, n⟩ := Z9 (w0 rfl) hd (Zd rfl hp hq hz) h
theorem Zkj {b : BinOp} {k : IntKind} {u v : Int} {z : Bool} {g gt : Nat} {gb : Bool} {og : Oper} (h : Calm P ops H0 KK (kk + 1) rest M ⟨(d, .v (.bool z)) :: T, H, D, n⟩) (g1 : ops[g]? = some og := by rfl) (g2 : og.dst = some gt := by rfl) (g3 : lk T gt = some (.v (.bool gb)) := by rfl) (hp : ev T p = some (.v (.int k u)) := by rfl) (hq : ev T q = some (.v (.int k v)) := by rfl) (hz : icmp b u v = some z := by rfl) (hd : Nat.blt d n = true := by rfl) : Calm P ops H0 KK kk ({ dst := some d, op := .binOp b t p q t', type := ty, pos := po, after := af, guard := some (g, gb) } :: rest) M ⟨T, H, D, n⟩ := Z9 (wY rfl g1 g2 g3) hd (Zd rfl hp hq hz) h
theorem zgI {b : BinOp} {k : IntKind} {u v : Int} {z : Bool} {g gt : Nat} {gb : Bool} {og : Oper} (h : AOps P ro ops rest Q ⟨(d, .v (.bool z)) :: T, H, D, n⟩) (g1 : ops[g]? = some og := by rfl) (g2 : og.dst = some gt := by rfl) (g3 : lk T gt = some (.v (.bool gb)) := by rfl) (hp : ev T p = some (.v (.int k u)) := by rfl) (hq : ev T q = some (.v (.int k v)) := by rfl) (hz : icmp b u v = some z := by rfl) (hd : Nat.blt d n = true := by rfl) : AOps P ro ops ({ dst := some d, op := .binOp b t p q t', type := ty, pos := po, after := af, guard := some (g, gb) } :: rest) Q ⟨T, H, D, n⟩ := Z1 (wY rfl g1 g2 g3) hd (Zd rfl hp hq hz) h
theorem zU {b : BinOp} {u v : ByteArray} {z : Bool} (h : AOps P ro ops rest Q ⟨(d, .v (.bool z)) :: T, H, D, n⟩) (hp : ev T p = some (.v (.string u)) := by rfl) (hq : ev T q = some (.v (.string v)) := by rfl) (hz : scmp b u v = some z := by rfl) (hd : Nat.blt d n = true := by rfl) : AOps P ro ops ({ dst := some d, op := .binOp b t p q t', type := ty, pos := po, after := af, guard := none } :: rest) Q ⟨T, H, D, n⟩ := Z1 (w0 rfl) hd (Z0m rfl hp hq hz) h
theorem zcU {b : BinOp} {u v : ByteArray} {z : Bool} (h : Calm P ops H0 KK (kk + 1) rest M ⟨(d, .v (.bool z)) :: T, H, D, n⟩) (hp : ev T p = some (.v (.string u)) := by rfl) (hq : ev T q = some (.v (.string v)) := by rfl) (hz : scmp b u v = some z := by rfl) (hd : Nat.blt d n = true := by rfl) : Calm P ops H0 KK kk ({ dst := some d, op := .binOp b t p q t', type := ty, pos := po, after := af, guard := none } :: rest) M ⟨T, H, D, n⟩ := Z9 (w0 rfl) hd (Z0m rfl hp hq hz) h
theorem Zkp {b : BinOp} {u v : ByteArray} {z : Bool} {g gt : Nat} {gb : Bool} {og : Oper} (h : Calm P ops H0 KK (kk + 1) rest M ⟨(d, .v (.bool z)) :: T, H, D, n⟩) (g1 : ops[g]? = some og := by rfl) (g2 : og.dst = some gt := by rfl) (g3 : lk T gt = some (.v (.bool gb)) := by rfl) (hp : ev T p = some (.v (.string u)) := by rfl) (hq : ev T q = some (.v (.string v)) := by rfl) (hz : scmp b u v = some z := by rfl) (hd : Nat.blt d n = true := by rfl) : Calm P ops H0 KK kk ({ dst := some d, op := .binOp b t p q t', type := ty, pos := po, after := af, guard := some (g, gb) } :: rest) M ⟨T, H, D, n⟩ := Z9 (wY rfl g1 g2 g3) hd (Z0m rfl hp hq hz) h
theorem zgU {b : BinOp} {u v : ByteArray} {z : Bool} {g gt : Nat} {gb : Bool} {og : Oper} (h : AOps P ro ops rest Q ⟨(d, .v (.bool z)) :: T, H, D, n⟩) (g1 : ops[g]? = some og := by rfl) (g2 : og.dst = some gt := by rfl) (g3 : lk T gt = some (.v (.bool gb)) := by rfl) (hp : ev T p = some (.v (.string u)) := by rfl) (hq : ev T q = some (.v (.string v)) := by rfl) (hz : scmp b u v = some z := by rfl) (hd : Nat.blt d n = true := by rfl) : AOps P ro ops ({ dst := some d, op := .binOp b t p q t', type := ty, pos := po, after := af, guard := some (g, gb) } :: rest) Q ⟨T, H, D, n⟩ := Z1 (wY rfl g1 g2 g3) hd (Z0m rfl hp hq hz) h
theorem zUt {b : BinOp} {u v : ByteArray} (h : AOps P ro ops rest Q ⟨(d, .v (.bool true)) :: T, H, D, n⟩) (hp : ev T p = some (.v (.string u)) := by rfl) (hq : ev T q = some (.v (.string v)) := by rfl) (hz : scmp b u v = some true := by decide +kernel) (hd : Nat.blt d n = true := by rfl) : AOps P ro ops ({ dst := some d, op := .binOp b t p q t', type := ty, pos := po, after := af, guard := none } :: rest) Q ⟨T, H, D, n⟩ := Z1 (w0 rfl) hd (Z0m rfl hp hq hz) h
theorem Zkg {b : BinOp} {u v : ByteArray} (h : Calm P ops H0 KK (kk + 1) rest M ⟨(d, .v (.bool true)) :: T, H, D, n⟩) (hp : ev T p = some (.v (.string u)) := by rfl) (hq : ev T q = some (.v (.string v)) := by rfl) (hz : scmp b u v = some true := by decide +kernel) (hd : Nat.blt d n = true := by rfl) : Calm P ops H0 KK kk ({ dst := some d, op := .binOp b t p q t', type := ty, pos := po, after := af, guard := none } :: rest) M ⟨T, H, D, n⟩ := Z9 (w0 rfl) hd (Z0m rfl hp hq hz) h
theorem Zj8 {b : BinOp} {u v : ByteArray} {g gt : Nat} {gb : Bool} {og : Oper} (h : Calm P ops H0 KK (kk + 1) rest M ⟨(d, .v (.bool true)) :: T, H, D, n⟩) (g1 : ops[g]? = some og := by rfl) (g2 : og.dst = some gt := by rfl) (g3 : lk T gt = some (.v (.bool gb)) := by rfl) (hp : ev T p = some (.v (.string u)) := by rfl) (hq : ev T q = some (.v (.string v)) := by rfl) (hz : scmp b u v = some true := by decide +kernel) (hd : Nat.blt d n = true := by rfl) : Calm P ops H0 KK kk ({ dst := some d, op := .binOp b t p q t', type := ty, pos := po, after := af, guard := some (g, gb) } :: rest) M ⟨T, H, D, n⟩ := Z9 (wY rfl g1 g2 g3) hd (Z0m rfl hp hq hz) h
theorem Zlc {b : BinOp} {u v : ByteArray} {g gt : Nat} {gb : Bool} {og : Oper} (h : AOps P ro ops rest Q ⟨(d, .v (.bool true)) :: T, H, D, n⟩) (g1 : ops[g]? = some og := by rfl) (g2 : og.dst = some gt := by rfl) (g3 : lk T gt = some (.v (.bool gb)) := by rfl) (hp : ev T p = some (.v (.string u)) := by rfl) (hq : ev T q = some (.v (.string v)) := by rfl) (hz : scmp b u v = some true := by decide +kernel) (hd : Nat.blt d n = true := by rfl) : AOps P ro ops ({ dst := some d, op := .binOp b t p q t', type := ty, pos := po, after := af, guard := some (g, gb) } :: rest) Q ⟨T, H, D, n⟩ := Z1 (wY rfl g1 g2 g3) hd (Z0m rfl hp hq hz) h
theorem zUf {b : BinOp} {u v : ByteArray} (h : AOps P ro ops rest Q ⟨(d, .v (.bool false)) :: T, H, D, n⟩) (hp : ev T p = some (.v (.string u)) := by rfl) (hq : ev T q = some (.v (.string v)) := by rfl) (hz : scmp b u v = some false := by decide +kernel) (hd : Nat.blt d n = true := by rfl) : AOps P ro ops ({ dst := some d, op := .binOp b t p q t', type := ty, pos := po, after := af, guard := none } :: rest) Q ⟨T, H, D, n⟩ := Z1 (w0 rfl) hd (Z0m rfl hp hq hz) h
theorem Zkf {b : BinOp} {u v : ByteArray} (h : Calm P ops H0 KK (kk + 1) rest M ⟨(d, .v (.bool false)) :: T, H, D, n⟩) (hp : ev T p = some (.v (.string u)) := by rfl) (hq : ev T q = some (.v (.string v)) := by rfl) (hz : scmp b u v = some false := by decide +kernel) (hd : Nat.blt d n = true := by rfl) : Calm P ops H0 KK kk ({ dst := some d, op := .binOp b t p q t', type := ty, pos := po, after := af, guard := none } :: rest) M ⟨T, H, D, n⟩ := Z9 (w0 rfl) hd (Z0m rfl hp hq hz) h
theorem Zj7 {b : BinOp} {u v : ByteArray} {g gt : Nat} {gb : Bool} {og : Oper} (h : Calm P ops H0 KK (kk + 1) rest M ⟨(d, .v (.bool false)) :: T, H, D, n⟩) (g1 : ops[g]? = some og := by rfl) (g2 : og.dst = some gt := by rfl) (g3 : lk T gt = some (.v (.bool gb)) := by rfl) (hp : ev T p = some (.v (.string u)) := by rfl) (hq : ev T q = some (.v (.string v)) := by rfl) (hz : scmp b u v = some false := by decide +kernel) (hd : Nat.blt d n = true := by rfl) : Calm P ops H0 KK kk ({ dst := some d, op := .binOp b t p q t', type := ty, pos := po, after := af, guard := some (g, gb) } :: rest) M ⟨T, H, D, n⟩ := Z9 (wY rfl g1 g2 g3) hd (Z0m rfl hp hq hz) h
theorem Zlb {b : BinOp} {u v : ByteArray} {g gt : Nat} {gb : Bool} {og : Oper} (h : AOps P ro ops rest Q ⟨(d, .v (.bool false)) :: T, H, D, n⟩) (g1 : ops[g]? = some og := by rfl) (g2 : og.dst = some gt := by rfl) (g3 : lk T gt = some (.v (.bool gb)) := by rfl) (hp : ev T p = some (.v (.string u)) := by rfl) (hq : ev T q = some (.v (.string v)) := by rfl) (hz : scmp b u v = some false := by decide +kernel) (hd : Nat.blt d n = true := by rfl) : AOps P ro ops ({ dst := some d, op := .binOp b t p q t', type := ty, pos := po, after := af, guard := some (g, gb) } :: rest) Q ⟨T, H, D, n⟩ := Z1 (wY rfl g1 g2 g3) hd (Z0m rfl hp hq hz) h
theorem zK {b : BinOp} {z : Bool} {e : Nat} (h : AOps P ro ops rest Q ⟨(d, .v (.bool z)) :: T, H, D, n⟩) (hp : ev T p = some (.v (.pointer none)) := by rfl) (hq : ev T q = some (.v (.pointer none)) := by rfl) (hb : pcmp b true = some z := by rfl) [hu : UD P t (.pointer e)] (hd : Nat.blt d n = true := by rfl) : AOps P ro ops ({ dst := some d, op := .binOp b t p q t', type := ty, pos := po, after := af, guard := none } :: rest) Q ⟨T, H, D, n⟩ := Z1 (w0 rfl) hd (Z7z rfl hp hq hb) h
theorem zcK {b : BinOp} {z : Bool} {e : Nat} (h : Calm P ops H0 KK (kk + 1) rest M ⟨(d, .v (.bool z)) :: T, H, D, n⟩) (hp : ev T p = some (.v (.pointer none)) := by rfl) (hq : ev T q = some (.v (.pointer none)) := by rfl) (hb : pcmp b true = some z := by rfl) [hu : UD P t (.pointer e)] (hd : Nat.blt d n = true := by rfl) : Calm P ops H0 KK kk ({ dst := some d, op := .binOp b t p q t', type := ty, pos := po, after := af, guard := none } :: rest) M ⟨T, H, D, n⟩ := Z9 (w0 rfl) hd (Z7z rfl hp hq hb) h
theorem Zkl {b : BinOp} {z : Bool} {e : Nat} {g gt : Nat} {gb : Bool} {og : Oper} (h : Calm P ops H0 KK (kk + 1) rest M ⟨(d, .v (.bool z)) :: T, H, D, n⟩) (g1 : ops[g]? = some og := by rfl) (g2 : og.dst = some gt := by rfl) (g3 : lk T gt = some (.v (.bool gb)) := by rfl) (hp : ev T p = some (.v (.pointer none)) := by rfl) (hq : ev T q = some (.v (.pointer none)) := by rfl) (hb : pcmp b true = some z := by rfl) [hu : UD P t (.pointer e)] (hd : Nat.blt d n = true := by rfl) : Calm P ops H0 KK kk ({ dst := some d, op := .binOp b t p q t', type := ty, pos := po, after := af, guard := some (g, gb) } :: rest) M ⟨T, H, D, n⟩ := Z9 (wY rfl g1 g2 g3) hd (Z7z rfl hp hq hb) h
theorem zgK {b : BinOp} {z : Bool} {e : Nat} {g gt : Nat} {gb : Bool} {og : Oper} (h : AOps P ro ops rest Q ⟨(d, .v (.bool z)) :: T, H, D, n⟩) (g1 : ops[g]? = some og := by rfl) (g2 : og.dst = some gt := by rfl) (g3 : lk T gt = some (.v (.bool gb)) := by rfl) (hp : ev T p = some (.v (.pointer none)) := by rfl) (hq : ev T q = some (.v (.pointer none)) := by rfl) (hb : pcmp b true = some z := by rfl) [hu : UD P t (.pointer e)] (hd : Nat.blt d n = true := by rfl) : AOps P ro ops ({ dst := some d, op := .binOp b t p q t', type := ty, pos := po, after := af, guard := some (g, gb) } :: rest) Q ⟨T, H, D, n⟩ := Z1 (wY rfl g1 g2 g3) hd (Z7z rfl hp hq hb) h
theorem zJ {b : BinOp} {z : Bool} {e id sz i c : Nat} (h : AOps P ro ops rest Q ⟨(d, .v (.bool z)) :: T, H, D, n⟩) (hp : ev T p = some (.ptr id sz i c) := by rfl) (hq : ev T q = some (.v (.pointer none)) := by rfl) (hb : pcmp b false = some z := by rfl) [hu : UD P t (.pointer e)] (hd : Nat.blt d n = true := by rfl) : AOps P ro ops ({ dst := some d, op := .binOp b t p q t', type := ty, pos := po, after := af, guard := none } :: rest) Q ⟨T, H, D, n⟩ := Z1 (w0 rfl) hd (Z80 rfl hp hq hb) h
theorem zcJ {b : BinOp} {z : Bool} {e id sz i c : Nat} (h : Calm P ops H0 KK (kk + 1) rest M ⟨(d, .v (.bool z)) :: T, H, D, n⟩) (hp : ev T p = some (.ptr id sz i c) := by rfl) (hq : ev T q = some (.v (.pointer none)) := by rfl) (hb : pcmp b false = some z := by rfl) [hu : UD P t (.pointer e)] (hd : Nat.blt d n = true := by rfl) : Calm P ops H0 KK kk ({ dst := some d, op := .binOp b t p q t', type := ty, pos := po, after := af, guard := none } :: rest) M ⟨T, H, D, n⟩ := Z9 (w0 rfl) hd (Z80 rfl hp hq hb) h
theorem Zkk {b : BinOp} {z : Bool} {e id sz i c : Nat} {g gt : Nat} {gb : Bool} {og : Oper} (h : Calm P ops H0 KK (kk + 1) rest M ⟨(d, .v (.bool z)) :: T, H, D, n⟩) (g1 : ops[g]? = some og := by rfl) (g2 : og.dst = some gt := by rfl) (g3 : lk T gt = some (.v (.bool gb)) := by rfl) (hp : ev T p = some (.ptr id sz i c) := by rfl) (hq : ev T q = some (.v (.pointer none)) := by rfl) (hb : pcmp b false = some z := by rfl) [hu : UD P t (.pointer e)] (hd : Nat.blt d n = true := by rfl) : Calm P ops H0 KK kk ({ dst := some d, op := .binOp b t p q t', type := ty, pos := po, after := af, guard := some (g, gb) } :: rest) M ⟨T, H, D, n⟩ := Z9 (wY rfl g1 g2 g3) hd (Z80 rfl hp hq hb) h
theorem zgJ {b : BinOp} {z : Bool} {e id sz i c : Nat} {g gt : Nat} {gb : Bool} {og : Oper} (h : AOps P ro ops rest Q ⟨(d, .v (.bool z)) :: T, H, D, n⟩) (g1 : ops[g]? = some og := by rfl) (g2 : og.dst = some gt := by rfl) (g3 : lk T gt = some (.v (.bool gb)) := by rfl) (hp : ev T p = some (.ptr id sz i c) := by rfl) (hq : ev T q = some (.v (.pointer none)) := by rfl) (hb : pcmp b false = some z := by rfl) [hu : UD P t (.pointer e)] (hd : Nat.blt d n = true := by rfl) : AOps P ro ops ({ dst := some d, op := .binOp b t p q t', type := ty, pos := po, after := af, guard := some (g, gb) } :: rest) Q ⟨T, H, D, n⟩ := Z1 (wY rfl g1 g2 g3) hd (Z80 rfl hp hq hb) h
theorem zP {u v : Int} (h : AOps P ro ops rest Q ⟨(d, .v (.int .i64 (u + v))) :: T, H, D, n⟩) (hp : ev T p = some (.v (.int .i64 u)) := by rfl) (hq : ev T q = some (.v (.int .i64 v)) := by rfl) (hz : -9223372036854775808 ≤ u + v ∧ u + v ≤ 9223372036854775807 := by first | omega | decide +kernel) (hd : Nat.blt d n = true := by rfl) : AOps P ro ops ({ dst := some d, op := .binOp .add t p q t', type := ty, pos := po, after := af, guard := none } :: rest) Q ⟨T, H, D, n⟩ := Z1 (w0 rfl) hd (Z7 rfl hp hq (Za hz)) h
theorem zcP {u v : Int} (h : Calm P ops H0 KK (kk + 1) rest M ⟨(d, .v (.int .i64 (u + v))) :: T, H, D, n⟩) (hp : ev T p = some (.v (.int .i64 u)) := by rfl) (hq : ev T q = some (.v (.int .i64 v)) := by rfl) (hz : -9223372036854775808 ≤ u + v ∧ u + v ≤ 9223372036854775807 := by first | omega | decide +kernel) (hd : Nat.blt d n = true := by rfl) : Calm P ops H0 KK kk ({ dst := some d, op := .binOp .add t p q t', type := ty, pos := po, after := af, guard := none } :: rest) M ⟨T, H, D, n⟩ := Z9 (w0 rfl) hd (Z7 rfl hp hq (Za hz)) h
theorem Zko {u v : Int} {g gt : Nat} {gb : Bool} {og : Oper} (h : Calm P ops H0 KK (kk + 1) rest M ⟨(d, .v (.int .i64 (u + v))) :: T, H, D, n⟩) (g1 : ops[g]? = some og := by rfl) (g2 : og.dst = some gt := by rfl) (g3 : lk T gt = some (.v (.bool gb)) := by rfl) (hp : ev T p = some (.v (.int .i64 u)) := by rfl) (hq : ev T q = some (.v (.int .i64 v)) := by rfl) (hz : -9223372036854775808 ≤ u + v ∧ u + v ≤ 9223372036854775807 := by first | omega | decide +kernel) (hd : Nat.blt d n = true := by rfl) : Calm P ops H0 KK kk ({ dst := some d, op := .binOp .add t p q t', type := ty, pos := po, after := af, guard := some (g, gb) } :: rest) M ⟨T, H, D, n⟩ := Z9 (wY rfl g1 g2 g3) hd (Z7 rfl hp hq (Za hz)) h
theorem zgP {u v : Int} {g gt : Nat} {gb : Bool} {og : Oper} (h : AOps P ro ops rest Q ⟨(d, .v (.int .i64 (u + v))) :: T, H, D, n⟩) (g1 : ops[g]? = some og := by rfl) (g2 : og.dst = some gt := by rfl) (g3 : lk T gt = some (.v (.bool gb)) := by rfl) (hp : ev T p = some (.v (.int .i64 u)) := by rfl) (hq : ev T q = some (.v (.int .i64 v)) := by rfl) (hz : -9223372036854775808 ≤ u + v ∧ u + v ≤ 9223372036854775807 := by first | omega | decide +kernel) (hd : Nat.blt d n = true := by rfl) : AOps P ro ops ({ dst := some d, op := .binOp .add t p q t', type := ty, pos := po, after := af, guard := some (g, gb) } :: rest) Q ⟨T, H, D, n⟩ := Z1 (wY rfl g1 g2 g3) hd (Z7 rfl hp hq (Za hz)) h
theorem zL {u v : Int} (h : AOps P ro ops rest Q ⟨(d, .v (.int .i64 (u - v))) :: T, H, D, n⟩) (hp : ev T p = some (.v (.int .i64 u)) := by rfl) (hq : ev T q = some (.v (.int .i64 v)) := by rfl) (hz : -9223372036854775808 ≤ u - v ∧ u - v ≤ 9223372036854775807 := by first | omega | decide +kernel) (hd : Nat.blt d n = true := by rfl) : AOps P ro ops ({ dst := some d, op := .binOp .sub t p q t', type := ty, pos := po, after := af, guard := none } :: rest) Q ⟨T, H, D, n⟩ := Z1 (w0 rfl) hd (Z7 rfl hp hq (Ze hz)) h
theorem zcL {u v : Int} (h : Calm P ops H0 KK (kk + 1) rest M ⟨(d, .v (.int .i64 (u - v))) :: T, H, D, n⟩) (hp : ev T p = some (.v (.int .i64 u)) := by rfl) (hq : ev T q = some (.v (.int .i64 v)) := by rfl) (hz : -9223372036854775808 ≤ u - v ∧ u - v ≤ 9223372036854775807 := by first | omega | decide +kernel) (hd : Nat.blt d n = true := by rfl) : Calm P ops H0 KK kk ({ dst := some d, op := .binOp .sub t p q t', type := ty, pos := po, after := af, guard := none } :: rest) M ⟨T, H, D, n⟩ := Z9 (w0 rfl) hd (Z7 rfl hp hq (Ze hz)) h
theorem Zkm {u v : Int} {g gt : Nat} {gb : Bool} {og : Oper} (h : Calm P ops H0 KK (kk + 1) rest M ⟨(d, .v (.int .i64 (u - v))) :: T, H, D, n⟩) (g1 : ops[g]? = some og := by rfl) (g2 : og.dst = some gt := by rfl) (g3 : lk T gt = some (.v (.bool gb)) := by rfl) (hp : ev T p = some (.v (.int .i64 u)) := by rfl) (hq : ev T q = some (.v (.int .i64 v)) := by rfl) (hz : -9223372036854775808 ≤ u - v ∧ u - v ≤ 9223372036854775807 := by first | omega | decide +kernel) (hd : Nat.blt d n = true := by rfl) : Calm P ops H0 KK kk ({ dst := some d, op := .binOp .sub t p q t', type := ty, pos := po, after := af, guard := some (g, gb) } :: rest) M ⟨T, H, D, n⟩ := Z9 (wY rfl g1 g2 g3) hd (Z7 rfl hp hq (Ze hz)) h
theorem zgL {u v : Int} {g gt : Nat} {gb : Bool} {og : Oper} (h : AOps P ro ops rest Q ⟨(d, .v (.int .i64 (u - v))) :: T, H, D, n⟩) (g1 : ops[g]? = some og := by rfl) (g2 : og.dst = some gt := by rfl) (g3 : lk T gt = some (.v (.bool gb)) := by rfl) (hp : ev T p = some (.v (.int .i64 u)) := by rfl) (hq : ev T q = some (.v (.int .i64 v)) := by rfl) (hz : -9223372036854775808 ≤ u - v ∧ u - v ≤ 9223372036854775807 := by first | omega | decide +kernel) (hd : Nat.blt d n = true := by rfl) : AOps P ro ops ({ dst := some d, op := .binOp .sub t p q t', type := ty, pos := po, after := af, guard := some (g, gb) } :: rest) Q ⟨T, H, D, n⟩ := Z1 (wY rfl g1 g2 g3) hd (Z7 rfl hp hq (Ze hz)) h
theorem zNt {u : Bool} (h : AOps P ro ops rest Q ⟨(d, .v (.bool (!u))) :: T, H, D, n⟩) (hp : ev T p = some (.v (.bool u)) := by rfl) (hd : Nat.blt d n = true := by rfl) : AOps P ro ops ({ dst := some d, op := .unOp .not t p, type := ty, pos := po, after := af, guard := none } :: rest) Q ⟨T, H, D, n⟩ := Z1 (w0 rfl) hd (Z0i rfl hp) h
theorem Zkb {u : Bool} (h : Calm P ops H0 KK (kk + 1) rest M ⟨(d, .v (.bool (!u))) :: T, H, D, n⟩) (hp : ev T p = some (.v (.bool u)) := by rfl) (hd : Nat.blt d n = true := by rfl) : Calm P ops H0 KK kk ({ dst := some d, op := .unOp .not t p, type := ty, pos := po, after := af, guard := none } :: rest) M ⟨T, H, D, n⟩ := Z9 (w0 rfl) hd (Z0i rfl hp) h
theorem Zj3 {u : Bool} {g gt : Nat} {gb : Bool} {og : Oper} (h : Calm P ops H0 KK (kk + 1) rest M ⟨(d, .v (.bool (!u))) :: T, H, D, n⟩) (g1 : ops[g]? = some og := by rfl) (g2 : og.dst = some gt := by rfl) (g3 : lk T gt = some (.v (.bool gb)) := by rfl) (hp : ev T p = some (.v (.bool u)) := by rfl) (hd : Nat.blt d n = true := by rfl) : Calm P ops H0 KK kk ({ dst := some d, op := .unOp .not t p, type := ty, pos := po, after := af, guard := some (g, gb) } :: rest) M ⟨T, H, D, n⟩ := Z9 (wY rfl g1 g2 g3) hd (Z0i rfl hp) h
theorem Zl7 {u : Bool} {g gt : Nat} {gb : Bool} {og : Oper} (h : AOps P ro ops rest Q ⟨(d, .v (.bool (!u))) :: T, H, D, n⟩) (g1 : ops[g]? = some og := by rfl) (g2 : og.dst = some gt := by rfl) (g3 : lk T gt = some (.v (.bool gb)) := by rfl) (hp : ev T p = some (.v (.bool u)) := by rfl) (hd : Nat.blt d n = true := by rfl) : AOps P ro ops ({ dst := some d, op := .unOp .not t p, type := ty, pos := po, after := af, guard := some (g, gb) } :: rest) Q ⟨T, H, D, n⟩ := Z1 (wY rfl g1 g2 g3) hd (Z0i rfl hp) h
theorem zPT {c : Operand} (h : AOps P ro ops rest Q ⟨(d, x) :: T, H, D, n⟩) (hc : ev T c = some (.v (.bool true)) := by rfl) (hp : ev T p = some x := by rfl) (hq : ev T q = some y := by rfl) (hd : Nat.blt d n = true := by rfl) : AOps P ro ops ({ dst := some d, op := .pick c p q, type := ty, pos := po, after := af, guard := none } :: rest) Q ⟨T, H, D, n⟩ := Z1 (w0 rfl) hd (Z11 (t := true) rfl hc hp hq) h
theorem Zkd {c : Operand} (h : Calm P ops H0 KK (kk + 1) rest M ⟨(d, x) :: T, H, D, n⟩) (hc : ev T c = some (.v (.bool true)) := by rfl) (hp : ev T p = some x := by rfl) (hq : ev T q = some y := by rfl) (hd : Nat.blt d n = true := by rfl) : Calm P ops H0 KK kk ({ dst := some d, op := .pick c p q, type := ty, pos := po, after := af, guard := none } :: rest) M ⟨T, H, D, n⟩ := Z9 (w0 rfl) hd (Z11 (t := true) rfl hc hp hq) h
theorem Zj5 {c : Operand} {g gt : Nat} {gb : Bool} {og : Oper} (h : Calm P ops H0 KK (kk + 1) rest M ⟨(d, x) :: T, H, D, n⟩) (g1 : ops[g]? = some og := by rfl) (g2 : og.dst = some gt := by rfl) (g3 : lk T gt = some (.v (.bool gb)) := by rfl) (hc : ev T c = some (.v (.bool true)) := by rfl) (hp : ev T p = some x := by rfl) (hq : ev T q = some y := by rfl) (hd : Nat.blt d n = true := by rfl) : Calm P ops H0 KK kk ({ dst := some d, op := .pick c p q, type := ty, pos := po, after := af, guard := some (g, gb) } :: rest) M ⟨T, H, D, n⟩ := Z9 (wY rfl g1 g2 g3) hd (Z11 (t := true) rfl hc hp hq) h
theorem Zl9 {c : Operand} {g gt : Nat} {gb : Bool} {og : Oper} (h : AOps P ro ops rest Q ⟨(d, x) :: T, H, D, n⟩) (g1 : ops[g]? = some og := by rfl) (g2 : og.dst = some gt := by rfl) (g3 : lk T gt = some (.v (.bool gb)) := by rfl) (hc : ev T c = some (.v (.bool true)) := by rfl) (hp : ev T p = some x := by rfl) (hq : ev T q = some y := by rfl) (hd : Nat.blt d n = true := by rfl) : AOps P ro ops ({ dst := some d, op := .pick c p q, type := ty, pos := po, after := af, guard := some (g, gb) } :: rest) Q ⟨T, H, D, n⟩ := Z1 (wY rfl g1 g2 g3) hd (Z11 (t := true) rfl hc hp hq) h
theorem zPF {c : Operand} (h : AOps P ro ops rest Q ⟨(d, x) :: T, H, D, n⟩) (hc : ev T c = some (.v (.bool false)) := by rfl) (hp : ev T p = some y := by rfl) (hq : ev T q = some x := by rfl) (hd : Nat.blt d n = true := by rfl) : AOps P ro ops ({ dst := some d, op := .pick c p q, type := ty, pos := po, after := af, guard := none } :: rest) Q ⟨T, H, D, n⟩ := Z1 (w0 rfl) hd (Z11 (t := false) rfl hc hp hq) h
theorem Zkc {c : Operand} (h : Calm P ops H0 KK (kk + 1) rest M ⟨(d, x) :: T, H, D, n⟩) (hc : ev T c = some (.v (.bool false)) := by rfl) (hp : ev T p = some y := by rfl) (hq : ev T q = some x := by rfl) (hd : Nat.blt d n = true := by rfl) : Calm P ops H0 KK kk ({ dst := some d, op := .pick c p q, type := ty, pos := po, after := af, guard := none } :: rest) M ⟨T, H, D, n⟩ := Z9 (w0 rfl) hd (Z11 (t := false) rfl hc hp hq) h
theorem Zj4 {c : Operand} {g gt : Nat} {gb : Bool} {og : Oper} (h : Calm P ops H0 KK (kk + 1) rest M ⟨(d, x) :: T, H, D, n⟩) (g1 : ops[g]? = some og := by rfl) (g2 : og.dst = some gt := by rfl) (g3 : lk T gt = some (.v (.bool gb)) := by rfl) (hc : ev T c = some (.v (.bool false)) := by rfl) (hp : ev T p = some y := by rfl) (hq : ev T q = some x := by rfl) (hd : Nat.blt d n = true := by rfl) : Calm P ops H0 KK kk ({ dst := some d, op := .pick c p q, type := ty, pos := po, after := af, guard := some (g, gb) } :: rest) M ⟨T, H, D, n⟩ := Z9 (wY rfl g1 g2 g3) hd (Z11 (t := false) rfl hc hp hq) h
theorem Zl8 {c : Operand} {g gt : Nat} {gb : Bool} {og : Oper} (h : AOps P ro ops rest Q ⟨(d, x) :: T, H, D, n⟩) (g1 : ops[g]? = some og := by rfl) (g2 : og.dst = some gt := by rfl) (g3 : lk T gt = some (.v (.bool gb)) := by rfl) (hc : ev T c = some (.v (.bool false)) := by rfl) (hp : ev T p = some y := by rfl) (hq : ev T q = some x := by rfl) (hd : Nat.blt d n = true := by rfl) : AOps P ro ops ({ dst := some d, op := .pick c p q, type := ty, pos := po, after := af, guard := some (g, gb) } :: rest) Q ⟨T, H, D, n⟩ := Z1 (wY rfl g1 g2 g3) hd (Z11 (t := false) rfl hc hp hq) h
theorem zLn {td : TypeDesc} {m : Nat} (h : AOps P ro ops rest Q ⟨(d, .v (.int .i64 (m : Int))) :: T, H, D, n⟩) (hp : ev T p = some x := by rfl) (hx : lenA x = some m := by rfl) [hu : UD P t td] (hlt : lenT x td = true := by rfl) (hd : Nat.blt d n = true := by rfl) : AOps P ro ops ({ dst := some d, op := .call { callee := .builtin .len, args := #[p], argTypes := #[t] }, type := ty, pos := po, after := af, guard := none } :: rest) Q ⟨T, H, D, n⟩ := Z1 (w0 rfl) hd (Z0p rfl hp hx hlt) h
theorem Zk8 {td : TypeDesc} {m : Nat} (h : Calm P ops H0 KK (kk + 1) rest M ⟨(d, .v (.int .i64 (m : Int))) :: T, H, D, n⟩) (hp : ev T p = some x := by rfl) (hx : lenA x = some m := by rfl) [hu : UD P t td] (hlt : lenT x td = true := by rfl) (hd : Nat.blt d n = true := by rfl) : Calm P ops H0 KK kk ({ dst := some d, op := .call { callee := .builtin .len, args := #[p], argTypes := #[t] }, type := ty, pos := po, after := af, guard := none } :: rest) M ⟨T, H, D, n⟩ := Z9 (w0 rfl) hd (Z0p rfl hp hx hlt) h
theorem Zj0 {td : TypeDesc} {m : Nat} {g gt : Nat} {gb : Bool} {og : Oper} (h : Calm P ops H0 KK (kk + 1) rest M ⟨(d, .v (.int .i64 (m : Int))) :: T, H, D, n⟩) (g1 : ops[g]? = some og := by rfl) (g2 : og.dst = some gt := by rfl) (g3 : lk T gt = some (.v (.bool gb)) := by rfl) (hp : ev T p = some x := by rfl) (hx : lenA x = some m := by rfl) [hu : UD P t td] (hlt : lenT x td = true := by rfl) (hd : Nat.blt d n = true := by rfl) : Calm P ops H0 KK kk ({ dst := some d, op := .call { callee := .builtin .len, args := #[p], argTypes := #[t] }, type := ty, pos := po, after := af, guard := some (g, gb) } :: rest) M ⟨T, H, D, n⟩ := Z9 (wY rfl g1 g2 g3) hd (Z0p rfl hp hx hlt) h
theorem Zl4 {td : TypeDesc} {m : Nat} {g gt : Nat} {gb : Bool} {og : Oper} (h : AOps P ro ops rest Q ⟨(d, .v (.int .i64 (m : Int))) :: T, H, D, n⟩) (g1 : ops[g]? = some og := by rfl) (g2 : og.dst = some gt := by rfl) (g3 : lk T gt = some (.v (.bool gb)) := by rfl) (hp : ev T p = some x := by rfl) (hx : lenA x = some m := by rfl) [hu : UD P t td] (hlt : lenT x td = true := by rfl) (hd : Nat.blt d n = true := by rfl) : AOps P ro ops ({ dst := some d, op := .call { callee := .builtin .len, args := #[p], argTypes := #[t] }, type := ty, pos := po, after := af, guard := some (g, gb) } :: rest) Q ⟨T, H, D, n⟩ := Z1 (wY rfl g1 g2 g3) hd (Z0p rfl hp hx hlt) h
theorem zEq {ks : List CK} {us vs : List AV} (h : AOps P ro ops rest Q ⟨(d, .v (.bool (ceqs us vs))) :: T, H, D, n⟩) (hp : ev T p = some (.agg us) := by rfl) (hq : ev T q = some (.agg vs) := by rfl) [hq' : EQ P t ks] (hx : us.map ckA = ks.map some := by rfl) (hy : vs.map ckA = ks.map some := by rfl) (hd : Nat.blt d n = true := by rfl) : AOps P ro ops ({ dst := some d, op := .binOp .eql t p q t', type := ty, pos := po, after := af, guard := none } :: rest) Q ⟨T, H, D, n⟩ := Z1 (w0 rfl) hd (Z1h rfl hp hq hx hy) h
theorem Zk7 {ks : List CK} {us vs : List AV} (h : Calm P ops H0 KK (kk + 1) rest M ⟨(d, .v (.bool (ceqs us vs))) :: T, H, D, n⟩) (hp : ev T p = some (.agg us) := by rfl) (hq : ev T q = some (.agg vs) := by rfl) [hq' : EQ P t ks] (hx : us.map ckA = ks.map some := by rfl) (hy : vs.map ckA = ks.map some := by rfl) (hd : Nat.blt d n = true := by rfl) : Calm P ops H0 KK kk ({ dst := some d, op := .binOp .eql t p q t', type := ty, pos := po, after := af, guard := none } :: rest) M ⟨T, H, D, n⟩ := Z9 (w0 rfl) hd (Z1h rfl hp hq hx hy) h
theorem Ziz {ks : List CK} {us vs : List AV} {g gt : Nat} {gb : Bool} {og : Oper} (h : Calm P ops H0 KK (kk + 1) rest M ⟨(d, .v (.bool (ceqs us vs))) :: T, H, D, n⟩) (g1 : ops[g]? = some og := by rfl) (g2 : og.dst = some gt := by rfl) (g3 : lk T gt = some (.v (.bool gb)) := by rfl) (hp : ev T p = some (.agg us) := by rfl) (hq : ev T q = some (.agg vs) := by rfl) [hq' : EQ P t ks] (hx : us.map ckA = ks.map some := by rfl) (hy : vs.map ckA = ks.map some := by rfl) (hd : Nat.blt d n = true := by rfl) : Calm P ops H0 KK kk ({ dst := some d, op := .binOp .eql t p q t', type := ty, pos := po, after := af, guard := some (g, gb) } :: rest) M ⟨T, H, D, n⟩ := Z9 (wY rfl g1 g2 g3) hd (Z1h rfl hp hq hx hy) h
theorem Zl3 {ks : List CK} {us vs : List AV} {g gt : Nat} {gb : Bool} {og : Oper} (h : AOps P ro ops rest Q ⟨(d, .v (.bool (ceqs us vs))) :: T, H, D, n⟩) (g1 : ops[g]? = some og := by rfl) (g2 : og.dst = some gt := by rfl) (g3 : lk T gt = some (.v (.bool gb)) := by rfl) (hp : ev T p = some (.agg us) := by rfl) (hq : ev T q = some (.agg vs) := by rfl) [hq' : EQ P t ks] (hx : us.map ckA = ks.map some := by rfl) (hy : vs.map ckA = ks.map some := by rfl) (hd : Nat.blt d n = true := by rfl) : AOps P ro ops ({ dst := some d, op := .binOp .eql t p q t', type := ty, pos := po, after := af, guard := some (g, gb) } :: rest) Q ⟨T, H, D, n⟩ := Z1 (wY rfl g1 g2 g3) hd (Z1h rfl hp hq hx hy) h
theorem Zjt {ks : List CK} {us vs : List AV} (h : AOps P ro ops rest Q ⟨(d, .v (.bool true)) :: T, H, D, n⟩) (hp : ev T p = some (.agg us) := by rfl) (hq : ev T q = some (.agg vs) := by rfl) [hq' : EQ P t ks] (hx : us.map ckA = ks.map some := by rfl) (hy : vs.map ckA = ks.map some := by rfl) (hz : ceqs us vs = true := by decide +kernel) (hd : Nat.blt d n = true := by rfl) : AOps P ro ops ({ dst := some d, op := .binOp .eql t p q t', type := ty, pos := po, after := af, guard := none } :: rest) Q ⟨T, H, D, n⟩ := Z1 (w0 rfl) hd (hz ▸ Z1h rfl hp hq hx hy) h
theorem Zil {ks : List CK} {us vs : List AV} (h : Calm P ops H0 KK (kk + 1) rest M ⟨(d, .v (.bool true)) :: T, H, D, n⟩) (hp : ev T p = some (.agg us) := by rfl) (hq : ev T q = some (.agg vs) := by rfl) [hq' : EQ P t ks] (hx : us.map ckA = ks.map some := by rfl) (hy : vs.map ckA = ks.map some := by rfl) (hz : ceqs us vs = true := by decide +kernel) (hd : Nat.blt d n = true := by rfl) : Calm P ops H0 KK kk ({ dst := some d, op := .binOp .eql t p q t', type := ty, pos := po, after := af, guard := none } :: rest) M ⟨T, H, D, n⟩ := Z9 (w0 rfl) hd (hz ▸ Z1h rfl hp hq hx hy) h
theorem Zi1 {ks : List CK} {us vs : List AV} {g gt : Nat} {gb : Bool} {og : Oper} (h : Calm P ops H0 KK (kk + 1) rest M ⟨(d, .v (.bool true)) :: T, H, D, n⟩) (g1 : ops[g]? = some og := by rfl) (g2 : og.dst = some gt := by rfl) (g3 : lk T gt = some (.v (.bool gb)) := by rfl) (hp : ev T p = some (.agg us) := by rfl) (hq : ev T q = some (.agg vs) := by rfl) [hq' : EQ P t ks] (hx : us.map ckA = ks.map some := by rfl) (hy : vs.map ckA = ks.map some := by rfl) (hz : ceqs us vs = true := by decide +kernel) (hd : Nat.blt d n = true := by rfl) : Calm P ops H0 KK kk ({ dst := some d, op := .binOp .eql t p q t', type := ty, pos := po, after := af, guard := some (g, gb) } :: rest) M ⟨T, H, D, n⟩ := Z9 (wY rfl g1 g2 g3) hd (hz ▸ Z1h rfl hp hq hx hy) h
theorem Zjd {ks : List CK} {us vs : List AV} {g gt : Nat} {gb : Bool} {og : Oper} (h : AOps P ro ops rest Q ⟨(d, .v (.bool true)) :: T, H, D, n⟩) (g1 : ops[g]? = some og := by rfl) (g2 : og.dst = some gt := by rfl) (g3 : lk T gt = some (.v (.bool gb)) := by rfl) (hp : ev T p = some (.agg us) := by rfl) (hq : ev T q = some (.agg vs) := by rfl) [hq' : EQ P t ks] (hx : us.map ckA = ks.map some := by rfl) (hy : vs.map ckA = ks.map some := by rfl) (hz : ceqs us vs = true := by decide +kernel) (hd : Nat.blt d n = true := by rfl) : AOps P ro ops ({ dst := some d, op := .binOp .eql t p q t', type := ty, pos := po, after := af, guard := some (g, gb) } :: rest) Q ⟨T, H, D, n⟩ := Z1 (wY rfl g1 g2 g3) hd (hz ▸ Z1h rfl hp hq hx hy) h
theorem Zjs {ks : List CK} {us vs : List AV} (h : AOps P ro ops rest Q ⟨(d, .v (.bool false)) :: T, H, D, n⟩) (hp : ev T p = some (.agg us) := by rfl) (hq : ev T q = some (.agg vs) := by rfl) [hq' : EQ P t ks] (hx : us.map ckA = ks.map some := by rfl) (hy : vs.map ckA = ks.map some := by rfl) (hz : ceqs us vs = false := by decide +kernel) (hd : Nat.blt d n = true := by rfl) : AOps P ro ops ({ dst := some d, op := .binOp .eql t p q t', type := ty, pos := po, after := af, guard := none } :: rest) Q ⟨T, H, D, n⟩ := Z1 (w0 rfl) hd (hz ▸ Z1h rfl hp hq hx hy) h
theorem Zik {ks : List CK} {us vs : List AV} (h : Calm P ops H0 KK (kk + 1) rest M ⟨(d, .v (.bool false)) :: T, H, D, n⟩) (hp : ev T p = some (.agg us) := by rfl) (hq : ev T q = some (.agg vs) := by rfl) [hq' : EQ P t ks] (hx : us.map ckA = ks.map some := by rfl) (hy : vs.map ckA = ks.map some := by rfl) (hz : ceqs us vs = false := by decide +kernel) (hd : Nat.blt d n = true := by rfl) : Calm P ops H0 KK kk ({ dst := some d, op := .binOp .eql t p q t', type := ty, pos := po, after := af, guard := none } :: rest) M ⟨T, H, D, n⟩ := Z9 (w0 rfl) hd (hz ▸ Z1h rfl hp hq hx hy) h
theorem Zi0 {ks : List CK} {us vs : List AV} {g gt : Nat} {gb : Bool} {og : Oper} (h : Calm P ops H0 KK (kk + 1) rest M ⟨(d, .v (.bool false)) :: T, H, D, n⟩) (g1 : ops[g]? = some og := by rfl) (g2 : og.dst = some gt := by rfl) (g3 : lk T gt = some (.v (.bool gb)) := by rfl) (hp : ev T p = some (.agg us) := by rfl) (hq : ev T q = some (.agg vs) := by rfl) [hq' : EQ P t ks] (hx : us.map ckA = ks.map some := by rfl) (hy : vs.map ckA = ks.map some := by rfl) (hz : ceqs us vs = false := by decide +kernel) (hd : Nat.blt d n = true := by rfl) : Calm P ops H0 KK kk ({ dst := some d, op := .binOp .eql t p q t', type := ty, pos := po, after := af, guard := some (g, gb) } :: rest) M ⟨T, H, D, n⟩ := Z9 (wY rfl g1 g2 g3) hd (hz ▸ Z1h rfl hp hq hx hy) h
theorem Zjc {ks : List CK} {us vs : List AV} {g gt : Nat} {gb : Bool} {og : Oper} (h : AOps P ro ops rest Q ⟨(d, .v (.bool false)) :: T, H, D, n⟩) (g1 : ops[g]? = some og := by rfl) (g2 : og.dst = some gt := by rfl) (g3 : lk T gt = some (.v (.bool gb)) := by rfl) (hp : ev T p = some (.agg us) := by rfl) (hq : ev T q = some (.agg vs) := by rfl) [hq' : EQ P t ks] (hx : us.map ckA = ks.map some := by rfl) (hy : vs.map ckA = ks.map some := by rfl) (hz : ceqs us vs = false := by decide +kernel) (hd : Nat.blt d n = true := by rfl) : AOps P ro ops ({ dst := some d, op := .binOp .eql t p q t', type := ty, pos := po, after := af, guard := some (g, gb) } :: rest) Q ⟨T, H, D, n⟩ := Z1 (wY rfl g1 g2 g3) hd (hz ▸ Z1h rfl hp hq hx hy) h
theorem Zjr {u v : ByteArray} (h : AOps P ro ops rest Q ⟨(d, .v (.string (u ++ v))) :: T, H, D, n⟩) (hp : ev T p = some (.v (.string u)) := by rfl) (hq : ev T q = some (.v (.string v)) := by rfl) (hz : u.size + v.size ≤ 9223372036854775807 := by decide +kernel) (hd : Nat.blt d n = true := by rfl) : AOps P ro ops ({ dst := some d, op := .binOp .add t p q t', type := ty, pos := po, after := af, guard := none } :: rest) Q ⟨T, H, D, n⟩ := Z1 (w0 rfl) hd (Z2a rfl hp hq hz) h
theorem Zij {u v : ByteArray} (h : Calm P ops H0 KK (kk + 1) rest M ⟨(d, .v (.string (u ++ v))) :: T, H, D, n⟩) (hp : ev T p = some (.v (.string u)) := by rfl) (hq : ev T q = some (.v (.string v)) := by rfl) (hz : u.size + v.size ≤ 9223372036854775807 := by decide +kernel) (hd : Nat.blt d n = true := by rfl) : Calm P ops H0 KK kk ({ dst := some d, op := .binOp .add t p q t', type := ty, pos := po, after := af, guard := none } :: rest) M ⟨T, H, D, n⟩ := Z9 (w0 rfl) hd (Z2a rfl hp hq hz) h
theorem Zhz {u v : ByteArray} {g gt : Nat} {gb : Bool} {og : Oper} (h : Calm P ops H0 KK (kk + 1) rest M ⟨(d, .v (.string (u ++ v))) :: T, H, D, n⟩) (g1 : ops[g]? = some og := by rfl) (g2 : og.dst = some gt := by rfl) (g3 : lk T gt = some (.v (.bool gb)) := by rfl) (hp : ev T p = some (.v (.string u)) := by rfl) (hq : ev T q = some (.v (.string v)) := by rfl) (hz : u.size + v.size ≤ 9223372036854775807 := by decide +kernel) (hd : Nat.blt d n = true := by rfl) : Calm P ops H0 KK kk ({ dst := some d, op := .binOp .add t p q t', type := ty, pos := po, after := af, guard := some (g, gb) } :: rest) M ⟨T, H, D, n⟩ := Z9 (wY rfl g1 g2 g3) hd (Z2a rfl hp hq hz) h
theorem Zja {u v : ByteArray} {g gt : Nat} {gb : Bool} {og : Oper} (h : AOps P ro ops rest Q ⟨(d, .v (.string (u ++ v))) :: T, H, D, n⟩) (g1 : ops[g]? = some og := by rfl) (g2 : og.dst = some gt := by rfl) (g3 : lk T gt = some (.v (.bool gb)) := by rfl) (hp : ev T p = some (.v (.string u)) := by rfl) (hq : ev T q = some (.v (.string v)) := by rfl) (hz : u.size + v.size ≤ 9223372036854775807 := by decide +kernel) (hd : Nat.blt d n = true := by rfl) : AOps P ro ops ({ dst := some d, op := .binOp .add t p q t', type := ty, pos := po, after := af, guard := some (g, gb) } :: rest) Q ⟨T, H, D, n⟩ := Z1 (wY rfl g1 g2 g3) hd (Z2a rfl hp hq hz) h
theorem zCv {k k' : IntKind} {u : Int} {td : TypeDesc} (h : AOps P ro ops rest Q ⟨(d, .v (.int k' u)) :: T, H, D, n⟩) (hp : ev T p = some (.v (.int k u)) := by rfl) [hu : UD P t td] [hu' : UD P t' (.int k')] (hz : k'.wrap u = u := by first | decide +kernel | rfl) (hd : Nat.blt d n = true := by rfl) : AOps P ro ops ({ dst := some d, op := .convert t t' p, type := ty, pos := po, after := af, guard := none } :: rest) Q ⟨T, H, D, n⟩ := Z1 (w0 rfl) hd (hz.symm ▸ Z00 rfl hp) h
theorem Zk6 {k k' : IntKind} {u : Int} {td : TypeDesc} (h : Calm P ops H0 KK (kk + 1) rest M ⟨(d, .v (.int k' u)) :: T, H, D, n⟩) (hp : ev T p = some (.v (.int k u)) := by rfl) [hu : UD P t td] [hu' : UD P t' (.int k')] (hz : k'.wrap u = u := by first | decide +kernel | rfl) (hd : Nat.blt d n = true := by rfl) : Calm P ops H0 KK kk ({ dst := some d, op := .convert t t' p, type := ty, pos := po, after := af, guard := none } :: rest) M ⟨T, H, D, n⟩ := Z9 (w0 rfl) hd (hz.symm ▸ Z00 rfl hp) h
theorem Ziy {k k' : IntKind} {u : Int} {td : TypeDesc} {g gt : Nat} {gb : Bool} {og : Oper} (h : Calm P ops H0 KK (kk + 1) rest M ⟨(d, .v (.int k' u)) :: T, H, D, n⟩) (g1 : ops[g]? = some og := by rfl) (g2 : og.dst = some gt := by rfl) (g3 : lk T gt = some (.v (.bool gb)) := by rfl) (hp : ev T p = some (.v (.int k u)) := by rfl) [hu : UD P t td] [hu' : UD P t' (.int k')] (hz : k'.wrap u = u := by first | decide +kernel | rfl) (hd : Nat.blt d n = true := by rfl) : Calm P ops H0 KK kk ({ dst := some d, op := .convert t t' p, type := ty, pos := po, after := af, guard := some (g, gb) } :: rest) M ⟨T, H, D, n⟩ := Z9 (wY rfl g1 g2 g3) hd (hz.symm ▸ Z00 rfl hp) h
theorem Zjb {k k' : IntKind} {u : Int} {td : TypeDesc} {g gt : Nat} {gb : Bool} {og : Oper} (h : AOps P ro ops rest Q ⟨(d, .v (.int k' u)) :: T, H, D, n⟩) (g1 : ops[g]? = some og := by rfl) (g2 : og.dst = some gt := by rfl) (g3 : lk T gt = some (.v (.bool gb)) := by rfl) (hp : ev T p = some (.v (.int k u)) := by rfl) [hu : UD P t td] [hu' : UD P t' (.int k')] (hz : k'.wrap u = u := by first | decide +kernel | rfl) (hd : Nat.blt d n = true := by rfl) : AOps P ro ops ({ dst := some d, op := .convert t t' p, type := ty, pos := po, after := af, guard := some (g, gb) } :: rest) Q ⟨T, H, D, n⟩ := Z1 (wY rfl g1 g2 g3) hd (hz.symm ▸ Z00 rfl hp) h
theorem zSx {k : IntKind} {u : ByteArray} {i : Int} (h : AOps P ro ops rest Q ⟨(d, .v (.int .u8 (byteAt u i))) :: T, H, D, n⟩) (hp : ev T p = some (.v (.string u)) := by rfl) (hq : ev T q = some (.v (.int k i)) := by rfl) [hu : UD P t .string] (h0 : 0 ≤ i := by first | decide +kernel | omega) (h1 : i < u.size := by first | decide +kernel | omega) (hd : Nat.blt d n = true := by rfl) : AOps P ro ops ({ dst := some d, op := .index t p q, type := ty, pos := po, after := af, guard := none } :: rest) Q ⟨T, H, D, n⟩ := Z1 (w0 rfl) hd (Z12 rfl hp hq h0 h1) h
theorem Zke {k : IntKind} {u : ByteArray} {i : Int} (h : Calm P ops H0 KK (kk + 1) rest M ⟨(d, .v (.int .u8 (byteAt u i))) :: T, H, D, n⟩) (hp : ev T p = some (.v (.string u)) := by rfl) (hq : ev T q = some (.v (.int k i)) := by rfl) [hu : UD P t .string] (h0 : 0 ≤ i := by first | decide +kernel | omega) (h1 : i < u.size := by first | decide +kernel | omega) (hd : Nat.blt d n = true := by rfl) : Calm P ops H0 KK kk ({ dst := some d, op := .index t p q, type := ty, pos := po, after := af, guard := none } :: rest) M ⟨T, H, D, n⟩ := Z9 (w0 rfl) hd (Z12 rfl hp hq h0 h1) h
theorem Zj6 {k : IntKind} {u : ByteArray} {i : Int} {g gt : Nat} {gb : Bool} {og : Oper} (h : Calm P ops H0 KK (kk + 1) rest M ⟨(d, .v (.int .u8 (byteAt u i))) :: T, H, D, n⟩) (g1 : ops[g]? = some og := by rfl) (g2 : og.dst = some gt := by rfl) (g3 : lk T gt = some (.v (.bool gb)) := by rfl) (hp : ev T p = some (.v (.string u)) := by rfl) (hq : ev T q = some (.v (.int k i)) := by rfl) [hu : UD P t .string] (h0 : 0 ≤ i := by first | decide +kernel | omega) (h1 : i < u.size := by first | decide +kernel | omega) (hd : Nat.blt d n = true := by rfl) : Calm P ops H0 KK kk ({ dst := some d, op := .index t p q, type := ty, pos := po, after := af, guard := some (g, gb) } :: rest) M ⟨T, H, D, n⟩ := Z9 (wY rfl g1 g2 g3) hd (Z12 rfl hp hq h0 h1) h
theorem Zla {k : IntKind} {u : ByteArray} {i : Int} {g gt : Nat} {gb : Bool} {og : Oper} (h : AOps P ro ops rest Q ⟨(d, .v (.int .u8 (byteAt u i))) :: T, H, D, n⟩) (g1 : ops[g]? = some og := by rfl) (g2 : og.dst = some gt := by rfl) (g3 : lk T gt = some (.v (.bool gb)) := by rfl) (hp : ev T p = some (.v (.string u)) := by rfl) (hq : ev T q = some (.v (.int k i)) := by rfl) [hu : UD P t .string] (h0 : 0 ≤ i := by first | decide +kernel | omega) (h1 : i < u.size := by first | decide +kernel | omega) (hd : Nat.blt d n = true := by rfl) : AOps P ro ops ({ dst := some d, op := .index t p q, type := ty, pos := po, after := af, guard := some (g, gb) } :: rest) Q ⟨T, H, D, n⟩ := Z1 (wY rfl g1 g2 g3) hd (Z12 rfl hp hq h0 h1) h
theorem zNe {ks : List CK} {us vs : List AV} (h : AOps P ro ops rest Q ⟨(d, .v (.bool (!(ceqs us vs)))) :: T, H, D, n⟩) (hp : ev T p = some (.agg us) := by rfl) (hq : ev T q = some (.agg vs) := by rfl) [hq' : EQ P t ks] (hx : us.map ckA = ks.map some := by rfl) (hy : vs.map ckA = ks.map some := by rfl) (hd : Nat.blt d n = true := by rfl) : AOps P ro ops ({ dst := some d, op := .binOp .neq t p q t', type := ty, pos := po, after := af, guard := none } :: rest) Q ⟨T, H, D, n⟩ := Z1 (w0 rfl) hd (Z5c rfl hp hq hx hy) h
theorem Zka {ks : List CK} {us vs : List AV} (h : Calm P ops H0 KK (kk + 1) rest M ⟨(d, .v (.bool (!(ceqs us vs)))) :: T, H, D, n⟩) (hp : ev T p = some (.agg us) := by rfl) (hq : ev T q = some (.agg vs) := by rfl) [hq' : EQ P t ks] (hx : us.map ckA = ks.map some := by rfl) (hy : vs.map ckA = ks.map some := by rfl) (hd : Nat.blt d n = true := by rfl) : Calm P ops H0 KK kk ({ dst := some d, op := .binOp .neq t p q t', type := ty, pos := po, after := af, guard := none } :: rest) M ⟨T, H, D, n⟩ := Z9 (w0 rfl) hd (Z5c rfl hp hq hx hy) h
theorem Zj2 {ks : List CK} {us vs : List AV} {g gt : Nat} {gb : Bool} {og : Oper} (h : Calm P ops H0 KK (kk + 1) rest M ⟨(d, .v (.bool (!(ceqs us vs)))) :: T, H, D, n⟩) (g1 : ops[g]? = some og := by rfl) (g2 : og.dst = some gt := by rfl) (g3 : lk T gt = some (.v (.bool gb)) := by rfl) (hp : ev T p = some (.agg us) := by rfl) (hq : ev T q = some (.agg vs) := by rfl) [hq' : EQ P t ks] (hx : us.map ckA = ks.map some := by rfl) (hy : vs.map ckA = ks.map some := by rfl) (hd : Nat.blt d n = true := by rfl) : Calm P ops H0 KK kk ({ dst := some d, op := .binOp .neq t p q t', type := ty, pos := po, after := af, guard := some (g, gb) } :: rest) M ⟨T, H, D, n⟩ := Z9 (wY rfl g1 g2 g3) hd (Z5c rfl hp hq hx hy) h
theorem Zl6 {ks : List CK} {us vs : List AV} {g gt : Nat} {gb : Bool} {og : Oper} (h : AOps P ro ops rest Q ⟨(d, .v (.bool (!(ceqs us vs)))) :: T, H, D, n⟩) (g1 : ops[g]? = some og := by rfl) (g2 : og.dst = some gt := by rfl) (g3 : lk T gt = some (.v (.bool gb)) := by rfl) (hp : ev T p = some (.agg us) := by rfl) (hq : ev T q = some (.agg vs) := by rfl) [hq' : EQ P t ks] (hx : us.map ckA = ks.map some := by rfl) (hy : vs.map ckA = ks.map some := by rfl) (hd : Nat.blt d n = true := by rfl) : AOps P ro ops ({ dst := some d, op := .binOp .neq t p q t', type := ty, pos := po, after := af, guard := some (g, gb) } :: rest) Q ⟨T, H, D, n⟩ := Z1 (wY rfl g1 g2 g3) hd (Z5c rfl hp hq hx hy) h
theorem zX {i : Nat} {cs : List AV} (h : AOps P ro ops rest Q ⟨(d, x) :: T, H, D, n⟩) (hp : ev T p = some (.tup cs) := by rfl) (hx : cs[i]? = some x := by rfl) (hd : Nat.blt d n = true := by rfl) : AOps P ro ops ({ dst := some d, op := .extract p i, type := ty, pos := po, after := af, guard := none } :: rest) Q ⟨T, H, D, n⟩ := Z1 (w0 rfl) hd (Zu rfl hp hx) h
theorem zcX {i : Nat} {cs : List AV} (h : Calm P ops H0 KK (kk + 1) rest M ⟨(d, x) :: T, H, D, n⟩) (hp : ev T p = some (.tup cs) := by rfl) (hx : cs[i]? = some x := by rfl) (hd : Nat.blt d n = true := by rfl) : Calm P ops H0 KK kk ({ dst := some d, op := .extract p i, type := ty, pos := po, after := af, guard := none } :: rest) M ⟨T, H, D, n⟩ := Z9 (w0 rfl) hd (Zu rfl hp hx) h
theorem Zkq {i : Nat} {cs : List AV} {g gt : Nat} {gb : Bool} {og : Oper} (h : Calm P ops H0 KK (kk + 1) rest M ⟨(d, x) :: T, H, D, n⟩) (g1 : ops[g]? = some og := by rfl) (g2 : og.dst = some gt := by rfl) (g3 : lk T gt = some (.v (.bool gb)) := by rfl) (hp : ev T p = some (.tup cs) := by rfl) (hx : cs[i]? = some x := by rfl) (hd : Nat.blt d n = true := by rfl) : Calm P ops H0 KK kk ({ dst := some d, op := .extract p i, type := ty, pos := po, after := af, guard := some (g, gb) } :: rest) M ⟨T, H, D, n⟩ := Z9 (wY rfl g1 g2 g3) hd (Zu rfl hp hx) h
theorem zgX {i : Nat} {cs : List AV} {g gt : Nat} {gb : Bool} {og : Oper} (h : AOps P ro ops rest Q ⟨(d, x) :: T, H, D, n⟩) (g1 : ops[g]? = some og := by rfl) (g2 : og.dst = some gt := by rfl) (g3 : lk T gt = some (.v (.bool gb)) := by rfl) (hp : ev T p = some (.tup cs) := by rfl) (hx : cs[i]? = some x := by rfl) (hd : Nat.blt d n = true := by rfl) : AOps P ro ops ({ dst := some d, op := .extract p i, type := ty, pos := po, after := af, guard := some (g, gb) } :: rest) Q ⟨T, H, D, n⟩ := Z1 (wY rfl g1 g2 g3) hd (Zu rfl hp hx) h
theorem zF {f off ft : Nat} (h : AOps P ro ops rest Q ⟨(d, x) :: T, H, D, n⟩) (hp : ev T p = some y := by rfl) [hf : FO P t f off ft] (hz : plus y off = some x := by rfl) (hd : Nat.blt d n = true := by rfl) : AOps P ro ops ({ dst := some d, op := .fieldAddr t p f, type := ty, pos := po, after := af, guard := none } :: rest) Q ⟨T, H, D, n⟩ := Z1 (w0 rfl) hd (Z1c rfl hp hz) h
theorem zcF {f off ft : Nat} (h : Calm P ops H0 KK (kk + 1) rest M ⟨(d, x) :: T, H, D, n⟩) (hp : ev T p = some y := by rfl) [hf : FO P t f off ft] (hz : plus y off = some x := by rfl) (hd : Nat.blt d n = true := by rfl) : Calm P ops H0 KK kk ({ dst := some d, op := .fieldAddr t p f, type := ty, pos := po, after := af, guard := none } :: rest) M ⟨T, H, D, n⟩ := Z9 (w0 rfl) hd (Z1c rfl hp hz) h
theorem Zki {f off ft : Nat} {g gt : Nat} {gb : Bool} {og : Oper} (h : Calm P ops H0 KK (kk + 1) rest M ⟨(d, x) :: T, H, D, n⟩) (g1 : ops[g]? = some og := by rfl) (g2 : og.dst = some gt := by rfl) (g3 : lk T gt = some (.v (.bool gb)) := by rfl) (hp : ev T p = some y := by rfl) [hf : FO P t f off ft] (hz : plus y off = some x := by rfl) (hd : Nat.blt d n = true := by rfl) : Calm P ops H0 KK kk ({ dst := some d, op := .fieldAddr t p f, type := ty, pos := po, after := af, guard := some (g, gb) } :: rest) M ⟨T, H, D, n⟩ := Z9 (wY rfl g1 g2 g3) hd (Z1c rfl hp hz) h
theorem zgF {f off ft : Nat} {g gt : Nat} {gb : Bool} {og : Oper} (h : AOps P ro ops rest Q ⟨(d, x) :: T, H, D, n⟩) (g1 : ops[g]? = some og := by rfl) (g2 : og.dst = some gt := by rfl) (g3 : lk T gt = some (.v (.bool gb)) := by rfl) (hp : ev T p = some y := by rfl) [hf : FO P t f off ft] (hz : plus y off = some x := by rfl) (hd : Nat.blt d n = true := by rfl) : AOps P ro ops ({ dst := some d, op := .fieldAddr t p f, type := ty, pos := po, after := af, guard := some (g, gb) } :: rest) Q ⟨T, H, D, n⟩ := Z1 (wY rfl g1 g2 g3) hd (Z1c rfl hp hz) h
theorem zNc  (h : AOps P ro ops rest Q ⟨(d, x) :: T, H, D, n⟩) (hp : ev T p = some x := by rfl) (hx : isPtr x = true := by rfl) (hd : Nat.blt d n = true := by rfl) : AOps P ro ops ({ dst := some d, op := .nilCheck p, type := ty, pos := po, after := af, guard := none } :: rest) Q ⟨T, H, D, n⟩ := Z1 (w0 rfl) hd (Z0b rfl hp hx) h
theorem Zk9  (h : Calm P ops H0 KK (kk + 1) rest M ⟨(d, x) :: T, H, D, n⟩) (hp : ev T p = some x := by rfl) (hx : isPtr x = true := by rfl) (hd : Nat.blt d n = true := by rfl) : Calm P ops H0 KK kk ({ dst := some d, op := .nilCheck p, type := ty, pos := po, after := af, guard := none } :: rest) M ⟨T, H, D, n⟩ := Z9 (w0 rfl) hd (Z0b rfl hp hx) h
theorem Zj1  {g gt : Nat} {gb : Bool} {og : Oper} (h : Calm P ops H0 KK (kk + 1) rest M ⟨(d, x) :: T, H, D, n⟩) (g1 : ops[g]? = some og := by rfl) (g2 : og.dst = some gt := by rfl) (g3 : lk T gt = some (.v (.bool gb)) := by rfl) (hp : ev T p = some x := by rfl) (hx : isPtr x = true := by rfl) (hd : Nat.blt d n = true := by rfl) : Calm P ops H0 KK kk ({ dst := some d, op := .nilCheck p, type := ty, pos := po, after := af, guard := some (g, gb) } :: rest) M ⟨T, H, D, n⟩ := Z9 (wY rfl g1 g2 g3) hd (Z0b rfl hp hx) h
theorem Zl5  {g gt : Nat} {gb : Bool} {og : Oper} (h : AOps P ro ops rest Q ⟨(d, x) :: T, H, D, n⟩) (g1 : ops[g]? = some og := by rfl) (g2 : og.dst = some gt := by rfl) (g3 : lk T gt = some (.v (.bool gb)) := by rfl) (hp : ev T p = some x := by rfl) (hx : isPtr x = true := by rfl) (hd : Nat.blt d n = true := by rfl) : AOps P ro ops ({ dst := some d, op := .nilCheck p, type := ty, pos := po, after := af, guard := some (g, gb) } :: rest) Q ⟨T, H, D, n⟩ := Z1 (wY rfl g1 g2 g3) hd (Z0b rfl hp hx) h
theorem zB1 [tk : TK P t true 1] {c1 : AV} {pl : List (Nat × Nat)} {zs : List Value} {ps : Array (Nat × Operand)} {xs : List AV} (h : AOps P ro ops rest Q ⟨(d, .agg [c1]) :: T, H, D, n⟩) (hxs : evs T (ps.toList.map Prod.snd) = some xs := by rfl) [hl : PL P t pl] [hz : ZC P t zs] (hc : fillA (fun i => pl[i]?) (zs.map .v) ((ps.toList.map Prod.fst).zip xs) = some [c1] := by rfl) (hd : Nat.blt d n = true := by rfl) : AOps P ro ops ({ dst := some d, op := .build t ps, type := ty, pos := po, after := af, guard := none } :: rest) Q ⟨T, H, D, n⟩ := Z1 (w0 rfl) hd (Z03 rfl hxs hc) h
theorem Zju [tk : TK P t true 1] {c1 : AV} {pl : List (Nat × Nat)} {zs : List Value} {ps : Array (Nat × Operand)} {xs : List AV} (h : Calm P ops H0 KK (kk + 1) rest M ⟨(d, .agg [c1]) :: T, H, D, n⟩) (hxs : evs T (ps.toList.map Prod.snd) = some xs := by rfl) [hl : PL P t pl] [hz : ZC P t zs] (hc : fillA (fun i => pl[i]?) (zs.map .v) ((ps.toList.map Prod.fst).zip xs) = some [c1] := by rfl) (hd : Nat.blt d n = true := by rfl) : Calm P ops H0 KK kk ({ dst := some d, op := .build t ps, type := ty, pos := po, after := af, guard := none } :: rest) M ⟨T, H, D, n⟩ := Z9 (w0 rfl) hd (Z03 rfl hxs hc) h
theorem Zim [tk : TK P t true 1] {c1 : AV} {pl : List (Nat × Nat)} {zs : List Value} {ps : Array (Nat × Operand)} {xs : List AV} {g gt : Nat} {gb : Bool} {og : Oper} (h : Calm P ops H0 KK (kk + 1) rest M ⟨(d, .agg [c1]) :: T, H, D, n⟩) (g1 : ops[g]? = some og := by rfl) (g2 : og.dst = some gt := by rfl) (g3 : lk T gt = some (.v (.bool gb)) := by rfl) (hxs : evs T (ps.toList.map Prod.snd) = some xs := by rfl) [hl : PL P t pl] [hz : ZC P t zs] (hc : fillA (fun i => pl[i]?) (zs.map .v) ((ps.toList.map Prod.fst).zip xs) = some [c1] := by rfl) (hd : Nat.blt d n = true := by rfl) : Calm P ops H0 KK kk ({ dst := some d, op := .build t ps, type := ty, pos := po, after := af, guard := some (g, gb) } :: rest) M ⟨T, H, D, n⟩ := Z9 (wY rfl g1 g2 g3) hd (Z03 rfl hxs hc) h
theorem Zkr [tk : TK P t true 1] {c1 : AV} {pl : List (Nat × Nat)} {zs : List Value} {ps : Array (Nat × Operand)} {xs : List AV} {g gt : Nat} {gb : Bool} {og : Oper} (h : AOps P ro ops rest Q ⟨(d, .agg [c1]) :: T, H, D, n⟩) (g1 : ops[g]? = some og := by rfl) (g2 : og.dst = some gt := by rfl) (g3 : lk T gt = some (.v (.bool gb)) := by rfl) (hxs : evs T (ps.toList.map Prod.snd) = some xs := by rfl) [hl : PL P t pl] [hz : ZC P t zs] (hc : fillA (fun i => pl[i]?) (zs.map .v) ((ps.toList.map Prod.fst).zip xs) = some [c1] := by rfl) (hd : Nat.blt d n = true := by rfl) : AOps P ro ops ({ dst := some d, op := .build t ps, type := ty, pos := po, after := af, guard := some (g, gb) } :: rest) Q ⟨T, H, D, n⟩ := Z1 (wY rfl g1 g2 g3) hd (Z03 rfl hxs hc) h
theorem zB2 [tk : TK P t true 2] {c1 c2 : AV} {pl : List (Nat × Nat)} {zs : List Value} {ps : Array (Nat × Operand)} {xs : List AV} (h : AOps P ro ops rest Q ⟨(d, .agg [c1, c2]) :: T, H, D, n⟩) (hxs : evs T (ps.toList.map Prod.snd) = some xs := by rfl) [hl : PL P t pl] [hz : ZC P t zs] (hc : fillA (fun i => pl[i]?) (zs.map .v) ((ps.toList.map Prod.fst).zip xs) = some [c1, c2] := by rfl) (hd : Nat.blt d n = true := by rfl) : AOps P ro ops ({ dst := some d, op := .build t ps, type := ty, pos := po, after := af, guard := none } :: rest) Q ⟨T, H, D, n⟩ := Z1 (w0 rfl) hd (Z03 rfl hxs hc) h
theorem Zjv [tk : TK P t true 2] {c1 c2 : AV} {pl : List (Nat × Nat)} {zs : List Value} {ps : Array (Nat × Operand)} {xs : List AV} (h : Calm P ops H0 KK (kk + 1) rest M ⟨(d, .agg [c1, c2]) :: T, H, D, n⟩) (hxs : evs T (ps.toList.map Prod.snd) = some xs := by rfl) [hl : PL P t pl] [hz : ZC P t zs] (hc : fillA (fun i => pl[i]?) (zs.map .v) ((ps.toList.map Prod.fst).zip xs) = some [c1, c2] := by rfl) (hd : Nat.blt d n = true := by rfl) : Calm P ops H0 KK kk ({ dst := some d, op := .build t ps, type := ty, pos := po, after := af, guard := none } :: rest) M ⟨T, H, D, n⟩ := Z9 (w0 rfl) hd (Z03 rfl hxs hc) h
theorem Zin [tk : TK P t true 2] {c1 c2 : AV} {pl : List (Nat × Nat)} {zs : List Value} {ps : Array (Nat × Operand)} {xs : List AV} {g gt : Nat} {gb : Bool} {og : Oper} (h : Calm P ops H0 KK (kk + 1) rest M ⟨(d, .agg [c1, c2]) :: T, H, D, n⟩) (g1 : ops[g]? = some og := by rfl) (g2 : og.dst = some gt := by rfl) (g3 : lk T gt = some (.v (.bool gb)) := by rfl) (hxs : evs T (ps.toList.map Prod.snd) = some xs := by rfl) [hl : PL P t pl] [hz : ZC P t zs] (hc : fillA (fun i => pl[i]?) (zs.map .v) ((ps.toList.map Prod.fst).zip xs) = some [c1, c2] := by rfl) (hd : Nat.blt d n = true := by rfl) : Calm P ops H0 KK kk ({ dst := some d, op := .build t ps, type := ty, pos := po, after := af, guard := some (g, gb) } :: rest) M ⟨T, H, D, n⟩ := Z9 (wY rfl g1 g2 g3) hd (Z03 rfl hxs hc) h
theorem Zks [tk : TK P t true 2] {c1 c2 : AV} {pl : List (Nat × Nat)} {zs : List Value} {ps : Array (Nat × Operand)} {xs : List AV} {g gt : Nat} {gb : Bool} {og : Oper} (h : AOps P ro ops rest Q ⟨(d, .agg [c1, c2]) :: T, H, D, n⟩) (g1 : ops[g]? = some og := by rfl) (g2 : og.dst = some gt := by rfl) (g3 : lk T gt = some (.v (.bool gb)) := by rfl) (hxs : evs T (ps.toList.map Prod.snd) = some xs := by rfl) [hl : PL P t pl] [hz : ZC P t zs] (hc : fillA (fun i => pl[i]?) (zs.map .v) ((ps.toList.map Prod.fst).zip xs) = some [c1, c2] := by rfl) (hd : Nat.blt d n = true := by rfl) : AOps P ro ops ({ dst := some d, op := .build t ps, type := ty, pos := po, after := af, guard := some (g, gb) } :: rest) Q ⟨T, H, D, n⟩ := Z1 (wY rfl g1 g2 g3) hd (Z03 rfl hxs hc) h
theorem zB3 [tk : TK P t true 3] {c1 c2 c3 : AV} {pl : List (Nat × Nat)} {zs : List Value} {ps : Array (Nat × Operand)} {xs : List AV} (h : AOps P ro ops rest Q ⟨(d, .agg [c1, c2, c3]) :: T, H, D, n⟩) (hxs : evs T (ps.toList.map Prod.snd) = some xs := by rfl) [hl : PL P t pl] [hz : ZC P t zs] (hc : fillA (fun i => pl[i]?) (zs.map .v) ((ps.toList.map Prod.fst).zip xs) = some [c1, c2, c3] := by rfl) (hd : Nat.blt d n = true := by rfl) : AOps P ro ops ({ dst := some d, op := .build t ps, type := ty, pos := po, after := af, guard := none } :: rest) Q ⟨T, H, D, n⟩ := Z1 (w0 rfl) hd (Z03 rfl hxs hc) h
theorem Zjw [tk : TK P t true 3] {c1 c2 c3 : AV} {pl : List (Nat × Nat)} {zs : List Value} {ps : Array (Nat × Operand)} {xs : List AV} (h : Calm P ops H0 KK (kk + 1) rest M ⟨(d, .agg [c1, c2, c3]) :: T, H, D, n⟩) (hxs : evs T (ps.toList.map Prod.snd) = some xs := by rfl) [hl : PL P t pl] [hz : ZC P t zs] (hc : fillA (fun i => pl[i]?) (zs.map .v) ((ps.toList.map Prod.fst).zip xs) = some [c1, c2, c3] := by rfl) (hd : Nat.blt d n = true := by rfl) : Calm P ops H0 KK kk ({ dst := some d, op := .build t ps, type := ty, pos := po, after := af, guard := none } :: rest) M ⟨T, H, D, n⟩ := Z9 (w0 rfl) hd (Z03 rfl hxs hc) h
theorem Zio [tk : TK P t true 3] {c1 c2 c3 : AV} {pl : List (Nat × Nat)} {zs : List Value} {ps : Array (Nat × Operand)} {xs : List AV} {g gt : Nat} {gb : Bool} {og : Oper} (h : Calm P ops H0 KK (kk + 1) rest M ⟨(d, .agg [c1, c2, c3]) :: T, H, D, n⟩) (g1 : ops[g]? = some og := by rfl) (g2 : og.dst = some gt := by rfl) (g3 : lk T gt = some (.v (.bool gb)) := by rfl) (hxs : evs T (ps.toList.map Prod.snd) = some xs := by rfl) [hl : PL P t pl] [hz : ZC P t zs] (hc : fillA (fun i => pl[i]?) (zs.map .v) ((ps.toList.map Prod.fst).zip xs) = some [c1, c2, c3] := by rfl) (hd : Nat.blt d n = true := by rfl) : Calm P ops H0 KK kk ({ dst := some d, op := .build t ps, type := ty, pos := po, after := af, guard := some (g, gb) } :: rest) M ⟨T, H, D, n⟩ := Z9 (wY rfl g1 g2 g3) hd (Z03 rfl hxs hc) h
theorem Zkt [tk : TK P t true 3] {c1 c2 c3 : AV} {pl : List (Nat × Nat)} {zs : List Value} {ps : Array (Nat × Operand)} {xs : List AV} {g gt : Nat} {gb : Bool} {og : Oper} (h : AOps P ro ops rest Q ⟨(d, .agg [c1, c2, c3]) :: T, H, D, n⟩) (g1 : ops[g]? = some og := by rfl) (g2 : og.dst = some gt := by rfl) (g3 : lk T gt = some (.v (.bool gb)) := by rfl) (hxs : evs T (ps.toList.map Prod.snd) = some xs := by rfl) [hl : PL P t pl] [hz : ZC P t zs] (hc : fillA (fun i => pl[i]?) (zs.map .v) ((ps.toList.map Prod.fst).zip xs) = some [c1, c2, c3] := by rfl) (hd : Nat.blt d n = true := by rfl) : AOps P ro ops ({ dst := some d, op := .build t ps, type := ty, pos := po, after := af, guard := some (g, gb) } :: rest) Q ⟨T, H, D, n⟩ := Z1 (wY rfl g1 g2 g3) hd (Z03 rfl hxs hc) h
theorem zB4 [tk : TK P t true 4] {c1 c2 c3 c4 : AV} {pl : List (Nat × Nat)} {zs : List Value} {ps : Array (Nat × Operand)} {xs : List AV} (h : AOps P ro ops rest Q ⟨(d, .agg [c1, c2, c3, c4]) :: T, H, D, n⟩) (hxs : evs T (ps.toList.map Prod.snd) = some xs := by rfl) [hl : PL P t pl] [hz : ZC P t zs] (hc : fillA (fun i => pl[i]?) (zs.map .v) ((ps.toList.map Prod.fst).zip xs) = some [c1, c2, c3, c4] := by rfl) (hd : Nat.blt d n = true := by rfl) : AOps P ro ops ({ dst := some d, op := .build t ps, type := ty, pos := po, after := af, guard := none } :: rest) Q ⟨T, H, D, n⟩ := Z1 (w0 rfl) hd (Z03 rfl hxs hc) h
theorem Zjx [tk : TK P t true 4] {c1 c2 c3 c4 : AV} {pl : List (Nat × Nat)} {zs : List Value} {ps : Array (Nat × Operand)} {xs : List AV} (h : Calm P ops H0 KK (kk + 1) rest M ⟨(d, .agg [c1, c2, c3, c4]) :: T, H, D, n⟩) (hxs : evs T (ps.toList.map Prod.snd) = some xs := by rfl) [hl : PL P t pl] [hz : ZC P t zs] (hc : fillA (fun i => pl[i]?) (zs.map .v) ((ps.toList.map Prod.fst).zip xs) = some [c1, c2, c3, c4] := by rfl) (hd : Nat.blt d n = true := by rfl) : Calm P ops H0 KK kk ({ dst := some d, op := .build t ps, type := ty, pos := po, after := af, guard := none } :: rest) M ⟨T, H, D, n⟩ := Z9 (w0 rfl) hd (Z03 rfl hxs hc) h
theorem Zip [tk : TK P t true 4] {c1 c2 c3 c4 : AV} {pl : List (Nat × Nat)} {zs : List Value} {ps : Array (Nat × Operand)} {xs : List AV} {g gt : Nat} {gb : Bool} {og : Oper} (h : Calm P ops H0 KK (kk + 1) rest M ⟨(d, .agg [c1, c2, c3, c4]) :: T, H, D, n⟩) (g1 : ops[g]? = some og := by rfl) (g2 : og.dst = some gt := by rfl) (g3 : lk T gt = some (.v (.bool gb)) := by rfl) (hxs : evs T (ps.toList.map Prod.snd) = some xs := by rfl) [hl : PL P t pl] [hz : ZC P t zs] (hc : fillA (fun i => pl[i]?) (zs.map .v) ((ps.toList.map Prod.fst).zip xs) = some [c1, c2, c3, c4] := by rfl) (hd : Nat.blt d n = true := by rfl) : Calm P ops H0 KK kk ({ dst := some d, op := .build t ps, type := ty, pos := po, after := af, guard := some (g, gb) } :: rest) M ⟨T, H, D, n⟩ := Z9 (wY rfl g1 g2 g3) hd (Z03 rfl hxs hc) h
theorem Zku [tk : TK P t true 4] {c1 c2 c3 c4 : AV} {pl : List (Nat × Nat)} {zs : List Value} {ps : Array (Nat × Operand)} {xs : List AV} {g gt : Nat} {gb : Bool} {og : Oper} (h : AOps P ro ops rest Q ⟨(d, .agg [c1, c2, c3, c4]) :: T, H, D, n⟩) (g1 : ops[g]? = some og := by rfl) (g2 : og.dst = some gt := by rfl) (g3 : lk T gt = some (.v (.bool gb)) := by rfl) (hxs : evs T (ps.toList.map Prod.snd) = some xs := by rfl) [hl : PL P t pl] [hz : ZC P t zs] (hc : fillA (fun i => pl[i]?) (zs.map .v) ((ps.toList.map Prod.fst).zip xs) = some [c1, c2, c3, c4] := by rfl) (hd : Nat.blt d n = true := by rfl) : AOps P ro ops ({ dst := some d, op := .build t ps, type := ty, pos := po, after := af, guard := some (g, gb) } :: rest) Q ⟨T, H, D, n⟩ := Z1 (wY rfl g1 g2 g3) hd (Z03 rfl hxs hc) h
theorem zB5 [tk : TK P t true 5] {c1 c2 c3 c4 c5 : AV} {pl : List (Nat × Nat)} {zs : List Value} {ps : Array (Nat × Operand)} {xs : List AV} (h : AOps P ro ops rest Q ⟨(d, .agg [c1, c2, c3, c4, c5]) :: T, H, D, n⟩) (hxs : evs T (ps.toList.map Prod.snd) = some xs := by rfl) [hl : PL P t pl] [hz : ZC P t zs] (hc : fillA (fun i => pl[i]?) (zs.map .v) ((ps.toList.map Prod.fst).zip xs) = some [c1, c2, c3, c4, c5] := by rfl) (hd : Nat.blt d n = true := by rfl) : AOps P ro ops ({ dst := some d, op := .build t ps, type := ty, pos := po, after := af, guard := none } :: rest) Q ⟨T, H, D, n⟩ := Z1 (w0 rfl) hd (Z03 rfl hxs hc) h
theorem Zjy [tk : TK P t true 5] {c1 c2 c3 c4 c5 : AV} {pl : List (Nat × Nat)} {zs : List Value} {ps : Array (Nat × Operand)} {xs : List AV} (h : Calm P ops H0 KK (kk + 1) rest M ⟨(d, .agg [c1, c2, c3, c4, c5]) :: T, H, D, n⟩) (hxs : evs T (ps.toList.map Prod.snd) = some xs := by rfl) [hl : PL P t pl] [hz : ZC P t zs] (hc : fillA (fun i => pl[i]?) (zs.map .v) ((ps.toList.map Prod.fst).zip xs) = some [c1, c2, c3, c4, c5] := by rfl) (hd : Nat.blt d n = true := by rfl) : Calm P ops H0 KK kk ({ dst := some d, op := .build t ps, type := ty, pos := po, after := af, guard := none } :: rest) M ⟨T, H, D, n⟩ := Z9 (w0 rfl) hd (Z03 rfl hxs hc) h
theorem Ziq [tk : TK P t true 5] {c1 c2 c3 c4 c5 : AV} {pl : List (Nat × Nat)} {zs : List Value} {ps : Array (Nat × Operand)} {xs : List AV} {g gt : Nat} {gb : Bool} {og : Oper} (h : Calm P ops H0 KK (kk + 1) rest M ⟨(d, .agg [c1, c2, c3, c4, c5]) :: T, H, D, n⟩) (g1 : ops[g]? = some og := by rfl) (g2 : og.dst = some gt := by rfl) (g3 : lk T gt = some (.v (.bool gb)) := by rfl) (hxs : evs T (ps.toList.map Prod.snd) = some xs := by rfl) [hl : PL P t pl] [hz : ZC P t zs] (hc : fillA (fun i => pl[i]?) (zs.map .v) ((ps.toList.map Prod.fst).zip xs) = some [c1, c2, c3, c4, c5] := by rfl) (hd : Nat.blt d n = true := by rfl) : Calm P ops H0 KK kk ({ dst := some d, op := .build t ps, type := ty, pos := po, after := af, guard := some (g, gb) } :: rest) M ⟨T, H, D, n⟩ := Z9 (wY rfl g1 g2 g3) hd (Z03 rfl hxs hc) h
theorem Zkv [tk : TK P t true 5] {c1 c2 c3 c4 c5 : AV} {pl : List (Nat × Nat)} {zs : List Value} {ps : Array (Nat × Operand)} {xs : List AV} {g gt : Nat} {gb : Bool} {og : Oper} (h : AOps P ro ops rest Q ⟨(d, .agg [c1, c2, c3, c4, c5]) :: T, H, D, n⟩) (g1 : ops[g]? = some og := by rfl) (g2 : og.dst = some gt := by rfl) (g3 : lk T gt = some (.v (.bool gb)) := by rfl) (hxs : evs T (ps.toList.map Prod.snd) = some xs := by rfl) [hl : PL P t pl] [hz : ZC P t zs] (hc : fillA (fun i => pl[i]?) (zs.map .v) ((ps.toList.map Prod.fst).zip xs) = some [c1, c2, c3, c4, c5] := by rfl) (hd : Nat.blt d n = true := by rfl) : AOps P ro ops ({ dst := some d, op := .build t ps, type := ty, pos := po, after := af, guard := some (g, gb) } :: rest) Q ⟨T, H, D, n⟩ := Z1 (wY rfl g1 g2 g3) hd (Z03 rfl hxs hc) h
theorem zB7 [tk : TK P t true 7] {c1 c2 c3 c4 c5 c6 c7 : AV} {pl : List (Nat × Nat)} {zs : List Value} {ps : Array (Nat × Operand)} {xs : List AV} (h : AOps P ro ops rest Q ⟨(d, .agg [c1, c2, c3, c4, c5, c6, c7]) :: T, H, D, n⟩) (hxs : evs T (ps.toList.map Prod.snd) = some xs := by rfl) [hl : PL P t pl] [hz : ZC P t zs] (hc : fillA (fun i => pl[i]?) (zs.map .v) ((ps.toList.map Prod.fst).zip xs) = some [c1, c2, c3, c4, c5, c6, c7] := by rfl) (hd : Nat.blt d n = true := by rfl) : AOps P ro ops ({ dst := some d, op := .build t ps, type := ty, pos := po, after := af, guard := none } :: rest) Q ⟨T, H, D, n⟩ := Z1 (w0 rfl) hd (Z03 rfl hxs hc) h
theorem Zjz [tk : TK P t true 7] {c1 c2 c3 c4 c5 c6 c7 : AV} {pl : List (Nat × Nat)} {zs : List Value} {ps : Array (Nat × Operand)} {xs : List AV} (h : Calm P ops H0 KK (kk + 1) rest M ⟨(d, .agg [c1, c2, c3, c4, c5, c6, c7]) :: T, H, D, n⟩) (hxs : evs T (ps.toList.map Prod.snd) = some xs := by rfl) [hl : PL P t pl] [hz : ZC P t zs] (hc : fillA (fun i => pl[i]?) (zs.map .v) ((ps.toList.map Prod.fst).zip xs) = some [c1, c2, c3, c4, c5, c6, c7] := by rfl) (hd : Nat.blt d n = true := by rfl) : Calm P ops H0 KK kk ({ dst := some d, op := .build t ps, type := ty, pos := po, after := af, guard := none } :: rest) M ⟨T, H, D, n⟩ := Z9 (w0 rfl) hd (Z03 rfl hxs hc) h
theorem Zir [tk : TK P t true 7] {c1 c2 c3 c4 c5 c6 c7 : AV} {pl : List (Nat × Nat)} {zs : List Value} {ps : Array (Nat × Operand)} {xs : List AV} {g gt : Nat} {gb : Bool} {og : Oper} (h : Calm P ops H0 KK (kk + 1) rest M ⟨(d, .agg [c1, c2, c3, c4, c5, c6, c7]) :: T, H, D, n⟩) (g1 : ops[g]? = some og := by rfl) (g2 : og.dst = some gt := by rfl) (g3 : lk T gt = some (.v (.bool gb)) := by rfl) (hxs : evs T (ps.toList.map Prod.snd) = some xs := by rfl) [hl : PL P t pl] [hz : ZC P t zs] (hc : fillA (fun i => pl[i]?) (zs.map .v) ((ps.toList.map Prod.fst).zip xs) = some [c1, c2, c3, c4, c5, c6, c7] := by rfl) (hd : Nat.blt d n = true := by rfl) : Calm P ops H0 KK kk ({ dst := some d, op := .build t ps, type := ty, pos := po, after := af, guard := some (g, gb) } :: rest) M ⟨T, H, D, n⟩ := Z9 (wY rfl g1 g2 g3) hd (Z03 rfl hxs hc) h
theorem Zkw [tk : TK P t true 7] {c1 c2 c3 c4 c5 c6 c7 : AV} {pl : List (Nat × Nat)} {zs : List Value} {ps : Array (Nat × Operand)} {xs : List AV} {g gt : Nat} {gb : Bool} {og : Oper} (h : AOps P ro ops rest Q ⟨(d, .agg [c1, c2, c3, c4, c5, c6, c7]) :: T, H, D, n⟩) (g1 : ops[g]? = some og := by rfl) (g2 : og.dst = some gt := by rfl) (g3 : lk T gt = some (.v (.bool gb)) := by rfl) (hxs : evs T (ps.toList.map Prod.snd) = some xs := by rfl) [hl : PL P t pl] [hz : ZC P t zs] (hc : fillA (fun i => pl[i]?) (zs.map .v) ((ps.toList.map Prod.fst).zip xs) = some [c1, c2, c3, c4, c5, c6, c7] := by rfl) (hd : Nat.blt d n = true := by rfl) : AOps P ro ops ({ dst := some d, op := .build t ps, type := ty, pos := po, after := af, guard := some (g, gb) } :: rest) Q ⟨T, H, D, n⟩ := Z1 (wY rfl g1 g2 g3) hd (Z03 rfl hxs hc) h
theorem zB9 [tk : TK P t true 9] {c1 c2 c3 c4 c5 c6 c7 c8 c9 : AV} {pl : List (Nat × Nat)} {zs : List Value} {ps : Array (Nat × Operand)} {xs : List AV} (h : AOps P ro ops rest Q ⟨(d, .agg [c1, c2, c3, c4, c5, c6, c7, c8, c9]) :: T, H, D, n⟩) (hxs : evs T (ps.toList.map Prod.snd) = some xs := by rfl) [hl : PL P t pl] [hz : ZC P t zs] (hc : fillA (fun i => pl[i]?) (zs.map .v) ((ps.toList.map Prod.fst).zip xs) = some [c1, c2, c3, c4, c5, c6, c7, c8, c9] := by rfl) (hd : Nat.blt d n = true := by rfl) : AOps P ro ops ({ dst := some d, op := .build t ps, type := ty, pos := po, after := af, guard := none } :: rest) Q ⟨T, H, D, n⟩ := Z1 (w0 rfl) hd (Z03 rfl hxs hc) h
theorem Zk0 [tk : TK P t true 9] {c1 c2 c3 c4 c5 c6 c7 c8 c9 : AV} {pl : List (Nat × Nat)} {zs : List Value} {ps : Array (Nat × Operand)} {xs : List AV} (h : Calm P ops H0 KK (kk + 1) rest M ⟨(d, .agg [c1, c2, c3, c4, c5, c6, c7, c8, c9]) :: T, H, D, n⟩) (hxs : evs T (ps.toList.map Prod.snd) = some xs := by rfl) [hl : PL P t pl] [hz : ZC P t zs] (hc : fillA (fun i => pl[i]?) (zs.map .v) ((ps.toList.map Prod.fst).zip xs) = some [c1, c2, c3, c4, c5, c6, c7, c8, c9] := by rfl) (hd : Nat.blt d n = true := by rfl) : Calm P ops H0 KK kk ({ dst := some d, op := .build t ps, type := ty, pos := po, after := af, guard := none } :: rest) M ⟨T, H, D, n⟩ := Z9 (w0 rfl) hd (Z03 rfl hxs hc) h
theorem Zis [tk : TK P t true 9] {c1 c2 c3 c4 c5 c6 c7 c8 c9 : AV} {pl : List (Nat × Nat)} {zs : List Value} {ps : Array (Nat × Operand)} {xs : List AV} {g gt : Nat} {gb : Bool} {og : Oper} (h : Calm P ops H0 KK (kk + 1) rest M ⟨(d, .agg [c1, c2, c3, c4, c5, c6, c7, c8, c9]) :: T, H, D, n⟩) (g1 : ops[g]? = some og := by rfl) (g2 : og.dst = some gt := by rfl) (g3 : lk T gt = some (.v (.bool gb)) := by rfl) (hxs : evs T (ps.toList.map Prod.snd) = some xs := by rfl) [hl : PL P t pl] [hz : ZC P t zs] (hc : fillA (fun i => pl[i]?) (zs.map .v) ((ps.toList.map Prod.fst).zip xs) = some [c1, c2, c3, c4, c5, c6, c7, c8, c9] := by rfl) (hd : Nat.blt d n = true := by rfl) : Calm P ops H0 KK kk ({ dst := some d, op := .build t ps, type := ty, pos := po, after := af, guard := some (g, gb) } :: rest) M ⟨T, H, D, n⟩ := Z9 (wY rfl g1 g2 g3) hd (Z03 rfl hxs hc) h
theorem Zkx [tk : TK P t true 9] {c1 c2 c3 c4 c5 c6 c7 c8 c9 : AV} {pl : List (Nat × Nat)} {zs : List Value} {ps : Array (Nat × Operand)} {xs : List AV} {g gt : Nat} {gb : Bool} {og : Oper} (h : AOps P ro ops rest Q ⟨(d, .agg [c1, c2, c3, c4, c5, c6, c7, c8, c9]) :: T, H, D, n⟩) (g1 : ops[g]? = some og := by rfl) (g2 : og.dst = some gt := by rfl) (g3 : lk T gt = some (.v (.bool gb)) := by rfl) (hxs : evs T (ps.toList.map Prod.snd) = some xs := by rfl) [hl : PL P t pl] [hz : ZC P t zs] (hc : fillA (fun i => pl[i]?) (zs.map .v) ((ps.toList.map Prod.fst).zip xs) = some [c1, c2, c3, c4, c5, c6, c7, c8, c9] := by rfl) (hd : Nat.blt d n = true := by rfl) : AOps P ro ops ({ dst := some d, op := .build t ps, type := ty, pos := po, after := af, guard := some (g, gb) } :: rest) Q ⟨T, H, D, n⟩ := Z1 (wY rfl g1 g2 g3) hd (Z03 rfl hxs hc) h
theorem Zjp [tk : TK P t true 10] {c1 c2 c3 c4 c5 c6 c7 c8 c9 c10 : AV} {pl : List (Nat × Nat)} {zs : List Value} {ps : Array (Nat × Operand)} {xs : List AV} (h : AOps P ro ops rest Q ⟨(d, .agg [c1, c2, c3, c4, c5, c6, c7, c8, c9, c10]) :: T, H, D, n⟩) (hxs : evs T (ps.toList.map Prod.snd) = some xs := by rfl) [hl : PL P t pl] [hz : ZC P t zs] (hc : fillA (fun i => pl[i]?) (zs.map .v) ((ps.toList.map Prod.fst).zip xs) = some [c1, c2, c3, c4, c5, c6, c7, c8, c9, c10] := by rfl) (hd : Nat.blt d n = true := by rfl) : AOps P ro ops ({ dst := some d, op := .build t ps, type := ty, pos := po, after := af, guard := none } :: rest) Q ⟨T, H, D, n⟩ := Z1 (w0 rfl) hd (Z03 rfl hxs hc) h
theorem Zii [tk : TK P t true 10] {c1 c2 c3 c4 c5 c6 c7 c8 c9 c10 : AV} {pl : List (Nat × Nat)} {zs : List Value} {ps : Array (Nat × Operand)} {xs : List AV} (h : Calm P ops H0 KK (kk + 1) rest M ⟨(d, .agg [c1, c2, c3, c4, c5, c6, c7, c8, c9, c10]) :: T, H, D, n⟩) (hxs : evs T (ps.toList.map Prod.snd) = some xs := by rfl) [hl : PL P t pl] [hz : ZC P t zs] (hc : fillA (fun i => pl[i]?) (zs.map .v) ((ps.toList.map Prod.fst).zip xs) = some [c1, c2, c3, c4, c5, c6, c7, c8, c9, c10] := by rfl) (hd : Nat.blt d n = true := by rfl) : Calm P ops H0 KK kk ({ dst := some d, op := .build t ps, type := ty, pos := po, after := af, guard := none } :: rest) M ⟨T, H, D, n⟩ := Z9 (w0 rfl) hd (Z03 rfl hxs hc) h
theorem Zhy [tk : TK P t true 10] {c1 c2 c3 c4 c5 c6 c7 c8 c9 c10 : AV} {pl : List (Nat × Nat)} {zs : List Value} {ps : Array (Nat × Operand)} {xs : List AV} {g gt : Nat} {gb : Bool} {og : Oper} (h : Calm P ops H0 KK (kk + 1) rest M ⟨(d, .agg [c1, c2, c3, c4, c5, c6, c7, c8, c9, c10]) :: T, H, D, n⟩) (g1 : ops[g]? = some og := by rfl) (g2 : og.dst = some gt := by rfl) (g3 : lk T gt = some (.v (.bool gb)) := by rfl) (hxs : evs T (ps.toList.map Prod.snd) = some xs := by rfl) [hl : PL P t pl] [hz : ZC P t zs] (hc : fillA (fun i => pl[i]?) (zs.map .v) ((ps.toList.map Prod.fst).zip xs) = some [c1, c2, c3, c4, c5, c6, c7, c8, c9, c10] := by rfl) (hd : Nat.blt d n = true := by rfl) : Calm P ops H0 KK kk ({ dst := some d, op := .build t ps, type := ty, pos := po, after := af, guard := some (g, gb) } :: rest) M ⟨T, H, D, n⟩ := Z9 (wY rfl g1 g2 g3) hd (Z03 rfl hxs hc) h
theorem Zj9 [tk : TK P t true 10] {c1 c2 c3 c4 c5 c6 c7 c8 c9 c10 : AV} {pl : List (Nat × Nat)} {zs : List Value} {ps : Array (Nat × Operand)} {xs : List AV} {g gt : Nat} {gb : Bool} {og : Oper} (h : AOps P ro ops rest Q ⟨(d, .agg [c1, c2, c3, c4, c5, c6, c7, c8, c9, c10]) :: T, H, D, n⟩) (g1 : ops[g]? = some og := by rfl) (g2 : og.dst = some gt := by rfl) (g3 : lk T gt = some (.v (.bool gb)) := by rfl) (hxs : evs T (ps.toList.map Prod.snd) = some xs := by rfl) [hl : PL P t pl] [hz : ZC P t zs] (hc : fillA (fun i => pl[i]?) (zs.map .v) ((ps.toList.map Prod.fst).zip xs) = some [c1, c2, c3, c4, c5, c6, c7, c8, c9, c10] := by rfl) (hd : Nat.blt d n = true := by rfl) : AOps P ro ops ({ dst := some d, op := .build t ps, type := ty, pos := po, after := af, guard := some (g, gb) } :: rest) Q ⟨T, H, D, n⟩ := Z1 (wY rfl g1 g2 g3) hd (Z03 rfl hxs hc) h
theorem zC0 {ats : Array TypeId} {f : Nat} (h : AOps P ro ops rest Q ⟨(d, x) :: T, H, D, n⟩)  [hc : Con P f [] x] (hd : Nat.blt d n = true := by rfl) : AOps P ro ops ({ dst := some d, op := .call { callee := .value (.func f), args := #[], argTypes := ats }, type := ty, pos := po, after := af, guard := none } :: rest) Q ⟨T, H, D, n⟩ := Z1 (w0 rfl) hd (Zq (caps := []) [] rfl rfl Z0c hc.c List.nodup_nil) h
theorem Zk1 {ats : Array TypeId} {f : Nat} (h : Calm P ops H0 KK (kk + 1) rest M ⟨(d, x) :: T, H, D, n⟩)  [hc : Con P f [] x] (hd : Nat.blt d n = true := by rfl) : Calm P ops H0 KK kk ({ dst := some d, op := .call { callee := .value (.func f), args := #[], argTypes := ats }, type := ty, pos := po, after := af, guard := none } :: rest) M ⟨T, H, D, n⟩ := Z9 (w0 rfl) hd (Zq (caps := []) [] rfl rfl Z0c hc.c List.nodup_nil) h
theorem Zit {ats : Array TypeId} {f : Nat} {g gt : Nat} {gb : Bool} {og : Oper} (h : Calm P ops H0 KK (kk + 1) rest M ⟨(d, x) :: T, H, D, n⟩) (g1 : ops[g]? = some og := by rfl) (g2 : og.dst = some gt := by rfl) (g3 : lk T gt = some (.v (.bool gb)) := by rfl)  [hc : Con P f [] x] (hd : Nat.blt d n = true := by rfl) : Calm P ops H0 KK kk ({ dst := some d, op := .call { callee := .value (.func f), args := #[], argTypes := ats }, type := ty, pos := po, after := af, guard := some (g, gb) } :: rest) M ⟨T, H, D, n⟩ := Z9 (wY rfl g1 g2 g3) hd (Zq (caps := []) [] rfl rfl Z0c hc.c List.nodup_nil) h
theorem Zky {ats : Array TypeId} {f : Nat} {g gt : Nat} {gb : Bool} {og : Oper} (h : AOps P ro ops rest Q ⟨(d, x) :: T, H, D, n⟩) (g1 : ops[g]? = some og := by rfl) (g2 : og.dst = some gt := by rfl) (g3 : lk T gt = some (.v (.bool gb)) := by rfl)  [hc : Con P f [] x] (hd : Nat.blt d n = true := by rfl) : AOps P ro ops ({ dst := some d, op := .call { callee := .value (.func f), args := #[], argTypes := ats }, type := ty, pos := po, after := af, guard := some (g, gb) } :: rest) Q ⟨T, H, D, n⟩ := Z1 (wY rfl g1 g2 g3) hd (Zq (caps := []) [] rfl rfl Z0c hc.c List.nodup_nil) h
theorem zC1 {ats : Array TypeId} {f : Nat} {p1 : Operand} {x1 : AV} (h : AOps P ro ops rest Q ⟨(d, x) :: T, H, D, n⟩) (h1 : ev T p1 = some x1 := by rfl) [hc : Con P f [x1] x] (hd : Nat.blt d n = true := by rfl) : AOps P ro ops ({ dst := some d, op := .call { callee := .value (.func f), args := #[p1], argTypes := ats }, type := ty, pos := po, after := af, guard := none } :: rest) Q ⟨T, H, D, n⟩ := Z1 (w0 rfl) hd (Zq (caps := []) [] rfl rfl (Zl h1 Z0c) hc.c List.nodup_nil) h
theorem Zk2 {ats : Array TypeId} {f : Nat} {p1 : Operand} {x1 : AV} (h : Calm P ops H0 KK (kk + 1) rest M ⟨(d, x) :: T, H, D, n⟩) (h1 : ev T p1 = some x1 := by rfl) [hc : Con P f [x1] x] (hd : Nat.blt d n = true := by rfl) : Calm P ops H0 KK kk ({ dst := some d, op := .call { callee := .value (.func f), args := #[p1], argTypes := ats }, type := ty, pos := po, after := af, guard := none } :: rest) M ⟨T, H, D, n⟩ := Z9 (w0 rfl) hd (Zq (caps := []) [] rfl rfl (Zl h1 Z0c) hc.c List.nodup_nil) h
theorem Ziu {ats : Array TypeId} {f : Nat} {p1 : Operand} {x1 : AV} {g gt : Nat} {gb : Bool} {og : Oper} (h : Calm P ops H0 KK (kk + 1) rest M ⟨(d, x) :: T, H, D, n⟩) (g1 : ops[g]? = some og := by rfl) (g2 : og.dst = some gt := by rfl) (g3 : lk T gt = some (.v (.bool gb)) := by rfl) (h1 : ev T p1 = some x1 := by rfl) [hc : Con P f [x1] x] (hd : Nat.blt d n = true := by rfl) : Calm P ops H0 KK kk ({ dst := some d, op := .call { callee := .value (.func f), args := #[p1], argTypes := ats }, type := ty, pos := po, after := af, guard := some (g, gb) } :: rest) M ⟨T, H, D, n⟩ := Z9 (wY rfl g1 g2 g3) hd (Zq (caps := []) [] rfl rfl (Zl h1 Z0c) hc.c List.nodup_nil) h
theorem Zkz {ats : Array TypeId} {f : Nat} {p1 : Operand} {x1 : AV} {g gt : Nat} {gb : Bool} {og : Oper} (h : AOps P ro ops rest Q ⟨(d, x) :: T, H, D, n⟩) (g1 : ops[g]? = some og := by rfl) (g2 : og.dst = some gt := by rfl) (g3 : lk T gt = some (.v (.bool gb)) := by rfl) (h1 : ev T p1 = some x1 := by rfl) [hc : Con P f [x1] x] (hd : Nat.blt d n = true := by rfl) : AOps P ro ops ({ dst := some d, op := .call { callee := .value (.func f), args := #[p1], argTypes := ats }, type := ty, pos := po, after := af, guard := some (g, gb) } :: rest) Q ⟨T, H, D, n⟩ := Z1 (wY rfl g1 g2 g3) hd (Zq (caps := []) [] rfl rfl (Zl h1 Z0c) hc.c List.nodup_nil) h
theorem zC2 {ats : Array TypeId} {f : Nat} {p1 p2 : Operand} {x1 x2 : AV} (h : AOps P ro ops rest Q ⟨(d, x) :: T, H, D, n⟩) (h1 : ev T p1 = some x1 := by rfl) (h2 : ev T p2 = some x2 := by rfl) [hc : Con P f [x1, x2] x] (hd : Nat.blt d n = true := by rfl) : AOps P ro ops ({ dst := some d, op := .call { callee := .value (.func f), args := #[p1, p2], argTypes := ats }, type := ty, pos := po, after := af, guard := none } :: rest) Q ⟨T, H, D, n⟩ := Z1 (w0 rfl) hd (Zq (caps := []) [] rfl rfl (Zl h1 (Zl h2 Z0c)) hc.c List.nodup_nil) h
theorem Zk3 {ats : Array TypeId} {f : Nat} {p1 p2 : Operand} {x1 x2 : AV} (h : Calm P ops H0 KK (kk + 1) rest M ⟨(d, x) :: T, H, D, n⟩) (h1 : ev T p1 = some x1 := by rfl) (h2 : ev T p2 = some x2 := by rfl) [hc : Con P f [x1, x2] x] (hd : Nat.blt d n = true := by rfl) : Calm P ops H0 KK kk ({ dst := some d, op := .call { callee := .value (.func f), args := #[p1, p2], argTypes := ats }, type := ty, pos := po, after := af, guard := none } :: rest) M ⟨T, H, D, n⟩ := Z9 (w0 rfl) hd (Zq (caps := []) [] rfl rfl (Zl h1 (Zl h2 Z0c)) hc.c List.nodup_nil) h
theorem Ziv {ats : Array TypeId} {f : Nat} {p1 p2 : Operand} {x1 x2 : AV} {g gt : Nat} {gb : Bool} {og : Oper} (h : Calm P ops H0 KK (kk + 1) rest M ⟨(d, x) :: T, H, D, n⟩) (g1 : ops[g]? = some og := by rfl) (g2 : og.dst = some gt := by rfl) (g3 : lk T gt = some (.v (.bool gb)) := by rfl) (h1 : ev T p1 = some x1 := by rfl) (h2 : ev T p2 = some x2 := by rfl) [hc : Con P f [x1, x2] x] (hd : Nat.blt d n = true := by rfl) : Calm P ops H0 KK kk ({ dst := some d, op := .call { callee := .value (.func f), args := #[p1, p2], argTypes := ats }, type := ty, pos := po, after := af, guard := some (g, gb) } :: rest) M ⟨T, H, D, n⟩ := Z9 (wY rfl g1 g2 g3) hd (Zq (caps := []) [] rfl rfl (Zl h1 (Zl h2 Z0c)) hc.c List.nodup_nil) h
theorem Zl0 {ats : Array TypeId} {f : Nat} {p1 p2 : Operand} {x1 x2 : AV} {g gt : Nat} {gb : Bool} {og : Oper} (h : AOps P ro ops rest Q ⟨(d, x) :: T, H, D, n⟩) (g1 : ops[g]? = some og := by rfl) (g2 : og.dst = some gt := by rfl) (g3 : lk T gt = some (.v (.bool gb)) := by rfl) (h1 : ev T p1 = some x1 := by rfl) (h2 : ev T p2 = some x2 := by rfl) [hc : Con P f [x1, x2] x] (hd : Nat.blt d n = true := by rfl) : AOps P ro ops ({ dst := some d, op := .call { callee := .value (.func f), args := #[p1, p2], argTypes := ats }, type := ty, pos := po, after := af, guard := some (g, gb) } :: rest) Q ⟨T, H, D, n⟩ := Z1 (wY rfl g1 g2 g3) hd (Zq (caps := []) [] rfl rfl (Zl h1 (Zl h2 Z0c)) hc.c List.nodup_nil) h
theorem zC3 {ats : Array TypeId} {f : Nat} {p1 p2 p3 : Operand} {x1 x2 x3 : AV} (h : AOps P ro ops rest Q ⟨(d, x) :: T, H, D, n⟩) (h1 : ev T p1 = some x1 := by rfl) (h2 : ev T p2 = some x2 := by rfl) (h3 : ev T p3 = some x3 := by rfl) [hc : Con P f [x1, x2, x3] x] (hd : Nat.blt d n = true := by rfl) : AOps P ro ops ({ dst := some d, op := .call { callee := .value (.func f), args := #[p1, p2, p3], argTypes := ats }, type := ty, pos := po, after := af, guard := none } :: rest) Q ⟨T, H, D, n⟩ := Z1 (w0 rfl) hd (Zq (caps := []) [] rfl rfl (Zl h1 (Zl h2 (Zl h3 Z0c))) hc.c List.nodup_nil) h
theorem Zk4 {ats : Array TypeId} {f : Nat} {p1 p2 p3 : Operand} {x1 x2 x3 : AV} (h : Calm P ops H0 KK (kk + 1) rest M ⟨(d, x) :: T, H, D, n⟩) (h1 : ev T p1 = some x1 := by rfl) (h2 : ev T p2 = some x2 := by rfl) (h3 : ev T p3 = some x3 := by rfl) [hc : Con P f [x1, x2, x3] x] (hd : Nat.blt d n = true := by rfl) : Calm P ops H0 KK kk ({ dst := some d, op := .call { callee := .value (.func f), args := #[p1, p2, p3], argTypes := ats }, type := ty, pos := po, after := af, guard := none } :: rest) M ⟨T, H, D, n⟩ := Z9 (w0 rfl) hd (Zq (caps := []) [] rfl rfl (Zl h1 (Zl h2 (Zl h3 Z0c))) hc.c List.nodup_nil) h
theorem Ziw {ats : Array TypeId} {f : Nat} {p1 p2 p3 : Operand} {x1 x2 x3 : AV} {g gt : Nat} {gb : Bool} {og : Oper} (h : Calm P ops H0 KK (kk + 1) rest M ⟨(d, x) :: T, H, D, n⟩) (g1 : ops[g]? = some og := by rfl) (g2 : og.dst = some gt := by rfl) (g3 : lk T gt = some (.v (.bool gb)) := by rfl) (h1 : ev T p1 = some x1 := by rfl) (h2 : ev T p2 = some x2 := by rfl) (h3 : ev T p3 = some x3 := by rfl) [hc : Con P f [x1, x2, x3] x] (hd : Nat.blt d n = true := by rfl) : Calm P ops H0 KK kk ({ dst := some d, op := .call { callee := .value (.func f), args := #[p1, p2, p3], argTypes := ats }, type := ty, pos := po, after := af, guard := some (g, gb) } :: rest) M ⟨T, H, D, n⟩ := Z9 (wY rfl g1 g2 g3) hd (Zq (caps := []) [] rfl rfl (Zl h1 (Zl h2 (Zl h3 Z0c))) hc.c List.nodup_nil) h
theorem Zl1 {ats : Array TypeId} {f : Nat} {p1 p2 p3 : Operand} {x1 x2 x3 : AV} {g gt : Nat} {gb : Bool} {og : Oper} (h : AOps P ro ops rest Q ⟨(d, x) :: T, H, D, n⟩) (g1 : ops[g]? = some og := by rfl) (g2 : og.dst = some gt := by rfl) (g3 : lk T gt = some (.v (.bool gb)) := by rfl) (h1 : ev T p1 = some x1 := by rfl) (h2 : ev T p2 = some x2 := by rfl) (h3 : ev T p3 = some x3 := by rfl) [hc : Con P f [x1, x2, x3] x] (hd : Nat.blt d n = true := by rfl) : AOps P ro ops ({ dst := some d, op := .call { callee := .value (.func f), args := #[p1, p2, p3], argTypes := ats }, type := ty, pos := po, after := af, guard := some (g, gb) } :: rest) Q ⟨T, H, D, n⟩ := Z1 (wY rfl g1 g2 g3) hd (Zq (caps := []) [] rfl rfl (Zl h1 (Zl h2 (Zl h3 Z0c))) hc.c List.nodup_nil) h
theorem zC4 {ats : Array TypeId} {f : Nat} {p1 p2 p3 p4 : Operand} {x1 x2 x3 x4 : AV} (h : AOps P ro ops rest Q ⟨(d, x) :: T, H, D, n⟩) (h1 : ev T p1 = some x1 := by rfl) (h2 : ev T p2 = some x2 := by rfl) (h3 : ev T p3 = some x3 := by rfl) (h4 : ev T p4 = some x4 := by rfl) [hc : Con P f [x1, x2, x3, x4] x] (hd : Nat.blt d n = true := by rfl) : AOps P ro ops ({ dst := some d, op := .call { callee := .value (.func f), args := #[p1, p2, p3, p4], argTypes := ats }, type := ty, pos := po, after := af, guard := none } :: rest) Q ⟨T, H, D, n⟩ := Z1 (w0 rfl) hd (Zq (caps := []) [] rfl rfl (Zl h1 (Zl h2 (Zl h3 (Zl h4 Z0c)))) hc.c List.nodup_nil) h
theorem Zk5 {ats : Array TypeId} {f : Nat} {p1 p2 p3 p4 : Operand} {x1 x2 x3 x4 : AV} (h : Calm P ops H0 KK (kk + 1) rest M ⟨(d, x) :: T, H, D, n⟩) (h1 : ev T p1 = some x1 := by rfl) (h2 : ev T p2 = some x2 := by rfl) (h3 : ev T p3 = some x3 := by rfl) (h4 : ev T p4 = some x4 := by rfl) [hc : Con P f [x1, x2, x3, x4] x] (hd : Nat.blt d n = true := by rfl) : Calm P ops H0 KK kk ({ dst := some d, op := .call { callee := .value (.func f), args := #[p1, p2, p3, p4], argTypes := ats }, type := ty, pos := po, after := af, guard := none } :: rest) M ⟨T, H, D, n⟩ := Z9 (w0 rfl) hd (Zq (caps := []) [] rfl rfl (Zl h1 (Zl h2 (Zl h3 (Zl h4 Z0c)))) hc.c List.nodup_nil) h
theorem Zix {ats : Array TypeId} {f : Nat} {p1 p2 p3 p4 : Operand} {x1 x2 x3 x4 : AV} {g gt : Nat} {gb : Bool} {og : Oper} (h : Calm P ops H0 KK (kk + 1) rest M ⟨(d, x) :: T, H, D, n⟩) (g1 : ops[g]? = some og := by rfl) (g2 : og.dst = some gt := by rfl) (g3 : lk T gt = some (.v (.bool gb)) := by rfl) (h1 : ev T p1 = some x1 := by rfl) (h2 : ev T p2 = some x2 := by rfl) (h3 : ev T p3 = some x3 := by rfl) (h4 : ev T p4 = some x4 := by rfl) [hc : Con P f [x1, x2, x3, x4] x] (hd : Nat.blt d n = true := by rfl) : Calm P ops H0 KK kk ({ dst := some d, op := .call { callee := .value (.func f), args := #[p1, p2, p3, p4], argTypes := ats }, type := ty, pos := po, after := af, guard := some (g, gb) } :: rest) M ⟨T, H, D, n⟩ := Z9 (wY rfl g1 g2 g3) hd (Zq (caps := []) [] rfl rfl (Zl h1 (Zl h2 (Zl h3 (Zl h4 Z0c)))) hc.c List.nodup_nil) h
theorem Zl2 {ats : Array TypeId} {f : Nat} {p1 p2 p3 p4 : Operand} {x1 x2 x3 x4 : AV} {g gt : Nat} {gb : Bool} {og : Oper} (h : AOps P ro ops rest Q ⟨(d, x) :: T, H, D, n⟩) (g1 : ops[g]? = some og := by rfl) (g2 : og.dst = some gt := by rfl) (g3 : lk T gt = some (.v (.bool gb)) := by rfl) (h1 : ev T p1 = some x1 := by rfl) (h2 : ev T p2 = some x2 := by rfl) (h3 : ev T p3 = some x3 := by rfl) (h4 : ev T p4 = some x4 := by rfl) [hc : Con P f [x1, x2, x3, x4] x] (hd : Nat.blt d n = true := by rfl) : AOps P ro ops ({ dst := some d, op := .call { callee := .value (.func f), args := #[p1, p2, p3, p4], argTypes := ats }, type := ty, pos := po, after := af, guard := some (g, gb) } :: rest) Q ⟨T, H, D, n⟩ := Z1 (wY rfl g1 g2 g3) hd (Zq (caps := []) [] rfl rfl (Zl h1 (Zl h2 (Zl h3 (Zl h4 Z0c)))) hc.c List.nodup_nil) h
theorem zD {g gt : Nat} {gb : Bool} {og : Oper} {op : Op} (h : AOps P ro ops rest Q ⟨(d, .v undef) :: T, H, D, n⟩) (g1 : ops[g]? = some og := by rfl) (g2 : og.dst = some gt := by rfl) (g3 : lk T gt = some (.v (.bool (!gb))) := by rfl) (hd : Nat.blt d n = true := by rfl) : AOps P ro ops ({ dst := some d, op := op, type := ty, pos := po, after := af, guard := some (g, gb) } :: rest) Q ⟨T, H, D, n⟩ := Z0k (x := .v undef) (wZ rfl g1 g2 g3) hd nofun h
theorem Zjq {m : Nat} {b : Bool} {l : List AV} (h : ∀ id, AOps P ro ops rest Q ⟨(d, .ptr id m 0 0) :: T, (id, .rows t m [l]) :: H, D, n⟩) (hp : ev T p = some x := by rfl) [k : TK P t b m] (hl : cellsA x = l := by rfl) (hn : l.length = m := by rfl) (h1 : l.all one = true := by rfl) (hd : Nat.blt d n = true := by rfl) : AOps P ro ops ({ dst := some d, op := .box t p, type := ty, pos := po, after := af, guard := none } :: rest) Q ⟨T, H, D, n⟩ := Z1t (w0 rfl) hd (fun id => Zc5 id rfl hp hl hn h1) h
theorem Zjk {b : Bool} [kt : TK P t b 2] {zs : List Value} [z : ZC P t zs] {c1 c2 : AV} (h : ∀ id, AOps P ro ops rest Q ⟨(d, .ptr id 2 0 0) :: T, (id, .rows t 2 [[c1, c2]]) :: H, D, n⟩) (hl : zs.map AV.v = [c1, c2] := by rfl) (hn : zs.length = 2 := by rfl) (h1 : (zs.map AV.v).all one = true := by rfl) (hd : Nat.blt d n = true := by rfl) : AOps P ro ops ({ dst := some d, op := .alloc t, type := ty, pos := po, after := af, guard := none } :: rest) Q ⟨T, H, D, n⟩ := Z1t (w0 rfl) hd (fun id => Z2t id rfl hn h1) (by rw [hl]; exact h)
theorem Zhx {b : Bool} [kt : TK P t b 10] {zs : List Value} [z : ZC P t zs] {c1 c2 c3 c4 c5 c6 c7 c8 c9 c10 : AV} (h : ∀ id, AOps P ro ops rest Q ⟨(d, .ptr id 10 0 0) :: T, (id, .rows t 10 [[c1, c2, c3, c4, c5, c6, c7, c8, c9, c10]]) :: H, D, n⟩) (hl : zs.map AV.v = [c1, c2, c3, c4, c5, c6, c7, c8, c9, c10] := by rfl) (hn : zs.length = 10 := by rfl) (h1 : (zs.map AV.v).all one = true := by rfl) (hd : Nat.blt d n = true := by rfl) : AOps P ro ops ({ dst := some d, op := .alloc t, type := ty, pos := po, after := af, guard := none } :: rest) Q ⟨T, H, D, n⟩ := Z1t (w0 rfl) hd (fun id => Z2t id rfl hn h1) (by rw [hl]; exact h)
theorem zLd {id sz i c el : Nat} {es : List (List AV)} {ee : List AV} (j : Nat) (h : AOps P ro ops rest Q ⟨(d, x) :: T, H, D, n⟩) (hp : ev T p = some (.ptr id sz i c) := by rfl) (hH : H[j]? = some (id, .rows el sz es) := by rfl) (he : es[i]? = some ee := by rfl) (hl : Ld P t (ee.drop c) x := by first | exact Zp | exact Zb5 | exact Zel | exact Zem | exact Zen | exact Zeo) (hd : Nat.blt d n = true := by rfl) : AOps P ro ops ({ dst := some d, op := .load t p, type := ty, pos := po, after := af, guard := none } :: rest) Q ⟨T, H, D, n⟩ := Z0r j (w0 rfl) hd rfl hp hH he hl h
theorem Zi4 {id sz i c el g gt : Nat} {gb : Bool} {og : Oper} {es : List (List AV)} {ee : List AV} (j : Nat) (h : AOps P ro ops rest Q ⟨(d, x) :: T, H, D, n⟩) (g1 : ops[g]? = some og := by rfl) (g2 : og.dst = some gt := by rfl) (g3 : lk T gt = some (.v (.bool gb)) := by rfl) (hp : ev T p = some (.ptr id sz i c) := by rfl) (hH : H[j]? = some (id, .rows el sz es) := by rfl) (he : es[i]? = some ee := by rfl) (hl : Ld P t (ee.drop c) x := by first | exact Zp | exact Zb5 | exact Zel | exact Zem | exact Zen | exact Zeo) (hd : Nat.blt d n = true := by rfl) : AOps P ro ops ({ dst := some d, op := .load t p, type := ty, pos := po, after := af, guard := some (g, gb) } :: rest) Q ⟨T, H, D, n⟩ := Z0r j (wY rfl g1 g2 g3) hd rfl hp hH he hl h
theorem zSt {m id sz i c el : Nat} {b : Bool} {es : List (List AV)} {ee : List AV} {H' : AHeap} (j : Nat) [kt : TK P t b m] (h : AOps P ro ops rest Q ⟨T, H', D, n⟩) (hp : ev T p = some (.ptr id sz i c) := by rfl) (hH : H[j]? = some (id, .rows el sz es) := by rfl) (he : es[i]? = some ee := by rfl) (hq : ev T q = some x := by rfl) (hx : (cellsA x).length = m := by rfl) (h1 : (cellsA x).all one = true := by rfl) (hc : Nat.ble (c + m) sz = true := by rfl) (hh : H.set j (id, .rows el sz (es.set i (ee.take c ++ cellsA x ++ ee.drop (c + (cellsA x).length)))) = H' := by rfl) : AOps P ro ops ({ dst := none, op := .store t p q, type := ty, pos := po, after := af, guard := none } :: rest) Q ⟨T, H, D, n⟩ := by subst hh; exact Z1r j (w0 rfl) rfl rfl hp hH he hq hx h1 hc h
theorem Zi3 {id sz i c el : Nat} {es : List (List AV)} {ee : List AV} (j : Nat) (h : Calm P ops H0 KK (kk + 1) rest M ⟨(d, x) :: T, H, D, n⟩) (hp : ev T p = some (.ptr id sz i c) := by rfl) (hH : H0[j]? = some (id, .rows el sz es) := by rfl) (he : es[i]? = some ee := by rfl) (hl : Ld P t (ee.drop c) x := by first | exact Zp | exact Zb5 | exact Zel | exact Zem | exact Zen | exact Zeo) (hd : Nat.blt d n = true := by rfl) : Calm P ops H0 KK kk ({ dst := some d, op := .load t p, type := ty, pos := po, after := af, guard := none } :: rest) M ⟨T, H, D, n⟩ := Zw j (w0 rfl) hd rfl hp hH he hl h
theorem Zf8 {id sz i c el g gt : Nat} {gb : Bool} {og : Oper} {es : List (List AV)} {ee : List AV} (j : Nat) (h : Calm P ops H0 KK (kk + 1) rest M ⟨(d, x) :: T, H, D, n⟩) (g1 : ops[g]? = some og := by rfl) (g2 : og.dst = some gt := by rfl) (g3 : lk T gt = some (.v (.bool gb)) := by rfl) (hp : ev T p = some (.ptr id sz i c) := by rfl) (hH : H0[j]? = some (id, .rows el sz es) := by rfl) (he : es[i]? = some ee := by rfl) (hl : Ld P t (ee.drop c) x := by first | exact Zp | exact Zb5 | exact Zel | exact Zem | exact Zen | exact Zeo) (hd : Nat.blt d n = true := by rfl) : Calm P ops H0 KK kk ({ dst := some d, op := .load t p, type := ty, pos := po, after := af, guard := some (g, gb) } :: rest) M ⟨T, H, D, n⟩ := Zw j (wY rfl g1 g2 g3) hd rfl hp hH he hl h
theorem Zjl (h : KK ⟨T, H, D, n⟩) : Calm P ops H0 KK kk [] M ⟨T, H, D, n⟩ := .done h
theorem zcD {g gt : Nat} {gb : Bool} {og : Oper} {op : Op} (h : Calm P ops H0 KK (kk + 1) rest M ⟨(d, .v undef) :: T, H, D, n⟩) (g1 : ops[g]? = some og := by rfl) (g2 : og.dst = some gt := by rfl) (g3 : lk T gt = some (.v (.bool (!gb))) := by rfl) (hd : Nat.blt d n = true := by rfl) : Calm P ops H0 KK kk ({ dst := some d, op := op, type := ty, pos := po, after := af, guard := some (g, gb) } :: rest) M ⟨T, H, D, n⟩ := .off (wZ rfl g1 g2 g3) hd h
theorem Zih {id : Nat} {l : List Oper} (h : Calm P l.toArray H (AOps P ro l.toArray [] Q) 0 l [] ⟨T, H, D, n⟩) (hm : P.follows .mixedOrders = true := by rfl) (ht : tidyM l.toArray (masksOf l) l.length = true := by kernel_rfl) : AWp P ro (.region id l.toArray true) Q ⟨T, H, D, n⟩ := Z0e (masksOf l) l.length hm (by rw [List.take_length]; exact ht) (by rw [List.take_length, List.drop_length]; exact h)
theorem zN (h : Q .normal ⟨T, H, D, n⟩) : AOps P ro ops [] Q ⟨T, H, D, n⟩ := Z4 h
variable {s : St}
theorem tqR {K : St → Prop} (h : Q .ret s) : thenQ K Q .ret s := h
theorem bqR {i : Nat} (h : Q .ret s) : blockQ i Q .ret s := h
theorem tqN {K : St → Prop} (h : K s) : thenQ K Q .normal s := h
theorem bqN {i : Nat} (h : Q .normal s) : blockQ i Q .normal s := h
theorem tqX {K : St → Prop} {i : Nat} (h : Q (.exit i) s) : thenQ K Q (.exit i) s := h
theorem bqX {i : Nat} (h : Q .normal s) : blockQ i Q (.exit i) s := by simp only [blockQ, if_true]; exact h
theorem qcT {c : Operand} {x y : Code} (h : AWp P ro x Q s) (hc : ev s.T c = some (.v (.bool true)) := by rfl) : AWp P ro (.cond c x y) Q s := Zc hc (fun _ => h) nofun
theorem qcF {c : Operand} {x y : Code} (h : AWp P ro y Q s) (hc : ev s.T c = some (.v (.bool false)) := by rfl) : AWp P ro (.cond c x y) Q s := Zc hc nofun (fun _ => h)
theorem Zjn (h : Q .ret s) : AWp P ro .ret Q s := Zv h
theorem st2 {x0 x1 : AV} {c : Code} (h : AWp P ro c Q ⟨[(0, x0), (1, x1)], H, D, n⟩) : AWp P ro c Q ⟨enum [x0, x1] 0, H, D, n⟩ := h
end
theorem wk {A B : Prop} (x : A) (h : Wk A → B := by
 intro h
 repeat (first | refine qS ?_ | refine qR ?_ | refine zN ?_ | refine tqN ?_ | refine tqR ?_ | refine bqN ?_ | refine bqR ?_ | refine tqX ?_ | refine bqX ?_ | refine qB ?_ | refine qK ?_ | refine qcT ?_ | refine qcF ?_ | refine Zjn ?_ | refine qX ?_ | refine zM ?_ | refine zA ?_ | refine zI ?_ | refine zX ?_ | refine zF ?_ | refine zB1 ?_ | refine zB2 ?_ | refine zB3 ?_ | refine zB4 ?_ | refine zB5 ?_ | refine zB7 ?_ | refine zB9 ?_ | refine Zjp ?_ | refine zPT ?_ | refine zPF ?_ | refine zK ?_ | refine zJ ?_ | refine zP ?_ | refine zL ?_ | refine zNt ?_ | refine zUt ?_ | refine zUf ?_ | refine zU ?_ | refine zNc ?_ | refine zLn ?_ | refine Zjt ?_ | refine Zjs ?_ | refine zEq ?_ | refine zNe ?_ | refine Zjr ?_ | refine zCv ?_ | refine zSx ?_ | refine zC0 ?_ | refine zC1 ?_ | refine zC2 ?_ | refine zC3 ?_ | refine zC4 ?_ | refine zLd 0 ?_ | refine zLd 1 ?_ | refine zLd 2 ?_ | refine zLd 3 ?_ | refine zSt 0 ?_ | refine zSt 1 ?_ | refine zSt 2 ?_ | refine zSt 3 ?_ | refine zD ?_ | refine zgM ?_ | refine zgA ?_ | refine zgI ?_ | refine zgX ?_ | refine zgF ?_ | refine Zkr ?_ | refine Zks ?_ | refine Zkt ?_ | refine Zku ?_ | refine Zkv ?_ | refine Zkw ?_ | refine Zkx ?_ | refine Zj9 ?_ | refine Zl9 ?_ | refine Zl8 ?_ | refine zgK ?_ | refine zgJ ?_ | refine zgP ?_ | refine zgL ?_ | refine Zl7 ?_ | refine Zlc ?_ | refine Zlb ?_ | refine zgU ?_ | refine Zl5 ?_ | refine Zl4 ?_ | refine Zjd ?_ | refine Zjc ?_ | refine Zl3 ?_ | refine Zl6 ?_ | refine Zja ?_ | refine Zjb ?_ | refine Zla ?_ | refine Zky ?_ | refine Zkz ?_ | refine Zl0 ?_ | refine Zl1 ?_ | refine Zl2 ?_ | refine Zi4 0 ?_ | refine Zi4 1 ?_ | refine Zi4 2 ?_ | refine Zi4 3 ?_ | refine Zih ?_ | refine zcM ?_ | refine zcA ?_ | refine zcI ?_ | refine zcX ?_ | refine zcF ?_ | refine Zju ?_ | refine Zjv ?_ | refine Zjw ?_ | refine Zjx ?_ | refine Zjy ?_ | refine Zjz ?_ | refine Zk0 ?_ | refine Zii ?_ | refine Zkd ?_ | refine Zkc ?_ | refine zcK ?_ | refine zcJ ?_ | refine zcP ?_ | refine zcL ?_ | refine Zkb ?_ | refine Zkg ?_ | refine Zkf ?_ | refine zcU ?_ | refine Zk9 ?_ | refine Zk8 ?_ | refine Zil ?_ | refine Zik ?_ | refine Zk7 ?_ | refine Zka ?_ | refine Zij ?_ | refine Zk6 ?_ | refine Zke ?_ | refine Zk1 ?_ | refine Zk2 ?_ | refine Zk3 ?_ | refine Zk4 ?_ | refine Zk5 ?_ | refine Zkn ?_ | refine Zkh ?_ | refine Zkj ?_ | refine Zkq ?_ | refine Zki ?_ | refine Zim ?_ | refine Zin ?_ | refine Zio ?_ | refine Zip ?_ | refine Ziq ?_ | refine Zir ?_ | refine Zis ?_ | refine Zhy ?_ | refine Zj5 ?_ | refine Zj4 ?_ | refine Zkl ?_ | refine Zkk ?_ | refine Zko ?_ | refine Zkm ?_ | refine Zj3 ?_ | refine Zj8 ?_ | refine Zj7 ?_ | refine Zkp ?_ | refine Zj1 ?_ | refine Zj0 ?_ | refine Zi1 ?_ | refine Zi0 ?_ | refine Ziz ?_ | refine Zj2 ?_ | refine Zhz ?_ | refine Ziy ?_ | refine Zj6 ?_ | refine Zit ?_ | refine Ziu ?_ | refine Ziv ?_ | refine Ziw ?_ | refine Zix ?_ | refine Zi3 0 ?_ | refine Zi3 1 ?_ | refine Zi3 2 ?_ | refine Zi3 3 ?_ | refine Zf8 0 ?_ | refine Zf8 1 ?_ | refine Zf8 2 ?_ | refine Zf8 3 ?_ | refine Zjl ?_ | refine zcD ?_)
 exact h.x) : B := h ⟨x⟩
end Go.Sx
namespace Go.Sx
open Go
abbrev oA (n : Nat) : AV := .v (.int .u8 n)
@[irreducible] def ors (n : Int) (x i : Nat) : Int := bitsI .or .u64 n (IntKind.u64.wrap (((x % 128 : Nat) : Int) * 2 ^ (min (7 * i) 64)))
def tk (a : Nat) : List Nat → Nat → Int → Int × Int × Int
 | [], _, _ => (0, 0, 2)
 | x :: xs, i, n => if (i = 9 ∧ 1 < x) ∨ (x = 0 ∧ 0 < i) then (0, 0, 1) else if x < 128 then (ors n x i, (a : Int) + i + 1, 0) else tk a xs (i + 1) (ors n x i)
abbrev tkA (r : Int × Int × Int) : AV := .tup [.v (.int .u64 r.1), .v (.int .i64 r.2.1), .v (.int .i64 r.2.2)]
def takeP (b : List Nat) (a : Int) : Int × Int × Int := if a < 0 ∨ (b.length : Int) < a then (0, 0, 12) else tk a.toNat (b.drop a.toNat) 0 0
def Oct (b : List Nat) : Prop := ∀ x, x ∈ b → x ≤ 255
theorem Zbh {x : Nat} (h : x ≤ 255) : bitsI .andNot .u8 (x : Int) 128 = ((x % 128 : Nat) : Int) := by
 have h2 : ∀ y : Fin 256, bitsI .andNot .u8 ((y.val : Nat) : Int) 128 = ((y.val % 128 : Nat) : Int) := by decide +kernel
 exact h2 ⟨x, by omega⟩
theorem Zh0 {x : Nat} (h : x ≤ 255) : bitsI .and .u8 (x : Int) 128 = if x < 128 then 0 else 128 := by
 have h2 : ∀ y : Fin 256, bitsI .and .u8 ((y.val : Nat) : Int) 128 = if y.val < 128 then 0 else 128 := by decide +kernel
 exact h2 ⟨x, by omega⟩
theorem Zf7 {x : Nat} (h : x ≤ 255) : IntKind.u64.wrap (x : Int) = x := by
 simp [IntKind.wrap, IntKind.bits, IntKind.signed]
 omega
theorem Z3h {P : Program} {o : Oper} {T : List (Nat × AV)} {t t' : TypeId} {p q : Operand} {x : Nat} (ho : o.op = .binOp .andNot t p q t') (hx : x ≤ 255) (hp : ev T p = some (.v (.int .u8 (x : Int)))) (hq : ev T q = some (.v (.int .u8 128))) : Eff P o T [] (.v (.int .u8 ((x % 128 : Nat) : Int))) [] := Zbh hx ▸ Z6e ho hp hq
theorem Ze8 {P : Program} {o : Oper} {T : List (Nat × AV)} {t t' : TypeId} {p q : Operand} {x i : Nat} {y : Int} {ky : IntKind} (ho : o.op = .binOp .shl t p q t') (hp : ev T p = some (.v (.int .u64 (x : Int)))) (hq : ev T q = some (.v (.int ky y))) (hy : y = ((7 * i : Nat) : Int)) : Eff P o T [] (.v (.int .u64 (IntKind.u64.wrap ((x : Int) * 2 ^ (min (7 * i) 64))))) [] := by
 have h := Z5d (P := P) ho hp hq (by omega)
 have e : min y.toNat IntKind.u64.bits = min (7 * i) 64 := by subst hy; show min ((7 * i : Nat) : Int).toNat 64 = _; rw [Int.toNat_natCast]
 rw [e] at h
 exact h
theorem Zgd {P : Program} {o : Oper} {T : List (Nat × AV)} {t t' : TypeId} {p q : Operand} {x i : Nat} {n : Int} (ho : o.op = .binOp .or t p q t') (hp : ev T p = some (.v (.int .u64 n))) (hq : ev T q = some (.v (.int .u64 (IntKind.u64.wrap (((x % 128 : Nat) : Int) * 2 ^ (min (7 * i) 64)))))) : Eff P o T [] (.v (.int .u64 (ors n x i))) [] := by
 have h := Z1k (P := P) ho (.inr (.inl rfl)) hp hq
 unfold ors
 exact h
theorem Ze4 {P : Program} {o : Oper} {T : List (Nat × AV)} {t t' : TypeId} {p q : Operand} {x : Nat} (ho : o.op = .binOp .and t p q t') (hx : x ≤ 255) (hp : ev T p = some (.v (.int .u8 (x : Int)))) (hq : ev T q = some (.v (.int .u8 128))) : Eff P o T [] (.v (.int .u8 (if x < 128 then 0 else 128))) [] := Zh0 hx ▸ Z1k ho (.inl rfl) hp hq
theorem Z8q {b : List Nat} {a : Int} (h : a < 0 ∨ (b.length : Int) < a) : takeP b a = (0, 0, 12) := if_pos h
theorem Z7k {b : List Nat} {a : Nat} (h : a ≤ b.length) : takeP b a = tk a (b.drop a) 0 0 := by
 unfold takeP
 rw [if_neg (by omega)]
 rfl
theorem Zdi {a i : Nat} {l : List Nat} {n : Int} (h : i < l.length) : tk a (l.drop i) i n = if (i = 9 ∧ 1 < l[i]) ∨ (l[i] = 0 ∧ 0 < i) then (0, 0, 1) else if l[i] < 128 then (ors n l[i] i, (a : Int) + i + 1, 0) else tk a (l.drop (i + 1)) (i + 1) (ors n l[i] i) := by
 rw [List.drop_eq_getElem_cons h]
 rfl
theorem Zhr {a i : Nat} {l : List Nat} {n : Int} (h : ¬ i < l.length) : tk a (l.drop i) i n = (0, 0, 2) := by
 rw [List.drop_eq_nil_of_le (by omega)]
 rfl
end Go.Sx
namespace Go.Sx
open Go
section
variable {P : Program} {ro : Option Nat} {Q : Exit → St → Prop} {ops : Array Oper} {rest : List Oper} {T : List (Nat × AV)} {H : AHeap} {D : List Nat} {n d ty : Nat} {po : String} {af : Array Edge} {op : Op} {x : AV} {H0 : AHeap} {KK : St → Prop} {kk : Nat} {M : List (Nat × (Nat × AObj))}
theorem zE (he : Eff P { dst := some d, op := op, type := ty, pos := po, after := af, guard := none } T [] x []) (h : AOps P ro ops rest Q ⟨(d, x) :: T, H, D, n⟩) (hd : Nat.blt d n = true := by rfl) : AOps P ro ops ({ dst := some d, op := op, type := ty, pos := po, after := af, guard := none } :: rest) Q ⟨T, H, D, n⟩ := Z1 (w0 rfl) hd he h
theorem zGT {g gt : Nat} {v : Bool} {og : Oper} (g1 : ops[g]? = some og) (g2 : og.dst = some gt) (g3 : lk T gt = some (.v (.bool v))) (he : v = true → Eff P { dst := some d, op := op, type := ty, pos := po, after := af, guard := some (g, true) } T [] x []) (h : AOps P ro ops rest Q ⟨(d, cond v x (.v undef)) :: T, H, D, n⟩) (hd : Nat.blt d n = true := by rfl) : AOps P ro ops ({ dst := some d, op := op, type := ty, pos := po, after := af, guard := some (g, true) } :: rest) Q ⟨T, H, D, n⟩ := Z0k (wT rfl g1 g2 g3) hd he h
theorem zGF {g gt : Nat} {v : Bool} {og : Oper} (g1 : ops[g]? = some og) (g2 : og.dst = some gt) (g3 : lk T gt = some (.v (.bool v))) (he : (!v) = true → Eff P { dst := some d, op := op, type := ty, pos := po, after := af, guard := some (g, false) } T [] x []) (h : AOps P ro ops rest Q ⟨(d, cond (!v) x (.v undef)) :: T, H, D, n⟩) (hd : Nat.blt d n = true := by rfl) : AOps P ro ops ({ dst := some d, op := op, type := ty, pos := po, after := af, guard := some (g, false) } :: rest) Q ⟨T, H, D, n⟩ := Z0k (wF rfl g1 g2 g3) hd he h
theorem zcE (he : Eff P { dst := some d, op := op, type := ty, pos := po, after := af, guard := none } T [] x []) (h : Calm P ops H0 KK (kk + 1) rest M ⟨(d, x) :: T, H, D, n⟩) (hd : Nat.blt d n = true := by rfl) : Calm P ops H0 KK kk ({ dst := some d, op := op, type := ty, pos := po, after := af, guard := none } :: rest) M ⟨T, H, D, n⟩ := Z9 (w0 rfl) hd he h
theorem zCH {fo : Operand} {args : Array Operand} {ats : Array TypeId} {f id : Nat} {ob : AObj} {caps xs : List AV} (j : Nat) (hc : ACalls P f (xs ++ caps) [(id, ob)] (GivesH x [(id, ob)])) (h : AOps P ro ops rest Q ⟨(d, x) :: T, H, D, n⟩) (hfo : ev T fo = some (.fn (.func f) caps) := by rfl) (hxs : evs T args.toList = some xs := by rfl) (hH : H[j]? = some (id, ob) := by rfl) (hd : Nat.blt d n = true := by rfl) : AOps P ro ops ({ dst := some d, op := .call { callee := .value fo, args := args, argTypes := ats }, type := ty, pos := po, after := af, guard := none } :: rest) Q ⟨T, H, D, n⟩ := Z6a j (w0 rfl) hd rfl hfo hxs hH hc h
theorem zCG {fo : Operand} {args : Array Operand} {ats : Array TypeId} {f : Nat} {caps xs : List AV} (hc : ACalls P f (xs ++ caps) [] (Gives x)) (h : AOps P ro ops rest Q ⟨(d, x) :: T, H, D, n⟩) (hfo : ev T fo = some (.fn (.func f) caps) := by rfl) (hxs : evs T args.toList = some xs := by rfl) (hd : Nat.blt d n = true := by rfl) : AOps P ro ops ({ dst := some d, op := .call { callee := .value fo, args := args, argTypes := ats }, type := ty, pos := po, after := af, guard := none } :: rest) Q ⟨T, H, D, n⟩ := Z1 (w0 rfl) hd (Zq [] rfl hfo hxs hc List.nodup_nil) h
theorem zCP {fo : Operand} {args : Array Operand} {ats : Array TypeId} {g : Nat} {caps xs : List AV} {β : Type} {f : β → AV} {Hb : β → AHeap} {φ : β → Prop} (Hf Fr : AHeap) (hp : H.Perm (Hf ++ Fr)) (hc : ACalls P g (xs ++ caps) Hf (GP f Hb φ)) (h : ∀ b, φ b → AOps P ro ops rest Q ⟨(d, f b) :: T, Hb b ++ Fr, D, n⟩) (hfo : ev T fo = some (.fn (.func g) caps) := by rfl) (hxs : evs T args.toList = some xs := by rfl) (hd : Nat.blt d n = true := by rfl) : AOps P ro ops ({ dst := some d, op := .call { callee := .value fo, args := args, argTypes := ats }, type := ty, pos := po, after := af, guard := none } :: rest) Q ⟨T, H, D, n⟩ := Zk Hf Fr (w0 rfl) hd rfl hfo hxs hp hc h
theorem eIx {P : Program} {α : Type} {T : List (Nat × AV)} {o : Oper} {t e : Nat} {p q : Operand} {f : α → AV} {l : List α} {kd : IntKind} {k : Int} [h : UD P t (.slice e)] {bb : Bool} [k1 : TK P e bb 1] (j : Nat) (hj : j < l.length) (ho : o.op = .indexAddr t p q) (hp : ev T p = some (.lst (l.map fun x => [f x]))) (hq : ev T q = some (.v (.int kd k))) (hk : k = (j : Int)) : Eff P o T [] (.elt (l.map fun x => [f x]) j 0) [] := by
 subst hk
 exact Z05 ho hp hq (Z0y (fun _ => rfl)) (Int.natCast_nonneg _) (by simp only [List.length_map]; omega)
theorem eLx {P : Program} {α : Type} {T : List (Nat × AV)} {o : Oper} {t : Nat} {p : Operand} {f : α → AV} {l : List α} {j : Nat} {m : Nat} (hj : j < l.length) (ho : o.op = .load t p) (hp : ev T p = some (.elt (l.map fun x => [f x]) j 0)) [k1 : TK P t false m] : Eff P o T [] (f (l[j])) [] :=
 Z0w ho hp (by rw [List.getElem?_map, List.getElem?_eq_getElem hj]; rfl) Zp
end
end Go.Sx
namespace Go.Sx
open Go Go.Proofs
theorem Zdh {r r' : Int × Int × Int} (h : r = r') : Gives (tkA r') (.ret (mkRes [.v (.int .u64 r.1), .v (.int .i64 r.2.1), .v (.int .i64 r.2.2)])) [] := gvr (by rw [← h]; rfl)
theorem Z9w (b : List Nat) (hb : Oct b) (hs : small b.length) (a : Int) : ACalls Try.prog 92 [row1 oA b, .v (.int .i64 a)] [] (Gives (tkA (takeP b a))) := by
 refine Zo (n := 58) Try.func92 rfl (by decide +kernel) rfl rfl ?_
 simp only [small] at hs
 refine wk ?_
 refine zGF rfl rfl rfl (fun hg => (Z0 rfl rfl)) ?_
 refine zGF rfl rfl rfl (fun hg => (Z0 rfl rfl)) ?_
 refine zGF rfl rfl rfl (fun hg => (Z0p rfl (Z04 hg rfl) rfl rfl)) ?_
 refine zGF rfl rfl rfl (fun hg => (Zd rfl (Z04 hg rfl) (Z04 hg rfl) rfl)) ?_
 refine zE (Zc9 rfl rfl rfl (fun h => by rw [h]; rfl)) ?_
 refine zN ?_
 refine tqN ?_
 refine Zc rfl (fun hc => ?_) (fun hc => ?_)
 ·have h1 : a < 0 ∨ (b.length : Int) < a := by simpa using hc
  refine wk ?_
  exact Z1o rfl (Zf rfl (Zf rfl (Zf rfl Zh))) (Zdh (r := (0, 0, 12)) (Z8q h1).symm)
 have h1 : 0 ≤ a ∧ a ≤ (b.length : Int) := by simpa using hc
 obtain ⟨m, rfl⟩ : ∃ m : Nat, a = m := ⟨a.toNat, by omega⟩
 have hm : m ≤ b.length := by omega
 clear h1 hc
 refine wk ?_
 refine zE (Z4f rfl rfl rfl (Z0y (fun _ => rfl)) (by omega) (by simp only [List.length_map]; omega)) ?_
 refine wk ?_
 have hd : (b.drop m).length = b.length - m := List.length_drop
 have hod : Oct (b.drop m) := fun x hx => hb x (List.mem_of_mem_drop hx)
 have e : takeP b m = tk m ((b.drop m).drop 0) 0 0 := Z7k hm
 rw [e]
 generalize hl : b.drop m = l at hd hod
 refine Z06 (α := Nat × Int) (fun x => ⟨[(22, iA x.1), (7, .v (.int .u64 x.2)), (20, row1 oA l), (21, iA l.length), (1, iA m)], [], [], 58⟩) (fun x => x.1 ≤ l.length ∧ x.1 ≤ 9 ∧ tk m (l.drop x.1) x.1 x.2 = tk m (l.drop 0) 0 0) (fun x => l.length - x.1) (0, 0) ⟨by omega, by omega, rfl⟩ ?_ ?_
 ·refine Zb [] ⟨rfl, rfl, ?_, ?_, rfl, trivial⟩ rfl (by decide) rfl rfl
  ·show some (AV.lst ((b.map fun x => [oA x]).drop m)) = some (AV.lst (l.map fun x => [oA x]))
   rw [← hl, List.map_drop]
  ·show some (iA (((b.map fun x => [oA x]).drop m).length : Nat)) = some (iA (l.length : Nat))
   rw [List.length_drop, List.length_map, hd]
 rintro ⟨i, n⟩ ⟨hi, h9, hJ⟩
 simp only at hi h9 hJ
 rw [← hJ]
 refine wk ?_
 refine Zc rfl (fun hc => ?_) (fun hc => ?_)
 rotate_left
 ·have hlt : ¬ i < l.length := by simpa using hc
  refine wk ?_
  exact Z1o rfl (Zf rfl (Zf rfl (Zf rfl Zh))) (Zdh (r := (0, 0, 2)) (Zhr hlt).symm)
 have hlt : i < l.length := by simpa using hc
 have hx : l[i] ≤ 255 := hod _ (List.getElem_mem hlt)
 rw [Zdi hlt]
 rw [Zdi hlt] at hJ
 clear hc
 refine wk ?_
 refine zE (Z05 rfl rfl rfl (Z0y (fun _ => rfl)) (by simp only; omega) (by simp only [List.length_map]; omega)) ?_
 refine zE (Z0w rfl rfl (Z3j hlt) Zp) ?_
 generalize hxe : l[i] = x at hx hJ ⊢
 refine wk ?_
 refine zGT rfl rfl rfl (fun hg => (Z0 rfl rfl)) ?_
 refine zGT rfl rfl rfl (fun hg => (Zd rfl (Z04 hg rfl) rfl rfl)) ?_
 refine zE (Z0g rfl rfl rfl (fun h => h)) ?_
 refine wk ?_
 refine Zc rfl (fun hc => ?_) (fun hc => ?_)
 ·have h1 : i = 9 ∧ 1 < x := by have := hc; simp at this; omega
  refine wk ?_
  exact Z1o rfl (Zf rfl (Zf rfl (Zf rfl Zh))) (Zdh (r := (0, 0, 1)) (if_pos (.inl h1)).symm)
 have h1 : ¬ (i = 9 ∧ 1 < x) := by intro h; simp [h.1, h.2] at hc; omega
 clear hc
 refine wk ?_
 refine zGT rfl rfl rfl (fun hg => (Z0 rfl rfl)) ?_
 refine zGT rfl rfl rfl (fun hg => (Zd rfl (Z04 hg rfl) rfl rfl)) ?_
 refine zE (Z0g rfl rfl rfl (fun h => h)) ?_
 refine wk ?_
 refine Zc rfl (fun hc => ?_) (fun hc => ?_)
 ·have h2 : x = 0 ∧ 0 < i := by have := hc; simp at this; omega
  refine wk ?_
  exact Z1o rfl (Zf rfl (Zf rfl (Zf rfl Zh))) (Zdh (r := (0, 0, 1)) (if_pos (.inr h2)).symm)
 have h2 : ¬ (x = 0 ∧ 0 < i) := by intro h; simp [h.1, h.2] at hc
 clear hc
 have h12 : ¬ ((i = 9 ∧ 1 < x) ∨ (x = 0 ∧ 0 < i)) := fun h => h.elim h1 h2
 rw [if_neg h12]
 rw [if_neg h12] at hJ
 refine wk ?_
 refine zE (Z3h rfl hx rfl rfl) ?_
 refine zCv ?_ (hz := Zf7 (by omega))
 refine zM ?_
 refine zE (Z7 rfl rfl rfl (Z1u (by simp only; omega))) ?_
 refine zE (Ze8 (i := i) rfl rfl rfl (by simp only; omega)) ?_
 refine zE (Zgd (x := x) (i := i) (n := n) rfl rfl rfl) ?_
 refine zA ?_
 refine zN ?_
 refine tqN ?_
 refine qS ?_
 refine qR ?_
 refine zM ?_
 refine zE (Ze4 rfl hx rfl rfl) ?_
 by_cases hy : x < 128
 ·rw [if_pos hy, if_pos hy]
  refine wk ?_
  exact Z1o rfl (Zf rfl (Zf rfl (Zf rfl Zh))) (Zdh (r := (ors n x i, (m : Int) + i + 1, 0)) rfl)
 rw [if_neg hy] at hJ
 rw [if_neg hy, if_neg hy]
 refine wk ?_
 exact ⟨(i + 1, ors n x i), ⟨by simp only; omega, by simp only; omega, rfl⟩, by simp only; omega, Zb [] ⟨rfl, rfl, rfl, rfl, rfl, trivial⟩ rfl (by decide) rfl rfl⟩
end Go.Sx
namespace Go.Sx
open Go Go.Proofs
end Go.Sx
namespace Go.Sx
open Go
inductive Tr (α : Type) where
 | lf
 | nd (l : Tr α) (x : Option α) (r : Tr α)
def Tr.getF {α : Type} : Nat → Tr α → Nat → Option α
 | 0, _, _ => none
 | _ + 1, .lf, _ => none
 | f + 1, .nd l x r, k => match k with
  | 0 => x
  | k + 1 => bif Nat.beq (k % 2) 0 then getF f l (k / 2) else getF f r (k / 2)
def Tr.putF {α : Type} : Nat → Tr α → Nat → Option α → Tr α
 | 0, t, _, _ => t
 | f + 1, .lf, k, v => match k with
  | 0 => .nd .lf v .lf
  | k + 1 => bif Nat.beq (k % 2) 0 then .nd (putF f .lf (k / 2) v) none .lf else .nd .lf none (putF f .lf (k / 2) v)
 | f + 1, .nd l x r, k, v => match k with
  | 0 => .nd l v r
  | k + 1 => bif Nat.beq (k % 2) 0 then .nd (putF f l (k / 2) v) x r else .nd l x (putF f r (k / 2) v)
abbrev Tr.get {α : Type} (t : Tr α) (k : Nat) : Option α := Tr.getF 40 t k
abbrev Tr.put {α : Type} (t : Tr α) (k : Nat) (v : Option α) : Tr α := Tr.putF 40 t k v
theorem Tr.getF_lf {α : Type} (f k : Nat) : Tr.getF f (.lf : Tr α) k = none := by cases f <;> rfl
theorem Tr.half {a b : Nat} (h : a % 2 = b % 2) (k : a / 2 = b / 2) : a = b := by omega
theorem Tr.get_other {α : Type} : ∀ (f : Nat) (t : Tr α) (d k : Nat) (v : Option α), k ≠ d → Tr.getF f (Tr.putF f t d v) k = Tr.getF f t k
 | 0, t, d, k, v, _ => rfl
 | f + 1, .lf, d, k, v, h => by
  cases d with
  | zero =>
   cases k with
   | zero => exact absurd rfl h
   | succ k => simp [Tr.putF, Tr.getF, Tr.getF_lf]
  | succ d =>
   simp only [Tr.putF]
   cases hd : Nat.beq (d % 2) 0 with
   | true =>
    cases k with
    | zero => simp [Tr.getF]
    | succ k =>
     simp only [cond_true, Tr.getF]
     cases hk : Nat.beq (k % 2) 0 with
     | true =>
      have h1 := Nat.eq_of_beq_eq_true hd
      have h2 := Nat.eq_of_beq_eq_true hk
      simp only [cond_true]
      rw [Tr.get_other f .lf (d / 2) (k / 2) v (fun e => h (by rw [Tr.half (h2.trans h1.symm) e])), Tr.getF_lf]
     | false => simp only [cond_false, Tr.getF_lf]
   | false =>
    cases k with
    | zero => simp [Tr.getF]
    | succ k =>
     simp only [cond_false, Tr.getF]
     cases hk : Nat.beq (k % 2) 0 with
     | true => simp only [cond_true, Tr.getF_lf]
     | false =>
      have h1 : d % 2 ≠ 0 := fun e => by rw [e] at hd; cases hd
      have h2 : k % 2 ≠ 0 := fun e => by rw [e] at hk; cases hk
      simp only [cond_false]
      rw [Tr.get_other f .lf (d / 2) (k / 2) v (fun e => h (by rw [Tr.half (a := k) (b := d) (by omega) e])), Tr.getF_lf]
 | f + 1, .nd l x r, d, k, v, h => by
  cases d with
  | zero =>
   cases k with
   | zero => exact absurd rfl h
   | succ k => simp [Tr.putF, Tr.getF]
  | succ d =>
   simp only [Tr.putF]
   cases hd : Nat.beq (d % 2) 0 with
   | true =>
    cases k with
    | zero => simp [Tr.getF]
    | succ k =>
     simp only [cond_true, Tr.getF]
     cases hk : Nat.beq (k % 2) 0 with
     | true =>
      have h1 := Nat.eq_of_beq_eq_true hd
      have h2 := Nat.eq_of_beq_eq_true hk
      simp only [cond_true]
      exact Tr.get_other f l (d / 2) (k / 2) v (fun e => h (by rw [Tr.half (h2.trans h1.symm) e]))
     | false => simp only [cond_false]
   | false =>
    cases k with
    | zero => simp [Tr.getF]
    | succ k =>
     simp only [cond_false, Tr.getF]
     cases hk : Nat.beq (k % 2) 0 with
     | true => simp only [cond_true]
     | false =>
      have h1 : d % 2 ≠ 0 := fun e => by rw [e] at hd; cases hd
      have h2 : k % 2 ≠ 0 := fun e => by rw [e] at hk; cases hk
      simp only [cond_false]
      exact Tr.get_other f r (d / 2) (k / 2) v (fun e => h (by rw [Tr.half (a := k) (b := d) (by omega) e]))
theorem Tr.get_same {α : Type} : ∀ (f : Nat) (t : Tr α) (d : Nat) (v : Option α) (y : α), Tr.getF f (Tr.putF f t d v) d = some y → v = some y
 | 0, t, d, v, y, h => by simp [Tr.getF] at h
 | f + 1, .lf, d, v, y, h => by
  cases d with
  | zero => simpa [Tr.putF, Tr.getF] using h
  | succ d =>
   simp only [Tr.putF] at h
   cases hd : Nat.beq (d % 2) 0 with
   | true => simp only [hd, cond_true, Tr.getF] at h; exact Tr.get_same f .lf (d / 2) v y h
   | false => simp only [hd, cond_false, Tr.getF] at h; exact Tr.get_same f .lf (d / 2) v y h
 | f + 1, .nd l x r, d, v, y, h => by
  cases d with
  | zero => simpa [Tr.putF, Tr.getF] using h
  | succ d =>
   simp only [Tr.putF] at h
   cases hd : Nat.beq (d % 2) 0 with
   | true => simp only [hd, cond_true, Tr.getF] at h; exact Tr.get_same f l (d / 2) v y h
   | false => simp only [hd, cond_false, Tr.getF] at h; exact Tr.get_same f r (d / 2) v y h
theorem Tr.put_get {α : Type} {t : Tr α} {d k : Nat} {v : Option α} {y : α} (h : (t.put d v).get k = some y) : (k = d ∧ v = some y) ∨ (k ≠ d ∧ t.get k = some y) := by
 by_cases e : k = d
 ·subst e; exact .inl ⟨rfl, Tr.get_same 40 t k v y h⟩
 ·exact .inr ⟨e, by rw [← h]; exact (Tr.get_other 40 t d k v e).symm⟩
theorem Tr.get_lt {α : Type} : ∀ (f : Nat) (t : Tr α) (k : Nat) (y : α), Tr.getF f t k = some y → k + 1 < 2 ^ f
 | 0, t, k, y, h => by simp [Tr.getF] at h
 | f + 1, .lf, k, y, h => by simp [Tr.getF] at h
 | f + 1, .nd l x r, k, y, h => by
  cases k with
  | zero => rw [Nat.pow_succ]; have : 1 ≤ 2 ^ f := Nat.one_le_two_pow; omega
  | succ k =>
   simp only [Tr.getF] at h
   rw [Nat.pow_succ]
   cases hd : Nat.beq (k % 2) 0 with
   | true => simp only [hd, cond_true] at h; have := Tr.get_lt f l (k / 2) y h; omega
   | false => simp only [hd, cond_false] at h; have := Tr.get_lt f r (k / 2) y h; omega
def lsOf {α : Type} (f : Nat → Option α) (l : List Nat) : List (Nat × α) := l.filterMap fun t => (f t).map fun x => (t, x)
theorem Zco (f : Nat → Option AV) (k : Nat) : ∀ l : List Nat, lk (lsOf f l) k = if k ∈ l then f k else none
 | [] => by simp [lsOf, lk]
 | a :: l => by
  have ih := Zco f k l
  unfold lsOf at ih ⊢
  cases hf : f a with
  | none =>
   rw [List.filterMap_cons_none (by rw [hf]; rfl), ih]
   by_cases e : k = a
   ·subst e; simp [hf]
   ·simp [e]
  | some x =>
   rw [List.filterMap_cons_some (by rw [hf]; rfl)]
   simp only [lk]
   by_cases e : k = a
   ·subst e; simp [hf]
   ·have hb : Nat.beq a k = false := by
     cases hb : Nat.beq a k with
     | true => exact absurd (Nat.eq_of_beq_eq_true hb).symm e
     | false => rfl
    rw [hb, cond_false, ih]
    simp [e]
theorem Tr.ex_ls (t : Tr AV) : ∃ T : List (Nat × AV), ∀ k, lk T k = t.get k := by
 refine ⟨lsOf t.get (List.range (2 ^ 40)), fun k => ?_⟩
 rw [Zco]
 split
 ·rfl
 ·rename_i h
  cases hg : t.get k with
  | none => rfl
  | some x =>
   have := Tr.get_lt 40 t k x hg
   exact absurd (List.mem_range.2 (by omega)) h
noncomputable def Tr.ls (t : Tr AV) : List (Nat × AV) := Classical.choose t.ex_ls
theorem Tr.lk_ls (t : Tr AV) (k : Nat) : lk t.ls k = t.get k := Classical.choose_spec t.ex_ls k
end Go.Sx
namespace Go.Sx
open Go
structure LtT {α : Type} (lt : α → α → Bool) : Prop where
 ok : LtOK lt
 tot : ∀ x y, lt x y = false → lt y x = false → x = y
section
variable {α : Type} [Inhabited α] [DecidableEq α] {lt : α → α → Bool}
def hasG (l : List α) (x : α) : Bool := l.any fun y => decide (y = x)
def ddO (o : List α) (s : α) : List α := if hasG o s then o else o ++ [s]
def ddG (l : List α) : List α := l.foldl ddO []
def insG (lt : α → α → Bool) : Nat → List α → List α
 | 0, l => l
 | k + 1, l => if lt (l.getD (k + 1) default) (l.getD k default) then insG lt k (swp l (k + 1) k) else l
def outG (lt : α → α → Bool) : Nat → Nat → List α → List α
 | 0, _, l => l
 | f + 1, i, l => outG lt f (i + 1) (insG lt i l)
def risG (lt : α → α → Bool) (l : List α) : List α := outG lt ((ddG l).length - 1) 1 (ddG l)
variable (hO : LtT lt)
include hO
omit hO
def riseG (lt : α → α → Bool) (l : List α) : Bool := (List.range l.length).all fun i => Nat.beq i 0 || lt (l.getD (i - 1) default) (l.getD i default)
include hO
end
end Go.Sx
namespace Go.Sx
open Go
theorem Anc.trans {p : Prog} {a b c : Str} (h : Anc p a b) (k : Anc p b c) : Anc p a c := by
 induction k with
 | base _ => exact h
 | step _ hc hu hd ih => exact .step ih hc hu hd
theorem Anc.known {p : Prog} {a b : Str} (h : Anc p a b) : hasC p b = true := by
 cases h with
 | base hc => simp [hasC, hc]
 | step _ _ _ hd => simp [hasC, hd]
theorem subP_iff {p : Prog} {a b : Str} : subP p a b = true ↔ Anc p a b := by unfold subP; simp
theorem Zdg {p : Prog} {a b : Str} (h : subP p a b = false) : ¬ Anc p a b := fun k => by rw [subP_iff.2 k] at h; cases h
theorem beqS_no {a b : Str} : beqS a b = false ↔ a ≠ b := by
 cases h : beqS a b with
 | true => have := beqS_iff.1 h; simp [this]
 | false => simp; intro e; subst e; rw [Z28] at h; cases h
structure UpOK (p : Prog) (c : Cls) : Prop where
 sup : c.super ≠ zS → hasC p c.super = true ∧ ifaceP p c.super = false ∧ ¬ Anc p c.super c.name
 ifs : ∀ s, s ∈ c.ifaces → hasC p s = true ∧ ifaceP p s = true ∧ ¬ Anc p s c.name
theorem SoundP.ok {p : Prog} (h : SoundP p) {c : Cls} (hc : c ∈ p.classes) : UpOK p c := by
 have h1 := h.one c hc
 have h2 := h.two c hc
 unfold chk1 at h1
 unfold chk2 at h2
 have h3 : (!beqS c.super zS && !hasC p c.super) = false ∧ (c.ifaces.any fun s => !hasC p s) = false ∧ (!beqS c.super zS && ifaceP p c.super) = false ∧ (c.ifaces.any fun s => !ifaceP p s) = false := by
  revert h1
  generalize (!beqS c.super zS && !hasC p c.super) = a
  generalize (c.ifaces.any fun s => !hasC p s) = b
  generalize (!beqS c.super zS && ifaceP p c.super) = d
  generalize (c.ifaces.any fun s => !ifaceP p s) = e
  cases a <;> cases b <;> cases d <;> cases e <;> simp
 obtain ⟨a1, a2, a3, a4⟩ := h3
 rw [Bool.or_eq_false_iff] at h2
 obtain ⟨a5, a6⟩ := h2
 rw [List.any_eq_false] at a2 a4 a6
 refine ⟨fun hn => ?_, fun s hs => ⟨by simpa using a2 s hs, by simpa using a4 s hs, Zdg (by simpa using a6 s hs)⟩⟩
 rw [beqS_no.2 hn] at a1 a3 a5
 exact ⟨by simpa using a1, by simpa using a3, Zdg (by simpa using a5)⟩
theorem Zfu {p : Prog} (hs : SoundP p) {s : Str} {c : Cls} (hc : clsFind p s = some c) (hn : c.super ≠ zS) : Anc p s c.super := by
 obtain ⟨d, hd⟩ := Z44 ((hs.ok (Z0q hc).2).sup hn).1
 exact .step (.base hc) hc (by unfold upC; rw [beqS_no.2 hn]; exact List.mem_cons_self) hd
theorem Zje {p : Prog} (hs : SoundP p) {s : Str} {c : Cls} (hc : clsFind p s = some c) (hn : c.super ≠ zS) : ¬ Anc p c.super s := by
 have := ((hs.ok (Z0q hc).2).sup hn).2.2
 rwa [(Z0q hc).1] at this
theorem Z7u {α : Type} {q r : α → Bool} : ∀ {l : List α} {a : α}, (∀ z, q z = true → r z = true) → a ∈ l → r a = true → q a = false → l.countP q < l.countP r
 | [], _, _, h, _, _ => nomatch h
 | x :: l, a, hm, h, hr, hq => by
  rw [List.countP_cons, List.countP_cons]
  rcases List.mem_cons.1 h with rfl | h
  ·have := List.countP_mono_left (l := l) (p := q) (q := r) (fun z _ => hm z)
   rw [hr, hq]; simp; omega
  ·have ih := Z7u hm h hr hq
   have : (if q x = true then 1 else 0) ≤ (if r x = true then 1 else 0 : Nat) := by
    cases hqx : q x with
    | false => simp
    | true => rw [hm x hqx]; simp
   omega
noncomputable def mu (p : Prog) (s : Str) : Nat := (p.classes.map Cls.name).countP (subP p s)
theorem Zgk {p : Prog} (hs : SoundP p) {s : Str} {c : Cls} (hc : clsFind p s = some c) (hn : c.super ≠ zS) : mu p c.super < mu p s := by
 refine Z7u (a := s) (fun z hz => subP_iff.2 ((Zfu hs hc hn).trans (subP_iff.1 hz))) (Z79 (by simp [hasC, hc])) (subP_iff.2 (.base hc)) ?_
 cases h : subP p c.super s with
 | false => rfl
 | true => exact absurd (subP_iff.1 h) (Zje hs hc hn)
theorem Zct {p : Prog} {s : Str} (h : mu p s = 0) : clsFind p s = none := by
 cases hc : clsFind p s with
 | none => rfl
 | some c =>
  have hm : s ∈ p.classes.map Cls.name := Z79 (by simp [hasC, hc])
  have := List.countP_pos_iff.2 ⟨s, hm, subP_iff.2 (.base hc)⟩
  unfold mu at h; omega
theorem Zid (p : Prog) (s : Str) : mu p s ≤ p.classes.length := by
 have := List.countP_le_length (p := subP p s) (l := p.classes.map Cls.name)
 simpa [mu] using this
def chain (p : Prog) : Nat → Str → List Str
 | 0, _ => []
 | n + 1, s => match clsFind p s with
  | none => []
  | some c => s :: (if beqS c.super zS then [] else chain p n c.super)
theorem Z57 {p : Prog} (hs : SoundP p) : ∀ {n : Nat} {s z : Str}, z ∈ chain p n s → Anc p s z
 | 0, _, _, h => nomatch h
 | n + 1, s, z, h => by
  unfold chain at h
  cases hc : clsFind p s with
  | none => rw [hc] at h; cases h
  | some c =>
   rw [hc] at h
   rcases List.mem_cons.1 h with rfl | h
   ·exact .base hc
   ·cases hb : beqS c.super zS with
    | true => rw [hb] at h; cases h
    | false => rw [hb] at h; exact (Zfu hs hc (beqS_no.1 hb)).trans (Z57 hs h)
theorem Z38 {p : Prog} (hs : SoundP p) : ∀ (n : Nat) (s : Str) (out : List Str), (∀ z, z ∈ out → z ∉ chain p n s) → supF p n s out = out ++ chain p n s
 | 0, _, out, _ => by simp [supF, chain]
 | n + 1, s, out, h => by
  unfold supF chain
  unfold chain at h
  cases hc : clsFind p s with
  | none => simp
  | some c =>
   rw [hc] at h
   simp only at h ⊢
   rw [(Z0q hc).1]
   have hin : inL out s = false := inL_false.2 fun hx => h s hx List.mem_cons_self
   rw [hin]
   cases hb : beqS c.super zS with
   | true => simp
   | false =>
    rw [hb] at h
    simp only [Bool.false_eq_true, if_false] at h ⊢
    rw [Z38 hs n c.super (out ++ [s])]
    ·simp
    ·intro z hz hk
     rcases List.mem_append.1 hz with hz | hz
     ·exact h z hz (List.mem_cons_of_mem _ hk)
     ·rw [List.mem_singleton] at hz; subst hz
      exact Zje hs hc (beqS_no.1 hb) (Z57 hs hk)
theorem Z4l {p : Prog} (hs : SoundP p) : ∀ (n m : Nat) (s : Str), mu p s ≤ n → mu p s ≤ m → chain p n s = chain p m s
 | 0, 0, _, _, _ => rfl
 | 0, m + 1, s, h, _ => by unfold chain; rw [Zct (by omega)]
 | n + 1, 0, s, _, h => by unfold chain; rw [Zct (by omega)]
 | n + 1, m + 1, s, h1, h2 => by
  unfold chain
  cases hc : clsFind p s with
  | none => rfl
  | some c =>
   simp only
   cases hb : beqS c.super zS with
   | true => rfl
   | false =>
    have := Zgk hs hc (beqS_no.1 hb)
    simp only [Bool.false_eq_true, if_false]
    rw [Z4l hs n m c.super (by omega) (by omega)]
theorem Z60 {p : Prog} {s : Str} (h : clsFind p s = none) : supers p s = [] := by unfold supers supF; rw [h]
theorem Z5y {p : Prog} (hs : SoundP p) {s : Str} {c : Cls} (hc : clsFind p s = some c) : supers p s = s :: (if beqS c.super zS then [] else supers p c.super) := by
 unfold supers
 rw [Z38 hs _ _ _ (fun _ h => absurd h List.not_mem_nil), Z38 hs _ _ _ (fun _ h => absurd h List.not_mem_nil), List.nil_append, List.nil_append]
 conv => lhs; unfold chain
 rw [hc]
 simp only
 cases hb : beqS c.super zS with
 | true => rfl
 | false =>
  have h1 := Zgk hs hc (beqS_no.1 hb)
  have h2 := Zid p s
  simp only [Bool.false_eq_true, if_false]
  rw [Z4l hs p.classes.length (p.classes.length + 1) c.super (by omega) (by omega)]
theorem Z39 {p : Prog} (hs : SoundP p) : ∀ (n : Nat) (x y : Str), mu p x ≤ n → y ∈ supers p x → ∃ pre, supers p x = pre ++ supers p y
 | 0, x, y, h, hy => by rw [Z60 (Zct (by omega))] at hy; cases hy
 | n + 1, x, y, h, hy => by
  cases hc : clsFind p x with
  | none => rw [Z60 hc] at hy; cases hy
  | some c =>
   have e := Z5y hs hc
   rw [e] at hy
   rcases List.mem_cons.1 hy with rfl | hy
   ·exact ⟨[], rfl⟩
   ·cases hb : beqS c.super zS with
    | true => rw [hb] at hy; cases hy
    | false =>
     rw [hb] at hy e
     simp only [Bool.false_eq_true, if_false] at hy e
     have := Zgk hs hc (beqS_no.1 hb)
     obtain ⟨pre, h2⟩ := Z39 hs n c.super y (by omega) hy
     exact ⟨x :: pre, by rw [e, h2]; rfl⟩
theorem Z8p {p : Prog} (hs : SoundP p) {x y z : Str} (h : y ∈ supers p x) (k : z ∈ supers p y) : z ∈ supers p x := by
 obtain ⟨pre, e⟩ := Z39 hs _ x y (Nat.le_refl _) h
 rw [e]; exact List.mem_append_right _ k
theorem Z6q {p : Prog} (hs : SoundP p) {x y : Str} (h : y ∈ supers p x) : Anc p x y := by
 unfold supers at h
 rw [Z38 hs _ _ _ (fun _ h => absurd h List.not_mem_nil), List.nil_append] at h
 exact Z57 hs h
theorem Z5z {p : Prog} (hs : SoundP p) {x : Str} (h : hasC p x = true) : ∃ r, supers p x = x :: r := by
 obtain ⟨c, hc⟩ := Z44 h
 exact ⟨_, Z5y hs hc⟩
theorem Z9m {p : Prog} (hs : SoundP p) {x y : Str} (h : y ∈ supers p x) (k : x ∈ supers p y) : x = y := by
 obtain ⟨a, e1⟩ := Z39 hs _ x y (Nat.le_refl _) h
 obtain ⟨b, e2⟩ := Z39 hs _ y x (Nat.le_refl _) k
 have h1 := congrArg List.length e1
 have h2 := congrArg List.length e2
 simp only [List.length_append] at h1 h2
 have ha : a = [] := List.eq_nil_of_length_eq_zero (by omega)
 rw [ha, List.nil_append] at e1
 obtain ⟨r, hx⟩ := Z5z hs (Z6q hs k).known
 obtain ⟨r', hy⟩ := Z5z hs (Z6q hs h).known
 rw [hx, hy] at e1
 exact (List.cons.inj e1).1
def upS (p : Prog) (x z : Str) : Prop := z = x ∨ (ifaceP p x = false ∧ z ∈ supers p x)
theorem Zdj {p : Prog} (hs : SoundP p) {x y z : Str} (h : upS p x y) (k : upS p y z) : upS p x z := by
 rcases h with rfl | ⟨h1, h2⟩
 ·exact k
 ·rcases k with rfl | ⟨k1, k2⟩
  ·exact .inr ⟨h1, h2⟩
  ·exact .inr ⟨h1, Z8p hs h2 k2⟩
theorem Zf5 {p : Prog} (hs : SoundP p) {x y : Str} (h : upS p x y) (k : upS p y x) : x = y := by
 rcases h with rfl | ⟨_, h⟩
 ·rfl
 ·rcases k with rfl | ⟨_, k⟩
  ·rfl
  ·exact Z9m hs h k
theorem Zcl {a b : Fact} (h1 : a.kind = b.kind) (h2 : a.cls = b.cls) : a = b := by cases a; cases b; cases h1; cases h2; rfl
def NearOK (f : Fact) : Prop := 0 ≤ f.kind ∧ f.kind ≤ 6 ∧ (f.kind = 3 ∨ f.kind = 5 ∨ f.cls = zS)
def rK (f : Fact) : Prop := 2 ≤ f.kind ∧ f.kind ≤ 6
def LeF (p : Prog) (a b : Fact) : Prop := a = b ∨ b = ⟨0, zS⟩ ∨ (rK a ∧ rK b ∧ (a.kind = 2 ∨ b.kind = 6 ∨ (a.kind = 3 ∧ b.kind = 3 ∧ upS p a.cls b.cls)))
theorem LeF.refl (p : Prog) (a : Fact) : LeF p a a := .inl rfl
theorem rK0 : ¬ rK ⟨0, zS⟩ := fun h => by have := h.1; simp at this
theorem LeF.trans {p : Prog} (hs : SoundP p) {a b c : Fact} (h : LeF p a b) (k : LeF p b c) : LeF p a c := by
 rcases h with rfl | rfl | ⟨h1, h2, h3⟩
 ·exact k
 ·rcases k with rfl | rfl | ⟨k1, k2, k3⟩
  ·exact .inr (.inl rfl)
  ·exact .inr (.inl rfl)
  ·exact absurd k1 rK0
 ·rcases k with rfl | rfl | ⟨k1, k2, k3⟩
  ·exact .inr (.inr ⟨h1, h2, h3⟩)
  ·exact .inr (.inl rfl)
  ·refine .inr (.inr ⟨h1, k2, ?_⟩)
   rcases h3 with h3 | h3 | ⟨h3, h4, h5⟩
   ·exact .inl h3
   ·rcases k3 with k3 | k3 | ⟨k3, _⟩
    ·omega
    ·exact .inr (.inl k3)
    ·omega
   ·rcases k3 with k3 | k3 | ⟨k3, k4, k5⟩
    ·omega
    ·exact .inr (.inl k3)
    ·exact .inr (.inr ⟨h3, k4, Zdj hs h5 k5⟩)
theorem LeF.anti {p : Prog} (hs : SoundP p) {a b : Fact} (ha : NearOK a) (hb : NearOK b) (h : LeF p a b) (k : LeF p b a) : a = b := by
 rcases h with rfl | rfl | ⟨h1, h2, h3⟩
 ·rfl
 ·rcases k with k | k | ⟨k1, _⟩
  ·exact k.symm
  ·exact k
  ·exact absurd k1 rK0
 ·rcases k with k | rfl | ⟨k1, k2, k3⟩
  ·exact k.symm
  ·exact absurd h1 rK0
  ·obtain ⟨_, _, ha⟩ := ha
   obtain ⟨_, _, hb⟩ := hb
   have zz : a.kind = b.kind → a.kind ≠ 3 → a.kind ≠ 5 → a = b := fun e n3 n5 => by
    refine Zcl e ?_
    rcases ha with ha | ha | ha
    ·exact absurd ha n3
    ·exact absurd ha n5
    ·rcases hb with hb | hb | hb
     ·exact absurd (e.trans hb) n3
     ·exact absurd (e.trans hb) n5
     ·rw [ha, hb]
   rcases h3 with h3 | h3 | ⟨h3, h4, h5⟩
   ·rcases k3 with k3 | k3 | ⟨k3, k4, k5⟩
    ·exact zz (by omega) (by omega) (by omega)
    ·omega
    ·omega
   ·rcases k3 with k3 | k3 | ⟨k3, k4, k5⟩
    ·omega
    ·exact zz (by omega) (by omega) (by omega)
    ·omega
   ·rcases k3 with k3 | k3 | ⟨k3, k4, k5⟩
    ·omega
    ·omega
    ·exact Zcl (by omega) (Zf5 hs h5 k5)
structure Lub (p : Prog) (a b j : Fact) : Prop where
 ok : NearOK j
 l : LeF p a j
 r : LeF p b j
 u : ∀ c, NearOK c → LeF p a c → LeF p b c → LeF p j c
section
variable {p : Prog} (hs : SoundP p) {a b c : Fact} (ha : NearOK a) (hb : NearOK b) (hc : NearOK c)
include hs ha hb
include hc
end
section
variable {p : Prog} (hs : SoundP p) {a b c : Fact} (ha : NearOK a) (hb : NearOK b) (hc : NearOK c)
include hs ha hb
include hc
end
end Go.Sx
namespace Go.Sx
open Go
theorem dec_u8n {P : Program} {t : TypeId} (hu : P.underlying t = some (.int .u8)) : Dec P t (fun n : Nat => [uA n]) (fun n => n ≤ 255) := fun xs h => by
 obtain ⟨n, e, h1, h2⟩ := Zhd hu xs h
 obtain ⟨k, rfl⟩ := Int.eq_ofNat_of_zero_le h1
 exact ⟨k, e, by omega⟩
def rotF (l : List Str) (k i : Nat) : List Str := (List.range i).map fun j => l.getD ((j + k) % l.length) default
end Go.Sx
namespace Go.Sx
open Go
def SeqGR {α : Type} (Fin : List α → Prop) (J Jx : List α → AHeap → Prop) : AEnd → AHeap → Prop :=
 fun e H' => (∃ v, e = .ret v) ∧ ((∃ l H'', Fin l ∧ H'.Perm H'' ∧ J l H'') ∨ (∃ pre H'', H'.Perm H'' ∧ Jx pre H''))
structure SeqG {α : Type} (P : Program) (gf : Nat) (caps : List AV) (Hit : AHeap) (enc : α → List AV) (Adm Fin : List α → Prop) : Prop where
 ok : Callable P gf
 run : ∀ (id : Nat) (J Jx : List α → AHeap → Prop),
  (∀ pre x H, Adm (pre ++ [x]) → J pre H → YCalls P id (enc x) H (fun e H' => (e = .ret (.v (.bool true)) ∧ J (pre ++ [x]) H') ∨ (e = .ret (.v (.bool false)) ∧ Jx (pre ++ [x]) H'))) →
  ∀ H, J [] H → ACalls P gf (.yld id :: caps) (Hit ++ H) (SeqGR Fin J Jx)
end Go.Sx
namespace Go.Sx
open Go
open Go.ChangeMaps (setBlock)
def AWpO (Z : List Nat) (C0 : Ctx) (H0 : AHeap) (w0 : World) (P : Program) (ro : Option Nat) (c : Code) (Q : Exit → St → Prop) (s : St) : Prop :=
 ∀ C a w, Ext Z C0 H0 w0 C s.H w → SR C s a w → c.wpIn (Wd ro) 0 P (Post Z C0 H0 w0 Q) a w
def AOpsO (Z : List Nat) (C0 : Ctx) (H0 : AHeap) (w0 : World) (P : Program) (ro : Option Nat) (ops : Array Oper) (l : List Oper) (Q : Exit → St → Prop) (s : St) : Prop :=
 ∀ k, ops.toList.drop k = l → ∀ C a w, Ext Z C0 H0 w0 C s.H w → SR C s a w → wpOpsIn (Wd ro) 0 P ops (Post Z C0 H0 w0 Q) (List.range' k l.length) a w
section
variable {Z : List Nat} {C0 : Ctx} {H0 : AHeap} {w0 : World} {P : Program} {ro : Option Nat} {Q : Exit → St → Prop} {s : St}
def StepO (Z : List Nat) (C0 : Ctx) (H0 : AHeap) (w0 : World) (P : Program) (ro : Option Nat) (o : Oper) (K : St → Prop) (KP : List PanicEntry → St → Prop) (s : St) : Prop :=
 ∀ C a w, Ext Z C0 H0 w0 C s.H w → SR C s a w →
  o.uponIn (Wd ro) 0 P a (Sat Z C0 H0 w0 K) (fun e a' w' => match e with | .panic ch => Sat Z C0 H0 w0 (KP ch) a' w' | _ => False) ((o.semAt ro a.eval).run P w)
end
def keyS (e : MapEntry) : Str := match e.key with | .string s => s | _ => default
def bornsA (x : List MapEntry) : Array Nat := (x.map (·.born)).toArray
theorem bornsA_has {x : List MapEntry} {b : Nat} : (bornsA x).contains b = true ↔ b ∈ x.map (·.born) := by simp [bornsA]
structure SetE (out : List Str) (ents : Array MapEntry) (clock : Nat) : Prop where
 key : ents.toList.map (·.key) = out.map Value.string
 born : ∀ e ∈ ents.toList, e.born < clock
 nd : (ents.toList.map (·.born)).Nodup
theorem SetE.keyS {out : List Str} {ents : Array MapEntry} {clock : Nat} (h : SetE out ents clock) {e : MapEntry} (he : e ∈ ents.toList) : e.key = .string (Sx.keyS e) ∧ Sx.keyS e ∈ out := by
 have h1 : e.key ∈ out.map Value.string := h.key ▸ List.mem_map.2 ⟨e, he, rfl⟩
 obtain ⟨s, hs, hk⟩ := List.mem_map.1 h1
 unfold Sx.keyS
 rw [← hk]
 exact ⟨rfl, hs⟩
theorem SetE.all {out : List Str} {ents : Array MapEntry} {clock : Nat} (h : SetE out ents clock) {s : Str} (hs : s ∈ out) : ∃ e ∈ ents.toList, Sx.keyS e = s := by
 have h1 : Value.string s ∈ ents.toList.map (·.key) := h.key ▸ List.mem_map.2 ⟨s, hs, rfl⟩
 obtain ⟨e, he, hk⟩ := List.mem_map.1 h1
 refine ⟨e, he, ?_⟩
 unfold Sx.keyS
 rw [hk]
theorem SetE.keys {out : List Str} {ents : Array MapEntry} {clock : Nat} (h : SetE out ents clock) : ents.toList.map Sx.keyS = out := by
 have h1 : ents.toList.map Sx.keyS = (ents.toList.map (·.key)).map (fun v => match v with | .string s => s | _ => default) := by rw [List.map_map]; rfl
 rw [h1, h.key, List.map_map]
 exact (List.map_congr_left fun s _ => rfl).trans (List.map_id _)
structure Got (out : List Str) (ents : Array MapEntry) (x : List MapEntry) : Prop where
 sub : ∀ e ∈ x, e ∈ ents.toList
 nd : (x.map (·.born)).Nodup
theorem Got.start (out : List Str) (ents : Array MapEntry) : Got out ents [] := ⟨nofun, List.nodup_nil⟩
theorem Got.step {out : List Str} {ents : Array MapEntry} {x : List MapEntry} {e : MapEntry} (h : Got out ents x) (he : e ∈ (leftOf ents (bornsA x)).toList) : Got out ents (x ++ [e]) := by
 obtain ⟨h1, h2⟩ := mem_left he
 refine ⟨fun z hz => ?_, ?_⟩
 ·rcases List.mem_append.1 hz with hz | hz
  ·exact h.sub z hz
  ·rw [List.mem_singleton.1 hz]; exact h1
 ·rw [List.map_append, List.nodup_append]
  refine ⟨h.nd, by simp, ?_⟩
  rintro a ha b hb rfl
  rw [List.map_singleton, List.mem_singleton] at hb
  subst hb
  rw [bornsA_has.2 ha] at h2; cases h2
theorem Got.keys {out : List Str} {ents : Array MapEntry} {clock : Nat} (hs : SetE out ents clock) (ho : out.Nodup) {x : List MapEntry} (h : Got out ents x) : (x.map keyS).Nodup ∧ ∀ s, s ∈ x.map keyS → s ∈ out := by
 refine ⟨?_, fun s hsx => ?_⟩
 ·have hk : ∀ a b : MapEntry, a ∈ ents.toList → b ∈ ents.toList → keyS a = keyS b → a.born = b.born := by
   intro a b ha hb hab
   obtain ⟨i, hi, rfl⟩ := List.mem_iff_getElem.1 ha
   obtain ⟨j, hj, rfl⟩ := List.mem_iff_getElem.1 hb
   have e1 := hs.keys
   have hnd : (ents.toList.map keyS).Nodup := by rw [e1]; exact ho
   have hi' : i < (ents.toList.map keyS).length := by simpa using hi
   have hj' : j < (ents.toList.map keyS).length := by simpa using hj
   have : i = j := (List.getElem_inj (h₀ := hi') (h₁ := hj') hnd).1 (by simpa using hab)
   subst this; rfl
  have hx := h.nd
  unfold List.Nodup at hx ⊢
  rw [List.pairwise_map] at hx ⊢
  refine List.Pairwise.imp_of_mem ?_ hx
  intro a b ha hb hne hab
  exact hne (hk a b (h.sub a ha) (h.sub b hb) hab)
 ·obtain ⟨e, he, rfl⟩ := List.mem_map.1 hsx
  exact (hs.keyS (h.sub e he)).2
theorem Got.fin {out : List Str} {ents : Array MapEntry} {clock : Nat} (hs : SetE out ents clock) (ho : out.Nodup) {x : List MapEntry} (h : Got out ents x) (hz : (leftOf ents (bornsA x)).size = 0) : (x.map keyS).Perm out := by
 obtain ⟨h1, h2⟩ := h.keys hs ho
 refine (List.perm_ext_iff_of_nodup h1 ho).2 fun s => ⟨h2 s, fun hso => ?_⟩
 obtain ⟨e, he, rfl⟩ := hs.all hso
 have h3 := bornsA_has.1 (all_seen _ _ hz e he)
 obtain ⟨e', he', hb⟩ := List.mem_map.1 h3
 rw [← born_inj hs.nd (h.sub e' he') he hb]
 exact List.mem_map.2 ⟨e', he', rfl⟩
def AdmS (out : List Str) (l : List Str) : Prop := l.Nodup ∧ ∀ s, s ∈ l → s ∈ out
def FinS (out : List Str) (l : List Str) : Prop := l.Perm out
theorem AdmS.len {out l : List Str} (h : AdmS out l) : l.length ≤ out.length := Z1n h.1 h.2
def MapN (p : Prog) (nm : Str) : AEnd → AHeap → Prop := fun e H => ∃ q out, e = .ret (.map q) ∧ H = [(q, .mp (setM out))] ∧ out.Nodup ∧ out.length ≤ p.classes.length ∧ ∀ s, s ∈ out ↔ Anc p nm s
end Go.Sx
namespace Go.Sx
open Go
noncomputable def ancL (p : Prog) (nm : Str) : List Str := risF ((p.classes.map Cls.name).filter (subP p nm))
noncomputable def subsL (p : Prog) (nm : Str) : List Str := risF ((p.classes.map Cls.name).filter fun s => subP p s nm)
noncomputable def subN (p : Prog) (nm : Str) (n : Nat) : List Str := ((p.classes.take n).map Cls.name).filter fun s => subP p s nm
def cptS (l : List Str) (n : Nat) : Bool := !beqS (l.getD n default) (l.getD (n - 1) default)
def cptN (l : List Str) (n : Nat) : List Str := ((List.range n).filter fun k => Nat.beq k 0 || cptS l k).map fun k => l.getD k default
theorem Z3u (l : List Str) (n : Nat) : cptN l (n + 1) = cptN l n ++ (if Nat.beq n 0 || cptS l n then [l.getD n default] else []) := by
 unfold cptN
 rw [List.range_succ, List.filter_append, List.map_append]
 congr 1
 simp only [List.filter_cons, List.filter_nil]
 split <;> rfl
theorem Z7v {l : List Str} : ∀ {n : Nat}, n ≤ l.length → (∀ k, 0 < k → k < n → cptS l k = true) → cptN l n = l.take n
 | 0, _, _ => rfl
 | n + 1, hn, h => by
  rw [Z3u, Z7v (by omega) (fun k h0 hk => h k h0 (by omega)), Z8r (show n < l.length by omega)]
  congr 1
  rw [if_pos]
  ·rw [Z1d (show n < l.length by omega)]
  ·cases n with
   | zero => rfl
   | succ n => rw [h (n + 1) (by omega) (by omega), Bool.or_true]
structure CptJ (l : List Str) (k : Nat) (m : List Str) (k2 j : Nat) : Prop where
 h1 : 1 ≤ j
 h2 : j ≤ l.length - k
 h3 : k ≤ k2
 h4 : k2 + 1 ≤ k + j
 hl : m.length = l.length
 ht : m.take k2 = cptN l (k + j)
 ho : ∀ i, k2 ≤ i → m.getD i default = l.getD i default
theorem CptJ.start {l : List Str} {k : Nat} (h0 : 1 ≤ k) (h1 : k < l.length) (h : ∀ i, 0 < i → i < k → cptS l i = true) (he : beqS (l.getD k default) (l.getD (k - 1) default) = true) : CptJ l k l k 1 := by
 refine ⟨Nat.le_refl _, by omega, Nat.le_refl _, Nat.le_refl _, rfl, ?_, fun _ _ => rfl⟩
 rw [Z3u, if_neg, List.append_nil, Z7v (by omega) h]
 unfold cptS
 rw [he]
 simp
 omega
theorem CptJ.keep {l m : List Str} {k k2 j : Nat} (h : CptJ l k m k2 j) (hj : j < l.length - k) (he : beqS (m.getD (k + j) default) (m.getD (k + (j - 1)) default) = true) : CptJ l k m k2 (j + 1) := by
 have g1 := h.h1
 have g4 := h.h4
 refine ⟨by omega, by omega, h.h3, by omega, h.hl, ?_, h.ho⟩
 rw [h.ho _ (by omega), h.ho _ (by omega)] at he
 rw [show k + (j + 1) = (k + j) + 1 by omega, Z3u, if_neg, List.append_nil]
 ·exact h.ht
 ·unfold cptS
  rw [show k + j - 1 = k + (j - 1) by omega, he]
  simp
  omega
theorem CptJ.put {l m : List Str} {k k2 j : Nat} (h : CptJ l k m k2 j) (hj : j < l.length - k) (he : (!beqS (m.getD (k + j) default) (m.getD (k + (j - 1)) default)) = true) : CptJ l k (m.set k2 (m.getD (k + j) default)) (k2 + 1) (j + 1) := by
 have g1 := h.h1
 have g4 := h.h4
 have gl := h.hl
 have hx := h.ho (k + j) (by omega)
 have h0 := h.ho (k + (j - 1)) (by omega)
 refine ⟨by omega, by omega, by have := h.h3; omega, by omega, by rw [List.length_set]; exact gl, ?_, ?_⟩
 ·rw [hx, h0] at he
  rw [show k + (j + 1) = (k + j) + 1 by omega, Z3u, if_pos, ← h.ht]
  ·rw [Z8r (by rw [List.length_set]; omega), List.take_set_of_le (Nat.le_refl _), List.getElem_set_self, hx]
  ·unfold cptS
   rw [show k + j - 1 = k + (j - 1) by omega, he, Bool.or_true]
 ·intro i hi
  rw [← h.ho i (by omega)]
  simp only [List.getD, List.getElem?_set]
  rw [if_neg (by omega)]
theorem CptJ.fin {l m : List Str} {k k2 j : Nat} (h : CptJ l k m k2 j) (hk : k < l.length) (hj : ¬ j < l.length - k) : m.take k2 = cptN l l.length ∧ k2 < l.length := by
 have g2 := h.h2
 have g4 := h.h4
 refine ⟨?_, by omega⟩
 rw [h.ht]
 congr 1
 omega
def nno : Str := ⟨#[110, 111]⟩
def nameP (p : Prog) (k : Int) : Str := if p.classes.length = 0 ∨ k = 255 then nno else (p.classes.getD (k.tmod p.classes.length).toNat default).name
end Go.Sx
namespace Go.Sx
open Go
def okU (p : Prog) (i : Nat) : Bool := !((p.classes.getD i default).iface && !beqS (p.classes.getD i default).super zS) && !(beqS (p.classes.getD i default).name zS || classAt p (p.classes.getD i default).name != (i : Int))
def unlikeB (p : Prog) : Bool := (List.range p.classes.length).all (okU p)
structure UnlikeP (p : Prog) : Prop where
 top : ∀ c, c ∈ p.classes → c.iface = true → c.super = zS
 nm : ∀ c, c ∈ p.classes → c.name ≠ zS
section
variable {p : Prog} {a b c : Str}
end
def nI : Str := ⟨#[73]⟩
def lhA : Cls := ⟨nA, zS, false, false, [], [], []⟩
def lhB : Cls := ⟨nB, nA, false, false, [nI], [], []⟩
def lhC : Cls := ⟨nC, nA, false, false, [], [], []⟩
def lhI : Cls := ⟨nI, zS, true, true, [], [], []⟩
def lhP : Prog := ⟨[lhA, lhB, lhC, lhI], [], ⟨zS, zS, zS⟩⟩
def lhA2 : Cls := ⟨nA, nB, false, false, [], [], []⟩
def lhB2 : Cls := ⟨nB, nA, false, false, [], [], []⟩
def lhQ : Prog := ⟨[lhA2, lhB2], [], ⟨zS, zS, zS⟩⟩
def subC (p : Prog) (n : Nat) (a b : Str) : Bool := match ancRun p n [a] [] with | some out => inL out b | none => false
def chk2C (p : Prog) (n : Nat) (c : Cls) : Bool := (upC c).any fun s => subC p n s c.name
end Go.Sx
namespace Go.Sx
open Go
def zCl : Cls := ⟨zS, zS, false, false, [], [], []⟩
def zMt : Meth := ⟨zS, zS, false, false, 0, []⟩
def zMR : MRef := ⟨zS, zS, zS⟩
def zFl : Fld := ⟨zS, ⟨0, zS⟩, false⟩
structure FRef where
 cls : Str
 name : Str
 deriving DecidableEq
def FRef.cells (f : FRef) : List AV := [sA f.cls, sA f.name]
def FRef.av (f : FRef) : AV := .agg f.cells
def Meth.av (m : Meth) : AV := .agg m.cells
def MRef.av (m : MRef) : AV := .agg m.cells
def Fld.av (f : Fld) : AV := .agg f.cells
def Instr.av (i : Instr) : AV := .agg i.cells
def zFR : FRef := ⟨zS, zS⟩
def nInit : Str := ⟨#[60, 99, 108, 105, 110, 105, 116, 62]⟩
def nVd : Str := ⟨#[40, 41, 86]⟩
def knownC (p : Prog) (nm : Str) : Cls := (clsFind p nm).getD zCl
def fldAt (c : Cls) (nm : Str) : Int := idxFrom (fun f : Fld => beqS f.name nm) c.fields 0
def mthAt (c : Cls) (nm d : Str) : Int := idxFrom (fun m : Meth => beqS m.name nm && beqS m.desc d) c.methods 0
def fldC (c : Cls) (nm : Str) : Option Fld := c.fields.find? fun f => beqS f.name nm
def mthC (c : Cls) (nm d : Str) : Option Meth := c.methods.find? fun m => beqS m.name nm && beqS m.desc d
def getP (p : Prog) (m : MRef) : Option Meth := mthC (knownC p m.cls) m.name m.desc
def fldP (p : Prog) (f : FRef) : Option Fld := fldC (knownC p f.cls) f.name
def fieldW (p : Prog) (f : FRef) : Option FRef := ((supers p f.cls).find? fun s => (fldP p ⟨s, f.name⟩).isSome).map fun s => ⟨s, f.name⟩
def firstP (p : Prog) (l : List Str) (m : MRef) : Option MRef := (l.find? fun s => (getP p ⟨s, m.name, m.desc⟩).isSome).map fun s => ⟨s, m.name, m.desc⟩
def declP (p : Prog) (l : List Str) (m : MRef) (may : Meth → Bool) : Option MRef := match firstP p l m with
 | none => none
 | some r => match getP p r with
  | some x => if may x then some r else none
  | none => none
def mayS (x : Meth) : Bool := x.static
def mayD (x : Meth) : Bool := (!x.static && !x.abs) && !beqS x.name nInit
def mayV (x : Meth) : Bool := !x.static && !beqS x.name nInit
def initP (p : Prog) (c : Str) : Option MRef := match getP p ⟨c, nInit, nVd⟩ with
 | some x => if x.static then some ⟨c, nInit, nVd⟩ else none
 | none => none
def askedP (p : Prog) (x y z : Int) : MRef :=
 if p.classes.length = 0 then ⟨nA, ⟨#[109]⟩, nVd⟩ else
 let c := p.classes.getD (y.tmod p.classes.length).toNat default
 let k := c.methods.getD (z.tmod c.methods.length).toNat default
 ⟨(p.classes.getD (x.tmod p.classes.length).toNat default).name, if c.methods.length = 0 then zS else k.name, if c.methods.length = 0 then zS else k.desc⟩
def fieldQ (p : Prog) (x y z : Int) : FRef :=
 let c := p.classes.getD (y.tmod p.classes.length).toNat default
 ⟨(askedP p x y z).cls, if p.classes.length = 0 then ⟨#[102]⟩ else if c.fields.length = 0 then ⟨#[102]⟩ else (c.fields.getD (z.tmod c.fields.length).toNat default).name⟩
end Go.Sx
namespace Go.Sx
open Go
def nm1 : Str := ⟨#[109]⟩
def ns1 : Str := ⟨#[115]⟩
def nf1 : Str := ⟨#[102]⟩
def lfI : Instr := ⟨23, 0, 0, 0, 0, zS, zS, zS, []⟩
def lfM : Meth := ⟨nm1, nVd, false, false, 1, [lfI]⟩
def lfS : Meth := ⟨ns1, nVd, true, false, 0, [lfI]⟩
def lfF : Fld := ⟨nf1, ⟨2, zS⟩, false⟩
def lfA : Cls := ⟨nA, zS, false, false, [], [lfF], [lfM, lfS]⟩
def lfB : Cls := ⟨nB, nA, false, false, [], [], []⟩
def lfP : Prog := ⟨[lfA, lfB], [], ⟨zS, zS, zS⟩⟩
end Go.Sx
namespace Go.Sx
open Go
def cmpT (a b : Str) : Int := if ltS a b then -1 else if ltS b a then 1 else 0
def cmpI (a b : Int) : Int := if a < b then -1 else if b < a then 1 else 0
def orI (a b : Int) : Int := if a = 0 then b else a
structure PreC {α : Type} (f : α → α → Int) : Prop where
 rg : ∀ x y, f x y = -1 ∨ f x y = 0 ∨ f x y = 1
 anti : ∀ x y, f x y = - f y x
 tr : ∀ x y z, f x y ≤ 0 → f y z ≤ 0 → f x z ≤ 0
namespace PreC
variable {α β : Type} {f g : α → α → Int}
theorem str1 (h : PreC f) {x y z : α} (h1 : f x y < 0) (h2 : f y z ≤ 0) : f x z < 0 := by
 have h3 := h.tr x y z (by omega) h2
 have h4 := h.anti x z
 have h5 := h.anti x y
 by_cases e : f x z = 0
 ·have := h.tr y z x h2 (by omega); omega
 ·omega
theorem str2 (h : PreC f) {x y z : α} (h1 : f x y ≤ 0) (h2 : f y z < 0) : f x z < 0 := by
 have h3 := h.tr x y z h1 (by omega)
 have h4 := h.anti x z
 have h5 := h.anti y z
 by_cases e : f x z = 0
 ·have := h.tr z x y (by omega) h1; omega
 ·omega
theorem or (h : PreC f) (k : PreC g) : PreC fun x y => orI (f x y) (g x y) where
 rg x y := by
  unfold orI
  split
  ·exact k.rg x y
  ·exact h.rg x y
 anti x y := by
  have h1 := h.anti x y
  have h2 := k.anti x y
  unfold orI
  by_cases e : f x y = 0
  ·rw [if_pos e, if_pos (by omega)]; exact h2
  ·rw [if_neg e, if_neg (by omega)]; exact h1
 tr x y z h1 h2 := by
  have key : ∀ x y, orI (f x y) (g x y) ≤ 0 ↔ f x y < 0 ∨ (f x y = 0 ∧ g x y ≤ 0) := fun x y => by
   unfold orI; split <;> omega
  rw [key] at h1 h2 ⊢
  rcases h1 with h1 | ⟨h1, h3⟩ <;> rcases h2 with h2 | ⟨h2, h4⟩
  ·exact .inl (h.str1 h1 (by omega))
  ·exact .inl (h.str1 h1 (by omega))
  ·exact .inl (h.str2 (by omega) h2)
  ·have h5 := h.tr x y z (by omega) (by omega)
   have h6 := h.anti x y; have h7 := h.anti y z; have h8 := h.anti x z
   have h9 := h.tr z y x (by omega) (by omega)
   exact .inr ⟨by omega, k.tr x y z h3 h4⟩
theorem on (h : PreC f) (p : β → α) : PreC fun x y => f (p x) (p y) := ⟨fun _ _ => h.rg _ _, fun _ _ => h.anti _ _, fun _ _ _ => h.tr _ _ _⟩
end PreC
def ltC {α : Type} (f : α → α → Int) (x y : α) : Bool := decide (f x y < 0)
structure Site where
 m : MRef
 pc : Int
 cls : Str
 deriving DecidableEq
structure Place where
 kind : Int
 m : MRef
 reg : Int
 field : FRef
 site : Site
 deriving DecidableEq
instance : Inhabited MRef := ⟨zMR⟩
instance : Inhabited FRef := ⟨⟨zS, zS⟩⟩
instance : Inhabited Site := ⟨⟨zMR, 0, zS⟩⟩
instance : Inhabited Place := ⟨⟨0, zMR, 0, ⟨zS, zS⟩, ⟨zMR, 0, zS⟩⟩⟩
def Site.cells (s : Site) : List AV := [sA s.m.cls, sA s.m.name, sA s.m.desc, iA s.pc, sA s.cls]
def Site.av (s : Site) : AV := .agg s.cells
def Place.cells (p : Place) : List AV := [iA p.kind, sA p.m.cls, sA p.m.name, sA p.m.desc, iA p.reg, sA p.field.cls, sA p.field.name, sA p.site.m.cls, sA p.site.m.name, sA p.site.m.desc, iA p.site.pc, sA p.site.cls]
def Place.av (p : Place) : AV := .agg p.cells
def sitesA (l : List Site) : AV := .lst (l.map Site.cells)
structure Site.ok (s : Site) : Prop where
 m : s.m.ok
 pc : i64 s.pc
 cls : small s.cls.size
structure FRef.ok (f : FRef) : Prop where
 cls : small f.cls.size
 name : small f.name.size
structure Place.ok (p : Place) : Prop where
 kind : i64 p.kind
 m : p.m.ok
 reg : i64 p.reg
 field : p.field.ok
 site : p.site.ok
def cmpR (a b : MRef) : Int := orI (cmpT a.cls b.cls) (orI (cmpT a.name b.name) (cmpT a.desc b.desc))
def cmpS (a b : Site) : Int := orI (cmpR a.m b.m) (orI (cmpI a.pc b.pc) (cmpT a.cls b.cls))
def cmpP (a b : Place) : Int := orI (cmpI a.kind b.kind) (orI (cmpR a.m b.m) (orI (cmpI a.reg b.reg) (orI (cmpT a.field.cls b.field.cls) (orI (cmpT a.field.name b.field.name) (cmpS a.site b.site)))))
abbrev sLt : Site → Site → Bool := ltC cmpS
def orL : List Int → Int
 | [] => 0
 | x :: r => orI x (orL r)
section
variable {P : Program} {T : List (Nat × AV)} {o : Oper}
end
section
variable {P : Program} {t s i tr tf ts : TypeId}
end
end Go.Sx
namespace Go.Sx
open Go
end Go.Sx
