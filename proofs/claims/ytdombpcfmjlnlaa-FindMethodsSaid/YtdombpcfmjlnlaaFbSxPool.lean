/- Plain laws of pools: texts that rise, where one stands. -/
import Derived.Test.YtdombpcfmjlnlaaFbSxOrd
set_option linter.unusedVariables false
set_option linter.unusedSimpArgs false
namespace Go.Sx
open Go

theorem bl_total : ∀ x y : List UInt8, (Op.bytesLess x y || x == y) = !Op.bytesLess y x
  | [], [] => rfl
  | [], _ :: _ => by simp [Op.bytesLess]
  | _ :: _, [] => by simp [Op.bytesLess]
  | a :: x, b :: y => by
    have ih := bl_total x y
    by_cases h1 : a < b
    · have h2 : ¬ b < a := fun h => by simp [UInt8.lt_iff_toNat_lt] at h h1; omega
      have h3 : ¬ b = a := fun e => by subst e; simp at h1
      simp [Op.bytesLess, h1, h2, h3]
    · by_cases h2 : b < a
      · have h3 : ¬ a = b := fun e => by subst e; simp at h2
        simp [Op.bytesLess, h1, h2, h3]
      · have h3 : a = b := UInt8.toNat_inj.1 (by simp [UInt8.lt_iff_toNat_lt] at h1 h2; omega)
        subst h3
        simp [Op.bytesLess] at ih ⊢
        exact ih
theorem leS_not (x y : Str) : (Op.bytesLess x.toList y.toList || x.toList == y.toList) = !ltS y x := bl_total _ _
theorem ltS_total {x y : Str} (h : ltS x y = false) (k : ltS y x = false) : x = y := by
  have h2 := leS_not x y
  rw [k] at h2
  have h3 : Op.bytesLess x.toList y.toList = false := h
  rw [h3] at h2
  have h4 : beqS x y = true := by unfold beqS; simpa using h2
  exact beqS_iff.1 h4
def longS (s : Str) : Bool := decide (s.size > 64)
def allN (g : Nat → Bool) (n : Nat) : Bool := (List.range n).all fun i => Nat.beq i 0 || g i
def gS (l : List Str) (k : Nat) : Bool := ltS (l.getD (k - 1) default) (l.getD k default)
def rightL (l : List Str) : Bool := decide (l.length ≤ 1024) && !l.any longS && allN (gS l) l.length
def findL (l : List Str) (s : Str) : Int := if rightL l then idxFrom (fun x => beqS x s) l 0 else -1
def sameT : List Str → List Str → Bool
  | [], [] => true
  | x :: l, y :: r => beqS x y && sameT l r
  | _, _ => false
/-! ### In order, and of the same texts: one -/
theorem insK_srt : ∀ (k i : Nat) (l : List Str), Ins ltS 0 k i l → k ≤ i → i < l.length → SAdj ltS 0 (i + 1) (insK k l)
  | 0, i, l, h, _, _ => h.done (.inl (Nat.le_refl _))
  | k + 1, i, l, h, hk, hl => by
    unfold insK
    cases hlt : ltS (l.getD (k + 1) default) (l.getD k default) with
    | true =>
      rw [if_pos rfl]
      exact insK_srt k i _ (h.step ltS_ok (by omega) hk hl hlt) (by omega) (by rw [swapS_len]; exact hl)
    | false => exact h.done (.inr hlt)
theorem outF_srt : ∀ (f i : Nat) (l : List Str), SAdj ltS 0 i l → i + f ≤ l.length → SAdj ltS 0 (i + f) (outF f i l)
  | 0, i, l, h, _ => h
  | f + 1, i, l, h, hl => by
    unfold outF
    rw [show i + (f + 1) = i + 1 + f from by omega]
    exact outF_srt f (i + 1) _ (insK_srt i i l (Ins.start h) (Nat.le_refl _) (by omega)) (by rw [insK_len]; omega)
theorem risF_srt (l : List Str) : SOn ltS 0 (risF l).length (risF l) := by
  have hl : (risF l).length = (dd l).length := (risF_perm l).length_eq
  rw [hl]
  unfold risF
  cases h : (dd l).length with
  | zero => intro i j h1 h2 h3; omega
  | succ n =>
    have := outF_srt n 1 (dd l) (SAdj.refl1 (by omega)) (by omega)
    rw [show n + 1 - 1 = n from by omega, show n + 1 = 1 + n from by omega]
    exact this.on ltS_ok
theorem SOn.pw {m : List Str} (h : SOn ltS 0 m.length m) : m.Pairwise fun x y => ltS y x = false := by
  rw [List.pairwise_iff_getElem]
  intro i j hi hj hij
  have := h i j (by omega) (by omega) hj
  rwa [getD_eq hj, getD_eq hi] at this
theorem SOn.uniq {m r : List Str} (hp : m.Perm r) (hm : SOn ltS 0 m.length m) (hr : SOn ltS 0 r.length r) : m = r :=
  List.Perm.eq_of_pairwise (fun a b _ _ h k => ltS_total k h) hm.pw hr.pw hp
def makeP (l : List Str) : List Str × Int := if l.any longS || decide (1024 < (dd l).length) then ([], 3) else (risF l, 0)
/-! ### What a pool is -/
end Go.Sx
