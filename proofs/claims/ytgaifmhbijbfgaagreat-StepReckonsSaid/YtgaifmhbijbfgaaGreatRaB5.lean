/- YtgaifmhbijbfgaaGreatRaB5: texts of this claim, one behind the other. -/
import Derived.Test.YtgaifmhbijbfgaaGreatRaB4
set_option linter.unusedVariables false
set_option linter.unusedSimpArgs false
set_option linter.unusedSectionVars false
set_option linter.unnecessarySimpa false
namespace Go.Sx
open Go Go.Proofs
def k138 : CallF := fun f xs H k => bif Nat.beq f 138 then (match xs with
 | [.fn (.func g) [.ptr i1 s1 a b]] => bif Nat.beq g 140 && (Nat.beq s1 1 && (Nat.beq a 0 && Nat.beq b 0)) then (match H.own i1 with
  | some (.rows el sz [[.map q]]) => bif Nat.beq el 95 && Nat.beq sz 1 then (match H.own q with
   | some (.mp [(.agg cs, x)]) => (match cs.toList with
    | [.string c, .string n] => bif Nat.beq i1 q || Nat.ble MM k then none else some (.ret (.own k 2 0 1), (dropObs H [i1, q]).put k (some (.rows 124 2 [[sA c, sA n]])), k + 1)
    | _ => none)
   | _ => none) else none
  | _ => none) else none
 | _ => none) else none
theorem Zdw : KOk Tryz.prog k138 := by
 intro f xs H k r H' k' h
 unfold k138 at h
 cases hf : Nat.beq f 138 with
 | false => rw [hf] at h; cases h
 | true =>
 rw [hf, cond_true] at h
 have hf := Nat.eq_of_beq_eq_true hf
 subst hf
 split at h
 case h_2 => cases h
 rename_i g i1 s1 a b
 cases hg : (Nat.beq g 140 && (Nat.beq s1 1 && (Nat.beq a 0 && Nat.beq b 0))) with
 | false => rw [hg] at h; cases h
 | true =>
 rw [hg, cond_true] at h
 simp only [Bool.and_eq_true] at hg
 obtain ⟨g1, g2, g3, g4⟩ := hg
 have g1 := Nat.eq_of_beq_eq_true g1
 have g2 := Nat.eq_of_beq_eq_true g2
 have g3 := Nat.eq_of_beq_eq_true g3
 have g4 := Nat.eq_of_beq_eq_true g4
 subst g1 g2 g3 g4
 split at h
 case h_2 => cases h
 rename_i el sz q hi1
 cases hg : (Nat.beq el 95 && Nat.beq sz 1) with
 | false => rw [hg] at h; cases h
 | true =>
 rw [hg, cond_true] at h
 simp only [Bool.and_eq_true] at hg
 obtain ⟨g1, g2⟩ := hg
 have g1 := Nat.eq_of_beq_eq_true g1
 have g2 := Nat.eq_of_beq_eq_true g2
 subst g1 g2
 split at h
 case h_2 => cases h
 rename_i cs x hq
 split at h
 case h_2 => cases h
 rename_i c n hcs
 cases hg : (Nat.beq i1 q || Nat.ble MM k) with
 | true => rw [hg] at h; cases h
 | false =>
 rw [hg, cond_false] at h
 cases h
 rw [Bool.or_eq_false_iff] at hg
 have hne : i1 ≠ q := by rintro rfl; have := hg.1; simp at this
 have hk : k < MM := by
  rcases Nat.lt_or_ge k MM with h | h
  ·exact h
  ·have h1 : Nat.ble MM k = true := by rw [Nat.ble_eq]; exact h
   rw [h1] at hg; exact absurd hg.2 (by simp)
 have hcs' : cs = #[.string c, .string n] := by apply Array.ext'; simpa using hcs
 subst hcs'
 have hc := Z5f 140 [.ptr i1 1 0 0] _ _ _ (fun l hl => by have := AdmF.len hl; simp at this; omega) (Z6t [((⟨c, n⟩ : FRef), x)] (by simp) i1 q)
 refine Z6x (Hc := [(i1, .rows 95 1 [[.map q]]), (q, .mp [(.agg #[.string c, .string n], x)])]) hc ?_ ?_ ?_ hk
 ·rintro e H' ⟨⟨r, l⟩, hl, rfl, rfl⟩
  have : l = [⟨c, n⟩] := by simpa using (show l.Perm [⟨c, n⟩] from hl)
  subst this
  exact ⟨r, rfl, rfl⟩
 ·intro p hp
  simp only [List.mem_cons, List.not_mem_nil, or_false] at hp
  rcases hp with rfl | rfl
  ·exact hi1
  ·exact hq
 ·simp [hne]
def k138z : CallF := fun f xs H k => bif Nat.beq f 138 then (match xs with
 | [.fn (.func g) [.ptr i1 s1 a b]] => bif Nat.beq g 140 && (Nat.beq s1 1 && (Nat.beq a 0 && Nat.beq b 0)) then (match H.own i1 with
  | some (.rows el sz [[.map q]]) => bif Nat.beq el 95 && Nat.beq sz 1 then (match H.own q with
   | some (.mp []) => bif Nat.beq i1 q || Nat.ble MM k then none else some (.ret (.own k 2 0 0), (dropObs H [i1, q]).put k (some (.rows 124 2 [])), k + 1)
   | _ => none) else none
  | _ => none) else none
 | _ => none) else none
theorem Zck : KOk Tryz.prog k138z := by
 intro f xs H k r H' k' h
 unfold k138z at h
 cases hf : Nat.beq f 138 with
 | false => rw [hf] at h; cases h
 | true =>
 rw [hf, cond_true] at h
 have hf := Nat.eq_of_beq_eq_true hf
 subst hf
 split at h
 case h_2 => cases h
 rename_i g i1 s1 a b
 cases hg : (Nat.beq g 140 && (Nat.beq s1 1 && (Nat.beq a 0 && Nat.beq b 0))) with
 | false => rw [hg] at h; cases h
 | true =>
 rw [hg, cond_true] at h
 simp only [Bool.and_eq_true] at hg
 obtain ⟨g1, g2, g3, g4⟩ := hg
 have g1 := Nat.eq_of_beq_eq_true g1
 have g2 := Nat.eq_of_beq_eq_true g2
 have g3 := Nat.eq_of_beq_eq_true g3
 have g4 := Nat.eq_of_beq_eq_true g4
 subst g1 g2 g3 g4
 split at h
 case h_2 => cases h
 rename_i el sz q hi1
 cases hg : (Nat.beq el 95 && Nat.beq sz 1) with
 | false => rw [hg] at h; cases h
 | true =>
 rw [hg, cond_true] at h
 simp only [Bool.and_eq_true] at hg
 obtain ⟨g1, g2⟩ := hg
 have g1 := Nat.eq_of_beq_eq_true g1
 have g2 := Nat.eq_of_beq_eq_true g2
 subst g1 g2
 split at h
 case h_2 => cases h
 rename_i hq
 cases hg : (Nat.beq i1 q || Nat.ble MM k) with
 | true => rw [hg] at h; cases h
 | false =>
 rw [hg, cond_false] at h
 cases h
 rw [Bool.or_eq_false_iff] at hg
 have hne : i1 ≠ q := by rintro rfl; have := hg.1; simp at this
 have hk : k < MM := by
  rcases Nat.lt_or_ge k MM with h | h
  ·exact h
  ·have h1 : Nat.ble MM k = true := by rw [Nat.ble_eq]; exact h
   rw [h1] at hg; exact absurd hg.2 (by simp)
 have hc := Z5f 140 [.ptr i1 1 0 0] _ _ _ (fun l hl => by have h := AdmF.len hl; simp only [List.map_nil, List.length_nil] at h; omega) (Z6t ([] : List (FRef × AV)) (by simp) i1 q)
 refine Z6x (Hc := [(i1, .rows 95 1 [[.map q]]), (q, .mp [])]) hc ?_ ?_ ?_ hk
 ·rintro e H' ⟨⟨r, l⟩, hl, rfl, rfl⟩
  have : l = [] := by simpa using (show l.Perm ([] : List FRef) from hl)
  subst this
  exact ⟨r, rfl, rfl⟩
 ·intro p hp
  simp only [List.mem_cons, List.not_mem_nil, or_false] at hp
  rcases hp with rfl | rfl
  ·exact hi1
  ·exact hq
 ·simp [hne]
def kR6 : CallF := orK k102 (orK k138 k138z)
theorem Zeh : KOk Tryz.prog kR6 := Zaw Zdv (Zaw Zdw Zck)
end Go.Sx
namespace Go.Sx
open Go Go.Proofs
theorem Zbj : ACalls Tryz.prog 22 [] [] (Gives (.v (.bool true))) := Z6h Zeh (L := 2000) (m := 40) (by decide +kernel) (by decide +kernel) (by kernel_rfl)
end Go.Sx
namespace Go.Sx
open Go Go.Proofs
def rk (op a b : Int) : Int × Int :=
 if op = 0 then (IntKind.wrap .i64 (a + b), 0) else if op = 1 then (IntKind.wrap .i64 (a - b), 0) else if op = 2 then (IntKind.wrap .i64 (a * b), 0)
 else if op = 3 then (if b = 0 then (0, 1) else (IntKind.wrap .i64 (a.tdiv b), 0)) else if op = 4 then (if b = 0 then (0, 1) else (a.tmod b, 0))
 else if op = 5 then (bitsI .and .i64 a b, 0) else if op = 6 then (bitsI .or .i64 a b, 0) else if op = 7 then (bitsI .xor .i64 a b, 0)
 else if op = 8 then (if a < b then 1 else 0, 0) else if op = 9 then (if a = b then 1 else 0, 0) else (0, 9)
theorem Zc9 {P : Program} {o : Oper} {T : List (Nat × AV)} {t : TypeId} {p : Operand} {x : Int} (ho : o.op = .unOp .neg t p) (hp : ev T p = some (.v (.int .i64 x))) : Eff P o T [] (.v (.int .i64 (IntKind.wrap .i64 (0 - x)))) [] :=
 Z02 (by intro c; rw [ho]; nofun) fun C H a w hw hn hv => by
  have h2 := VR.val (hv p (by rw [ho]; simp [Op.operands]) _ hp)
  exact ⟨.int .i64 (IntKind.wrap .i64 (0 - x)), by simp [execOp, ho, h2, Op.unary, Op.intArith, Sem.run_bind, Result.andThen], .v _⟩
abbrev rkA (op a b : Int) : AV := .tup [.v (.int .i64 (rk op a b).1), .v (.int .i64 (rk op a b).2)]
instance i_truth (x : Bool) : Con Tryz.prog 62 [.v (.bool x)] (.v (.int .i64 (bif x then 1 else 0))) := by
 cases x
 ·exact Zd4 Tryz.func62
 ·exact Zd4 Tryz.func62
theorem Zbk (a b : Int) : ACalls Tryz.prog 20 [.v (.int .i64 (0)), .v (.int .i64 a), .v (.int .i64 b)] [] (Gives (rkA 0 a b)) := by
 refine Zp (n := 64) Tryz.func20 rfl (by decide +kernel) rfl rfl ?_
 refine wk ?_
 refine Z2 (w0 rfl) rfl (Z8 rfl rfl rfl rfl) ?_
 refine wk ?_
 exact Z1k rfl (Zg rfl (Zg rfl Zm)) (gvr (by simp [rk, mkRes]))
theorem Zbl (a b : Int) : ACalls Tryz.prog 20 [.v (.int .i64 (1)), .v (.int .i64 a), .v (.int .i64 b)] [] (Gives (rkA 1 a b)) := by
 refine Zp (n := 64) Tryz.func20 rfl (by decide +kernel) rfl rfl ?_
 refine wk ?_
 refine Z2 (w0 rfl) rfl (Z8 rfl rfl rfl rfl) ?_
 refine wk ?_
 exact Z1k rfl (Zg rfl (Zg rfl Zm)) (gvr (by simp [rk, mkRes]))
theorem Zbm (a b : Int) : ACalls Tryz.prog 20 [.v (.int .i64 (2)), .v (.int .i64 a), .v (.int .i64 b)] [] (Gives (rkA 2 a b)) := by
 refine Zp (n := 64) Tryz.func20 rfl (by decide +kernel) rfl rfl ?_
 refine wk ?_
 refine Z2 (w0 rfl) rfl (Z8 rfl rfl rfl rfl) ?_
 refine wk ?_
 exact Z1k rfl (Zg rfl (Zg rfl Zm)) (gvr (by simp [rk, mkRes]))
theorem Zbp (a b : Int) : ACalls Tryz.prog 20 [.v (.int .i64 (5)), .v (.int .i64 a), .v (.int .i64 b)] [] (Gives (rkA 5 a b)) := by
 refine Zp (n := 64) Tryz.func20 rfl (by decide +kernel) rfl rfl ?_
 refine wk ?_
 refine Z2 (w0 rfl) rfl (Z0u rfl (.inl rfl) rfl rfl) ?_
 refine wk ?_
 exact Z1k rfl (Zg rfl (Zg rfl Zm)) (gvr (by simp [rk, mkRes]))
theorem Zbq (a b : Int) : ACalls Tryz.prog 20 [.v (.int .i64 (6)), .v (.int .i64 a), .v (.int .i64 b)] [] (Gives (rkA 6 a b)) := by
 refine Zp (n := 64) Tryz.func20 rfl (by decide +kernel) rfl rfl ?_
 refine wk ?_
 refine Z2 (w0 rfl) rfl (Z0u rfl (.inr (.inl rfl)) rfl rfl) ?_
 refine wk ?_
 exact Z1k rfl (Zg rfl (Zg rfl Zm)) (gvr (by simp [rk, mkRes]))
theorem Zbr (a b : Int) : ACalls Tryz.prog 20 [.v (.int .i64 (7)), .v (.int .i64 a), .v (.int .i64 b)] [] (Gives (rkA 7 a b)) := by
 refine Zp (n := 64) Tryz.func20 rfl (by decide +kernel) rfl rfl ?_
 refine wk ?_
 refine Z2 (w0 rfl) rfl (Z0u rfl (.inr (.inr rfl)) rfl rfl) ?_
 refine wk ?_
 exact Z1k rfl (Zg rfl (Zg rfl Zm)) (gvr (by simp [rk, mkRes]))
theorem Zbs (a b : Int) : ACalls Tryz.prog 20 [.v (.int .i64 (8)), .v (.int .i64 a), .v (.int .i64 b)] [] (Gives (rkA 8 a b)) := by
 refine Zp (n := 64) Tryz.func20 rfl (by decide +kernel) rfl rfl ?_
 refine wk ?_
 exact Z1k rfl (Zg rfl (Zg rfl Zm)) (gvr (by by_cases h : a < b <;> simp [rk, mkRes, h, Bool.cond_eq_ite]))
theorem Zbt (a b : Int) : ACalls Tryz.prog 20 [.v (.int .i64 (9)), .v (.int .i64 a), .v (.int .i64 b)] [] (Gives (rkA 9 a b)) := by
 refine Zp (n := 64) Tryz.func20 rfl (by decide +kernel) rfl rfl ?_
 refine wk ?_
 exact Z1k rfl (Zg rfl (Zg rfl Zm)) (gvr (by by_cases h : a = b <;> simp [rk, mkRes, h, Bool.cond_eq_ite]))
theorem Zbn (a b : Int) : ACalls Tryz.prog 20 [.v (.int .i64 (3)), .v (.int .i64 a), .v (.int .i64 b)] [] (Gives (rkA 3 a b)) := by
 refine Zp (n := 64) Tryz.func20 rfl (by decide +kernel) rfl rfl ?_
 refine wk ?_
 refine Zc rfl (fun hc => ?_) (fun hc => ?_)
 ·have hc : b = 0 := by simpa using hc
  refine wk ?_
  exact Z1k rfl (Zg rfl (Zg rfl Zm)) (gvr (by simp [rk, mkRes, hc]))
 ·have hc : ¬ b = 0 := by simpa using hc
  refine wk ?_
  refine Z2 (w0 rfl) rfl (Z61 rfl rfl rfl hc) ?_
  refine wk ?_
  exact Z1k rfl (Zg rfl (Zg rfl Zm)) (gvr (by simp [rk, mkRes, hc]))
theorem Zbo (a b : Int) : ACalls Tryz.prog 20 [.v (.int .i64 (4)), .v (.int .i64 a), .v (.int .i64 b)] [] (Gives (rkA 4 a b)) := by
 refine Zp (n := 64) Tryz.func20 rfl (by decide +kernel) rfl rfl ?_
 refine wk ?_
 refine Zc rfl (fun hc => ?_) (fun hc => ?_)
 ·have hc : b = 0 := by simpa using hc
  refine wk ?_
  exact Z1k rfl (Zg rfl (Zg rfl Zm)) (gvr (by simp [rk, mkRes, hc]))
 ·have hc : ¬ b = 0 := by simpa using hc
  refine wk ?_
  refine Z2 (w0 rfl) rfl (Z82 rfl rfl rfl hc) ?_
  refine wk ?_
  exact Z1k rfl (Zg rfl (Zg rfl Zm)) (gvr (by simp [rk, mkRes, hc]))
theorem Zbu (op a b : Int) (h0 : op ≠ 0) (h1 : op ≠ 1) (h2 : op ≠ 2) (h3 : op ≠ 3) (h4 : op ≠ 4) (h5 : op ≠ 5) (h6 : op ≠ 6) (h7 : op ≠ 7) (h8 : op ≠ 8) (h9 : op ≠ 9) : ACalls Tryz.prog 20 [.v (.int .i64 op), .v (.int .i64 a), .v (.int .i64 b)] [] (Gives (rkA op a b)) := by
 refine Zp (n := 64) Tryz.func20 rfl (by decide +kernel) rfl rfl ?_
 refine wk ?_
 refine Zc rfl (fun hc => absurd (show op = 3 by simpa using hc) h3) (fun _ => ?_)
 refine wk ?_
 refine Zc rfl (fun hc => absurd (show op = 4 by simpa using hc) h4) (fun _ => ?_)
 refine wk ?_
 refine Zc rfl (fun hc => absurd (show op = 0 by simpa using hc) h0) (fun _ => ?_)
 refine wk ?_
 refine Zc rfl (fun hc => absurd (show op = 1 by simpa using hc) h1) (fun _ => ?_)
 refine wk ?_
 refine Zc rfl (fun hc => absurd (show op = 2 by simpa using hc) h2) (fun _ => ?_)
 refine wk ?_
 refine Zc rfl (fun hc => absurd (show op = 5 by simpa using hc) h5) (fun _ => ?_)
 refine wk ?_
 refine Zc rfl (fun hc => absurd (show op = 6 by simpa using hc) h6) (fun _ => ?_)
 refine wk ?_
 refine Zc rfl (fun hc => absurd (show op = 7 by simpa using hc) h7) (fun _ => ?_)
 refine wk ?_
 refine Zc rfl (fun hc => absurd (show op = 8 by simpa using hc) h8) (fun _ => ?_)
 refine wk ?_
 refine Zc rfl (fun hc => absurd (show op = 9 by simpa using hc) h9) (fun _ => ?_)
 refine wk ?_
 exact Z1k rfl (Zg rfl (Zg rfl Zm)) (gvr (by simp [rk, mkRes, h0, h1, h2, h3, h4, h5, h6, h7, h8, h9]))
theorem Zea (op a b : Int) : ACalls Tryz.prog 20 [.v (.int .i64 op), .v (.int .i64 a), .v (.int .i64 b)] [] (Gives (rkA op a b)) := by
 by_cases h0 : op = 0
 ·subst h0; exact Zbk a b
 by_cases h1 : op = 1
 ·subst h1; exact Zbl a b
 by_cases h2 : op = 2
 ·subst h2; exact Zbm a b
 by_cases h3 : op = 3
 ·subst h3; exact Zbn a b
 by_cases h4 : op = 4
 ·subst h4; exact Zbo a b
 by_cases h5 : op = 5
 ·subst h5; exact Zbp a b
 by_cases h6 : op = 6
 ·subst h6; exact Zbq a b
 by_cases h7 : op = 7
 ·subst h7; exact Zbr a b
 by_cases h8 : op = 8
 ·subst h8; exact Zbs a b
 by_cases h9 : op = 9
 ·subst h9; exact Zbt a b
 exact Zbu op a b h0 h1 h2 h3 h4 h5 h6 h7 h8 h9
theorem Zbv (a b : Int) : ACalls Tryz.prog 21 [.v (.int .i64 (0)), .v (.int .i64 a), .v (.int .i64 b)] [] (Gives (rkA 0 a b)) := by
 refine Zp (n := 68) Tryz.func21 rfl (by decide +kernel) rfl rfl ?_
 refine wk ?_
 refine Z2 (w0 rfl) rfl (Z8 rfl rfl rfl rfl) ?_
 refine wk ?_
 exact Z1k rfl (Zg rfl (Zg rfl Zm)) (gvr (by simp [rk, mkRes]))
theorem Zbw (a b : Int) : ACalls Tryz.prog 21 [.v (.int .i64 (1)), .v (.int .i64 a), .v (.int .i64 b)] [] (Gives (rkA 1 a b)) := by
 refine Zp (n := 68) Tryz.func21 rfl (by decide +kernel) rfl rfl ?_
 refine wk ?_
 refine Z2 (w0 rfl) rfl (Z8 rfl rfl rfl rfl) ?_
 refine wk ?_
 exact Z1k rfl (Zg rfl (Zg rfl Zm)) (gvr (by simp [rk, mkRes]))
theorem Zbx (a b : Int) : ACalls Tryz.prog 21 [.v (.int .i64 (2)), .v (.int .i64 a), .v (.int .i64 b)] [] (Gives (rkA 2 a b)) := by
 refine Zp (n := 68) Tryz.func21 rfl (by decide +kernel) rfl rfl ?_
 refine wk ?_
 refine Z2 (w0 rfl) rfl (Z8 rfl rfl rfl rfl) ?_
 refine wk ?_
 exact Z1k rfl (Zg rfl (Zg rfl Zm)) (gvr (by simp [rk, mkRes]))
theorem Zc0 (a b : Int) : ACalls Tryz.prog 21 [.v (.int .i64 (5)), .v (.int .i64 a), .v (.int .i64 b)] [] (Gives (rkA 5 a b)) := by
 refine Zp (n := 68) Tryz.func21 rfl (by decide +kernel) rfl rfl ?_
 refine wk ?_
 refine Z2 (w0 rfl) rfl (Z0u rfl (.inl rfl) rfl rfl) ?_
 refine wk ?_
 exact Z1k rfl (Zg rfl (Zg rfl Zm)) (gvr (by simp [rk, mkRes]))
theorem Zc1 (a b : Int) : ACalls Tryz.prog 21 [.v (.int .i64 (6)), .v (.int .i64 a), .v (.int .i64 b)] [] (Gives (rkA 6 a b)) := by
 refine Zp (n := 68) Tryz.func21 rfl (by decide +kernel) rfl rfl ?_
 refine wk ?_
 refine Z2 (w0 rfl) rfl (Z0u rfl (.inr (.inl rfl)) rfl rfl) ?_
 refine wk ?_
 exact Z1k rfl (Zg rfl (Zg rfl Zm)) (gvr (by simp [rk, mkRes]))
theorem Zc2 (a b : Int) : ACalls Tryz.prog 21 [.v (.int .i64 (7)), .v (.int .i64 a), .v (.int .i64 b)] [] (Gives (rkA 7 a b)) := by
 refine Zp (n := 68) Tryz.func21 rfl (by decide +kernel) rfl rfl ?_
 refine wk ?_
 refine Z2 (w0 rfl) rfl (Z0u rfl (.inr (.inr rfl)) rfl rfl) ?_
 refine wk ?_
 exact Z1k rfl (Zg rfl (Zg rfl Zm)) (gvr (by simp [rk, mkRes]))
theorem Zc3 (a b : Int) : ACalls Tryz.prog 21 [.v (.int .i64 (8)), .v (.int .i64 a), .v (.int .i64 b)] [] (Gives (rkA 8 a b)) := by
 refine Zp (n := 68) Tryz.func21 rfl (by decide +kernel) rfl rfl ?_
 refine wk ?_
 refine Zc rfl (fun hc => ?_) (fun hc => ?_)
 ·have hc : a < b := by simpa using hc
  refine wk ?_
  exact Z1k rfl (Zg rfl (Zg rfl Zm)) (gvr (by simp [rk, mkRes, hc]))
 ·have hc : ¬ a < b := by simpa using hc
  refine wk ?_
  exact Z1k rfl (Zg rfl (Zg rfl Zm)) (gvr (by simp [rk, mkRes, hc]))
theorem Zc4 (a b : Int) : ACalls Tryz.prog 21 [.v (.int .i64 (9)), .v (.int .i64 a), .v (.int .i64 b)] [] (Gives (rkA 9 a b)) := by
 refine Zp (n := 68) Tryz.func21 rfl (by decide +kernel) rfl rfl ?_
 refine wk ?_
 refine Zc rfl (fun hc => ?_) (fun hc => ?_)
 ·have hc : a = b := by simpa using hc
  refine wk ?_
  exact Z1k rfl (Zg rfl (Zg rfl Zm)) (gvr (by simp [rk, mkRes, hc]))
 ·have hc : ¬ a = b := by simpa using hc
  refine wk ?_
  exact Z1k rfl (Zg rfl (Zg rfl Zm)) (gvr (by simp [rk, mkRes, hc]))
theorem Zby (a b : Int) : ACalls Tryz.prog 21 [.v (.int .i64 (3)), .v (.int .i64 a), .v (.int .i64 b)] [] (Gives (rkA 3 a b)) := by
 refine Zp (n := 68) Tryz.func21 rfl (by decide +kernel) rfl rfl ?_
 refine wk ?_
 refine Zc rfl (fun hc => ?_) (fun hc => ?_)
 ·have hc : b = 0 := by simpa using hc
  refine wk ?_
  exact Z1k rfl (Zg rfl (Zg rfl Zm)) (gvr (by simp [rk, mkRes, hc]))
 ·have hc : ¬ b = 0 := by simpa using hc
  have hb := hc
  refine wk ?_
  refine Zc rfl (fun hc => ?_) (fun hc => ?_)
  ·have hc : b = -1 := by simpa using hc
   subst hc
   refine wk ?_
   refine Z2 (w0 rfl) rfl (Zc9 rfl rfl) ?_
   refine wk ?_
   exact Z1k rfl (Zg rfl (Zg rfl Zm)) (gvr (by simp [rk, mkRes, Int.tdiv_neg, Int.tmod_neg]))
  ·have hc : ¬ b = -1 := by simpa using hc
   refine wk ?_
   refine Z2 (w0 rfl) rfl (Z61 rfl rfl rfl hb) ?_
   refine wk ?_
   exact Z1k rfl (Zg rfl (Zg rfl Zm)) (gvr (by simp [rk, mkRes, hb]))
theorem Zbz (a b : Int) : ACalls Tryz.prog 21 [.v (.int .i64 (4)), .v (.int .i64 a), .v (.int .i64 b)] [] (Gives (rkA 4 a b)) := by
 refine Zp (n := 68) Tryz.func21 rfl (by decide +kernel) rfl rfl ?_
 refine wk ?_
 refine Zc rfl (fun hc => ?_) (fun hc => ?_)
 ·have hc : b = 0 := by simpa using hc
  refine wk ?_
  exact Z1k rfl (Zg rfl (Zg rfl Zm)) (gvr (by simp [rk, mkRes, hc]))
 ·have hc : ¬ b = 0 := by simpa using hc
  have hb := hc
  refine wk ?_
  refine Zc rfl (fun hc => ?_) (fun hc => ?_)
  ·have hc : b = -1 := by simpa using hc
   subst hc
   refine wk ?_
   exact Z1k rfl (Zg rfl (Zg rfl Zm)) (gvr (by simp [rk, mkRes, Int.tdiv_neg, Int.tmod_neg]))
  ·have hc : ¬ b = -1 := by simpa using hc
   refine wk ?_
   refine Z2 (w0 rfl) rfl (Z82 rfl rfl rfl hb) ?_
   refine wk ?_
   exact Z1k rfl (Zg rfl (Zg rfl Zm)) (gvr (by simp [rk, mkRes, hb]))
theorem Zc5 (op a b : Int) (h0 : op ≠ 0) (h1 : op ≠ 1) (h2 : op ≠ 2) (h3 : op ≠ 3) (h4 : op ≠ 4) (h5 : op ≠ 5) (h6 : op ≠ 6) (h7 : op ≠ 7) (h8 : op ≠ 8) (h9 : op ≠ 9) : ACalls Tryz.prog 21 [.v (.int .i64 op), .v (.int .i64 a), .v (.int .i64 b)] [] (Gives (rkA op a b)) := by
 refine Zp (n := 68) Tryz.func21 rfl (by decide +kernel) rfl rfl ?_
 refine wk ?_
 refine Zc rfl (fun hc => absurd (show op = 0 by simpa using hc) h0) (fun _ => ?_)
 refine wk ?_
 refine Zc rfl (fun hc => absurd (show op = 1 by simpa using hc) h1) (fun _ => ?_)
 refine wk ?_
 refine Zc rfl (fun hc => absurd (show op = 2 by simpa using hc) h2) (fun _ => ?_)
 refine wk ?_
 refine Zc rfl (fun hc => absurd (show op = 3 by simpa using hc) h3) (fun _ => ?_)
 refine wk ?_
 refine Zc rfl (fun hc => absurd (show op = 4 by simpa using hc) h4) (fun _ => ?_)
 refine wk ?_
 refine Zc rfl (fun hc => absurd (show op = 5 by simpa using hc) h5) (fun _ => ?_)
 refine wk ?_
 refine Zc rfl (fun hc => absurd (show op = 6 by simpa using hc) h6) (fun _ => ?_)
 refine wk ?_
 refine Zc rfl (fun hc => absurd (show op = 7 by simpa using hc) h7) (fun _ => ?_)
 refine wk ?_
 refine Zc rfl (fun hc => absurd (show op = 8 by simpa using hc) h8) (fun _ => ?_)
 refine wk ?_
 refine Zc rfl (fun hc => absurd (show op = 9 by simpa using hc) h9) (fun _ => ?_)
 refine wk ?_
 exact Z1k rfl (Zg rfl (Zg rfl Zm)) (gvr (by simp [rk, mkRes, h0, h1, h2, h3, h4, h5, h6, h7, h8, h9]))
theorem Zeb (op a b : Int) : ACalls Tryz.prog 21 [.v (.int .i64 op), .v (.int .i64 a), .v (.int .i64 b)] [] (Gives (rkA op a b)) := by
 by_cases h0 : op = 0
 ·subst h0; exact Zbv a b
 by_cases h1 : op = 1
 ·subst h1; exact Zbw a b
 by_cases h2 : op = 2
 ·subst h2; exact Zbx a b
 by_cases h3 : op = 3
 ·subst h3; exact Zby a b
 by_cases h4 : op = 4
 ·subst h4; exact Zbz a b
 by_cases h5 : op = 5
 ·subst h5; exact Zc0 a b
 by_cases h6 : op = 6
 ·subst h6; exact Zc1 a b
 by_cases h7 : op = 7
 ·subst h7; exact Zc2 a b
 by_cases h8 : op = 8
 ·subst h8; exact Zc3 a b
 by_cases h9 : op = 9
 ·subst h9; exact Zc4 a b
 exact Zc5 op a b h0 h1 h2 h3 h4 h5 h6 h7 h8 h9
instance i_rk (op a b : Int) : Con Tryz.prog 20 [.v (.int .i64 op), .v (.int .i64 a), .v (.int .i64 b)] (rkA op a b) := ⟨Zea op a b⟩
instance i_rkr (op a b : Int) : Con Tryz.prog 21 [.v (.int .i64 op), .v (.int .i64 a), .v (.int .i64 b)] (rkA op a b) := ⟨Zeb op a b⟩
instance i_live22 : Con Tryz.prog 22 [] (.v (.bool true)) := ⟨Zbj⟩
theorem c_stepReckons (op a b : Int) : ACalls Tryz.prog 4 [.v (.int .i64 op), .v (.int .i64 a), .v (.int .i64 b)] [] (Gives (.v (.bool true))) := by
 refine Zp (n := 36) Tryz.func4 rfl (by decide +kernel) rfl rfl ?_
 refine wk ?_
 refine zgM ?_ (g3 := by show some (AV.v (Value.bool _)) = _; simp)
 refine zgM ?_ (g3 := by show some (AV.v (Value.bool _)) = _; simp)
 refine zgI ?_ (g3 := by show some (AV.v (Value.bool _)) = _; simp)
 refine zPT ?_ (hc := by show some (AV.v (Value.bool _)) = _; simp)
 refine wk ?_
 exact Z1k rfl (Zg rfl Zm) (gvr (by simp [mkRes]))
end Go.Sx
