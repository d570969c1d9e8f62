/- YtmnbbhcdjgofeaaGreatRaB3: texts of this claim, one behind the other. -/
import Derived.LoopNIn
import Derived.Test.YtmnbbhcdjgofeaaGreatRaB2
set_option linter.unusedVariables false
set_option linter.unusedSimpArgs false
set_option linter.unusedSectionVars false
set_option linter.unnecessarySimpa false
namespace Go.Sx
open Go Go.Proofs
theorem Zfs (a b : MRef) : ceqs a.cells b.cells = eqG a b := by
 rw [Bool.eq_iff_iff, eqG_iff, Z7b]
 cases a; cases b
 simp only [MRef.mk.injEq, Bool.and_eq_true, beqS_iff]
instance : ZV Tryz.prog 24 (.agg #[.string ⟨#[]⟩, .string ⟨#[]⟩, .string ⟨#[]⟩]) := ⟨by kernel_rfl⟩
theorem Zak (q n : Nat) (l : List MRef) (hn : l.length = n) (hN : n ≤ 140737488355328) : ACalls Tryz.prog 71 [.own q 3 0 n] [(q, .rows 24 3 (l.map MRef.cells))] (GP (fun m : List MRef => .own q 3 0 m.length) (fun m => [(q, .rows 24 3 (m.map MRef.cells))]) (fun m => m = cptNG l l.length)) := by
 refine Zw (n := 61) Tryz.func71 rfl (by decide +kernel) rfl rfl ?_
 refine Z4 ?_
 refine Z0 ?_
 refine Z5 (w0 rfl) rfl (Zp rfl rfl) ?_
 refine Z3 ?_
 refine Z4 ?_
 refine Z4 ?_
 refine Z0 ?_
 refine Z5 (w0 rfl) rfl (Z7 rfl rfl) ?_
 refine Z5 (w0 rfl) rfl (Z1p rfl rfl rfl rfl) ?_
 refine Z5 (w0 rfl) rfl (Zb rfl rfl rfl rfl) ?_
 refine Z3 ?_
 refine Ze rfl ?_ ?_
 ·intro hc
  have hlt : n < 2 := by simp at hc; omega
  refine Z4 ?_
  refine Z0 ?_
  refine Z5 (w0 rfl) rfl (Z7 rfl rfl) ?_
  refine Z5 (w0 rfl) rfl (Zp rfl rfl) ?_
  refine Z3 ?_
  refine Z02 ?_
  exact Zr rfl (Zy rfl Zu) (.cons_cons _ .slnil) (gp l (by rw [Z2q (Nat.le_refl _) (fun k h1 h2 => by omega), List.take_length]) (by rw [hn]; rfl) rfl)
 ·intro hc
  have hlt : ¬ n < 2 := by simp at hc; omega
  refine Zi ?_
  refine Z4 ?_
  refine Z4 ?_
  refine Z0 ?_
  refine Z5 (w0 rfl) rfl (Zp rfl rfl) ?_
  refine Z3 ?_
  refine Zn ?_
  refine Z06 (α := Nat) (fun x => ⟨[(3, iA x), (0, .own q 3 0 n)], [(q, .rows 24 3 (l.map MRef.cells))], [], 61⟩) (fun x => 1 ≤ x ∧ x ≤ n ∧ ∀ i, 0 < i → i < x → cptSG l i = true) (fun x => n - x) 1 ⟨Nat.le_refl _, by omega, fun i h1 h2 => by omega⟩ ?_ ?_
  ·exact Z8 [0] ⟨rfl, rfl, trivial⟩ rfl (by decide) rfl rfl
  rintro x hJ
  refine Z4 ?_
  refine Z4 ?_
  refine Z0 ?_
  refine Z5 (w0 rfl) rfl (Z7 rfl rfl) ?_
  refine Z5 (w0 rfl) rfl (Z7 rfl rfl) ?_
  refine Z5 (w0 rfl) rfl (Z1p rfl rfl rfl rfl) ?_
  refine Z5 (w0 rfl) rfl (Zb rfl rfl rfl rfl) ?_
  refine Z3 ?_
  refine Ze rfl ?_ ?_
  ·intro hc
   have hx : x < n := by simpa using hc
   refine Zi ?_
   refine Z4 ?_
   refine Zn ?_
   refine Z4 ?_
   refine Z1e 10 rfl (by kernel_rfl) ?_
   refine Za (w0 rfl) rfl (Z7 rfl rfl) ?_
   refine Za (w0 rfl) rfl (Z7 rfl rfl) ?_
   refine Za (w0 rfl) rfl (Z2 x rfl rfl rfl (by first | omega | (simp only [List.length_map]; omega) | (simp only [List.length_map, List.length_drop]; omega)) (by first | omega | (simp only [List.length_map]; omega) | (simp only [List.length_map, List.length_drop]; omega)) (by omega)) ?_
   refine Zm 0 (w0 rfl) rfl rfl rfl rfl (Zo (by first | assumption | omega | (simp only [List.length_drop]; omega))) (Zk rfl) ?_
   refine Za (w0 rfl) rfl (Z7 rfl rfl) ?_
   refine Za (w0 rfl) rfl (Z7 rfl rfl) ?_
   refine Za (w0 rfl) rfl (Z6 rfl rfl rfl (Zd (by first | omega | (simp only [List.length_map]; omega)))) ?_
   refine Za (w0 rfl) rfl (Z2 (x - 1) rfl rfl rfl (by first | omega | (simp only [List.length_map]; omega) | (simp only [List.length_map, List.length_drop]; omega)) (by first | omega | (simp only [List.length_map]; omega) | (simp only [List.length_map, List.length_drop]; omega)) (by omega)) ?_
   refine Zm 0 (w0 rfl) rfl rfl rfl rfl (Zo (by first | assumption | omega | (simp only [List.length_drop]; omega))) (Zk rfl) ?_
   refine Za (w0 rfl) rfl (Z13 rfl rfl rfl rfl rfl) ?_
   refine .done ?_
   refine Z3 ?_
   refine Ze rfl ?_ ?_
   ·intro hc
    have hq : eqG (l.getD x default) (l.getD (x - 1) default) = true := by rw [← Zfs]; exact hc
    refine Z4 ?_
    refine Z0 ?_
    refine Z5 (w0 rfl) rfl (Z7 rfl rfl) ?_
    refine Z5 (w0 rfl) rfl (Z7 rfl rfl) ?_
    refine Z5 (w0 rfl) rfl (Zz (y := .own q 3 x (n - x)) (Z23 rfl rfl rfl (by first | omega | (simp only [List.length_map]; omega) | (simp only [List.length_map, List.length_drop]; omega)) (by first | omega | (simp only [List.length_map]; omega) | (simp only [List.length_map, List.length_drop]; omega))) ((by simp))) ?_
    refine Z5 (w0 rfl) rfl (Zp rfl rfl) ?_
    refine Z3 ?_
    refine Z4 ?_
    refine Z4 ?_
    refine Z0 ?_
    refine Z5 (w0 rfl) rfl (Zp rfl rfl) ?_
    refine Z3 ?_
    refine Zn ?_
    refine Z06 (α := List MRef × Nat × Nat) (fun z => ⟨[(3, iA z.2.1), (5, iA z.2.2), (4, .own q 3 x (n - x)), (0, .own q 3 0 n)], [(q, .rows 24 3 (z.1.map MRef.cells))], [], 61⟩) (fun z => CptJG l x z.1 z.2.1 z.2.2) (fun z => n - x - z.2.2) (l, x, 1) (CptJG.start hJ.1 (by omega) hJ.2.2 hq) ?_ ?_
    ·exact Z8 [0] ⟨rfl, rfl, rfl, rfl, trivial⟩ rfl (by decide) rfl rfl
    rintro z hJ1
    have hm1 := hJ1.h1
    have hm2 := hJ1.h2
    have hm3 := hJ1.h3
    have hm4 := hJ1.h4
    have hml := hJ1.hl
    refine Z4 ?_
    refine Z4 ?_
    refine Z0 ?_
    refine Z5 (w0 rfl) rfl (Z7 rfl rfl) ?_
    refine Z5 (w0 rfl) rfl (Z7 rfl rfl) ?_
    refine Z5 (w0 rfl) rfl (Z1p rfl rfl rfl rfl) ?_
    refine Z5 (w0 rfl) rfl (Zb rfl rfl rfl rfl) ?_
    refine Z3 ?_
    refine Ze rfl ?_ ?_
    ·intro hc
     have hj : z.2.2 < l.length - x := by simp at hc; omega
     refine Zi ?_
     refine Z4 ?_
     refine Zn ?_
     refine Z4 ?_
     refine Z1e 10 rfl (by kernel_rfl) ?_
     refine Za (w0 rfl) rfl (Z7 rfl rfl) ?_
     refine Za (w0 rfl) rfl (Z7 rfl rfl) ?_
     refine Za (w0 rfl) rfl (Z2 (x + z.2.2) rfl rfl rfl (by first | omega | (simp only [List.length_map]; omega) | (simp only [List.length_map, List.length_drop]; omega)) (by first | omega | (simp only [List.length_map]; omega) | (simp only [List.length_map, List.length_drop]; omega)) (by omega)) ?_
     refine Zm 0 (w0 rfl) rfl rfl rfl rfl (Zo (by first | assumption | omega | (simp only [List.length_drop]; omega))) (Zk rfl) ?_
     refine Za (w0 rfl) rfl (Z7 rfl rfl) ?_
     refine Za (w0 rfl) rfl (Z7 rfl rfl) ?_
     refine Za (w0 rfl) rfl (Z6 rfl rfl rfl (Zd (by first | omega | (simp only [List.length_map]; omega)))) ?_
     refine Za (w0 rfl) rfl (Z2 (x + (z.2.2 - 1)) rfl rfl rfl (by first | omega | (simp only [List.length_map]; omega) | (simp only [List.length_map, List.length_drop]; omega)) (by first | omega | (simp only [List.length_map]; omega) | (simp only [List.length_map, List.length_drop]; omega)) (by omega)) ?_
     refine Zm 0 (w0 rfl) rfl rfl rfl rfl (Zo (by first | assumption | omega | (simp only [List.length_drop]; omega))) (Zk rfl) ?_
     refine Za (w0 rfl) rfl (Z49 rfl rfl rfl rfl rfl) ?_
     refine .done ?_
     refine Z3 ?_
     refine Ze rfl ?_ ?_
     ·intro hc
      have hv : (!eqG (z.1.getD (x + z.2.2) default) (z.1.getD (x + (z.2.2 - 1)) default)) = true := by rw [← Zfs]; exact hc
      refine Z4 ?_
      refine Z0 ?_
      refine Z5 (w0 rfl) rfl (Z7 rfl rfl) ?_
      refine Z5 (w0 rfl) rfl (Z7 rfl rfl) ?_
      refine Z5 (w0 rfl) rfl (Z7 rfl rfl) ?_
      refine Z5 (w0 rfl) rfl (Z7 rfl rfl) ?_
      refine Z5 (w0 rfl) rfl (Z2 (x + z.2.2) rfl rfl rfl (by first | omega | (simp only [List.length_map]; omega) | (simp only [List.length_map, List.length_drop]; omega)) (by first | omega | (simp only [List.length_map]; omega) | (simp only [List.length_map, List.length_drop]; omega)) (by omega)) ?_
      refine Z0h 0 (w0 rfl) rfl rfl rfl rfl (Zo (by first | assumption | omega | (simp only [List.length_drop]; omega))) (Zk rfl) ?_
      refine Z5 (w0 rfl) rfl (Z2 z.2.1 rfl rfl rfl (by first | omega | (simp only [List.length_map]; omega) | (simp only [List.length_map, List.length_drop]; omega)) (by first | omega | (simp only [List.length_map]; omega) | (simp only [List.length_map, List.length_drop]; omega)) (by omega)) ?_
      refine Z8e (f := MRef.cells) 0 (fun _ => rfl) (fun _ => rfl) (w0 rfl) rfl rfl rfl rfl (by first | omega | (simp; omega)) rfl ?_
      refine Z3 ?_
      refine Z0 ?_
      refine Z5 (w0 rfl) rfl (Z7 rfl rfl) ?_
      refine Z5 (w0 rfl) rfl (Z6 rfl rfl rfl (Z9 (by first | omega | (simp only [List.length_map]; omega)))) ?_
      refine Z5 (w0 rfl) rfl (Zp rfl rfl) ?_
      refine Z3 ?_
      refine Z0 ?_
      refine Z5 (w0 rfl) rfl (Z7 rfl rfl) ?_
      refine Z5 (w0 rfl) rfl (Z6 rfl rfl rfl (Z9 (by first | omega | (simp only [List.length_map]; omega)))) ?_
      refine Z5 (w0 rfl) rfl (Zp rfl rfl) ?_
      refine Z3 ?_
      refine ⟨(z.1.set z.2.1 (z.1.getD (x + z.2.2) default), z.2.1 + 1, z.2.2 + 1), (hJ1.put hj hv), (by (try simp only) <;> omega), ?_⟩
      exact Z8 [0] ⟨rfl, rfl, rfl, rfl, trivial⟩ rfl (by decide) rfl rfl
     ·intro hc
      have hv : eqG (z.1.getD (x + z.2.2) default) (z.1.getD (x + (z.2.2 - 1)) default) = true := Zcj (by rw [← Zfs]; exact hc)
      refine Zi ?_
      refine Z0 ?_
      refine Z5 (w0 rfl) rfl (Z7 rfl rfl) ?_
      refine Z5 (w0 rfl) rfl (Z6 rfl rfl rfl (Z9 (by first | omega | (simp only [List.length_map]; omega)))) ?_
      refine Z5 (w0 rfl) rfl (Zp rfl rfl) ?_
      refine Z3 ?_
      refine ⟨(z.1, z.2.1, z.2.2 + 1), (hJ1.keep hj hv), (by (try simp only) <;> omega), ?_⟩
      exact Z8 [0] ⟨rfl, rfl, rfl, rfl, trivial⟩ rfl (by decide) rfl rfl
    ·intro hc
     have hj : ¬ z.2.2 < l.length - x := by simp at hc; omega
     have hfin := hJ1.fin (by omega) hj
     refine Z05 ?_
     refine Z4 ?_
     refine Z0 ?_
     refine Z5 (w0 rfl) rfl (Z7 rfl rfl) ?_
     refine Z5 (w0 rfl) rfl (Z7 rfl rfl) ?_
     refine Z5 (w0 rfl) rfl (Zz (y := .own q 3 z.2.1 (n - z.2.1)) (Z23 rfl rfl rfl (by first | omega | (simp only [List.length_map]; omega) | (simp only [List.length_map, List.length_drop]; omega)) (by first | omega | (simp only [List.length_map]; omega) | (simp only [List.length_map, List.length_drop]; omega))) ((by simp))) ?_
     refine Z8d (n := 3) 0 rfl (by decide) (w0 rfl) rfl rfl rfl rfl ?_
     refine Z3 ?_
     refine Z4 ?_
     refine Z0 ?_
     refine Z5 (w0 rfl) rfl (Z7 rfl rfl) ?_
     refine Z5 (w0 rfl) rfl (Z7 rfl rfl) ?_
     refine Z5 (w0 rfl) rfl (Zz (y := .own q 3 0 z.2.1) (Z2i rfl rfl rfl (by first | omega | (simp only [List.length_map]; omega) | (simp only [List.length_map, List.length_drop]; omega)) (by first | omega | (simp only [List.length_map]; omega) | (simp only [List.length_map, List.length_drop]; omega))) ((by simp))) ?_
     refine Z5 (w0 rfl) rfl (Zp rfl rfl) ?_
     refine Z3 ?_
     refine Z02 ?_
     exact Zr rfl (Zy rfl Zu) (.cons_cons _ .slnil) (gp (z.1.take z.2.1) hfin.1 (by show AV.own q _ 0 _ = AV.own q _ 0 _; rw [List.length_take]; congr 1; omega) (by show [(_, AObj.rows _ _ _)] = [(_, AObj.rows _ _ _)]; rw [List.map_take]))
   ·intro hc
    have hv : cptSG l x = true := by unfold cptSG; rw [show eqG (l.getD x default) (l.getD (x - 1) default) = false from by rw [← Zfs]; exact hc]; rfl
    refine Zi ?_
    refine Z0 ?_
    refine Z5 (w0 rfl) rfl (Z7 rfl rfl) ?_
    refine Z5 (w0 rfl) rfl (Z6 rfl rfl rfl (Z9 (by first | omega | (simp only [List.length_map]; omega)))) ?_
    refine Z5 (w0 rfl) rfl (Zp rfl rfl) ?_
    refine Z3 ?_
    refine ⟨(x + 1), ⟨by omega, by omega, fun i h1 h2 => by rcases Nat.lt_succ_iff_lt_or_eq.1 h2 with h | h; exact hJ.2.2 i h1 h; rw [h]; exact hv⟩, (by omega), ?_⟩
    exact Z8 [0] ⟨rfl, rfl, trivial⟩ rfl (by decide) rfl rfl
  ·intro hc
   have hx : ¬ x < n := by simpa using hc
   refine Z05 ?_
   refine Z4 ?_
   refine Z0 ?_
   refine Z5 (w0 rfl) rfl (Z7 rfl rfl) ?_
   refine Z5 (w0 rfl) rfl (Zp rfl rfl) ?_
   refine Z3 ?_
   refine Z02 ?_
   exact Zr rfl (Zy rfl Zu) (.cons_cons _ .slnil) (gp l (by rw [Z2q (Nat.le_refl _) (fun k h1 h2 => hJ.2.2 k h1 (by omega)), List.take_length]) (by rw [hn]; rfl) rfl)
theorem Zdc (l : List MRef) (hl : small l.length) (s : MRef) : ACalls Tryz.prog 5 [.lst (l.map MRef.cells), MRef.av s] [] (Gives (bA (hasG l s))) := by
 simp only [small] at hl
 refine Zw (n := 18) Tryz.func5 rfl (by decide +kernel) rfl rfl ?_
 refine Z4 ?_
 refine Z0 ?_
 refine Z1a (w0 rfl) rfl (fun id => Z38 id rfl rfl rfl rfl rfl) (fun id1 => ?_)
 refine Z5 (w0 rfl) rfl (Zp rfl rfl) ?_
 refine Z3 ?_
 refine Z4 ?_
 refine Z4 ?_
 refine Z0 ?_
 refine Z5 (w0 rfl) rfl (Zp rfl rfl) ?_
 refine Z3 ?_
 refine Zn ?_
 refine Z06 (α := Nat) (fun i => ⟨[(5, iA i), (0, .lst (l.map MRef.cells)), (3, .ptr id1 3 0 0)], [(id1, .rows 24 3 [s.cells])], [], 18⟩) (fun i => (l.drop i).any (fun x => eqG x s) = l.any (fun x => eqG x s)) (fun i => l.length - i) 0 rfl ?_ ?_
 ·exact Z8 [0] ⟨rfl, rfl, rfl, trivial⟩ rfl (by decide) rfl rfl
 rintro i hJ
 refine Z4 ?_
 refine Z4 ?_
 refine Z0 ?_
 refine Z5 (w0 rfl) rfl (Z7 rfl rfl) ?_
 refine Z5 (w0 rfl) rfl (Z7 rfl rfl) ?_
 refine Z5 (w0 rfl) rfl (Z1p rfl rfl rfl rfl) ?_
 refine Z5 (w0 rfl) rfl (Zb rfl rfl rfl rfl) ?_
 refine Z3 ?_
 refine Ze rfl ?_ ?_
 ·intro hc
  have hi : i < l.length := by simpa using hc
  refine Zi ?_
  refine Z4 ?_
  refine Zn ?_
  refine Z4 ?_
  refine Z1e 6 rfl (by kernel_rfl) ?_
  refine Za (w0 rfl) rfl (Z7 rfl rfl) ?_
  refine Za (w0 rfl) rfl (Z7 rfl rfl) ?_
  refine Za (w0 rfl) rfl (Z0u rfl rfl rfl (Zc6 (fun _ => rfl)) (by first | omega | (simp only [List.length_map]; omega) | (simp only [List.length_map, List.length_drop]; omega)) (by first | omega | (simp only [List.length_map]; omega) | (simp only [List.length_map, List.length_drop]; omega))) ?_
  refine Za (w0 rfl) rfl (Z53 rfl rfl (Zcd (by first | assumption | omega | (simp only [List.length_drop]; omega))) (Zc5 (Nat.le_of_ble_eq_true rfl))) ?_
  refine Zm 0 (w0 rfl) rfl rfl rfl rfl rfl (Zc5 (Nat.le_of_ble_eq_true rfl)) ?_
  refine Za (w0 rfl) rfl (Z13 rfl rfl rfl rfl rfl) ?_
  refine .done ?_
  refine Z3 ?_
  refine Ze rfl ?_ ?_
  ·intro hc
   have hq : (fun x => eqG x s) l[i] = true := by show eqG l[i] s = true; rw [← Zfs]; exact hc
   refine Z4 ?_
   refine Z0 ?_
   refine Z5 (w0 rfl) rfl (Zp rfl rfl) ?_
   refine Z3 ?_
   refine Z02 ?_
   exact Z69 rfl (Zy rfl Zu) (gb (Zet hJ hi hq).symm)
  ·intro hc
   have hq : (fun x => eqG x s) l[i] = false := by show eqG l[i] s = false; rw [← Zfs]; exact hc
   refine Zi ?_
   refine Z0 ?_
   refine Z5 (w0 rfl) rfl (Z7 rfl rfl) ?_
   refine Z5 (w0 rfl) rfl (Z6 rfl rfl rfl (Z9 (by first | omega | (simp only [List.length_map]; omega)))) ?_
   refine Z5 (w0 rfl) rfl (Zp rfl rfl) ?_
   refine Z3 ?_
   refine ⟨i + 1, (Zd3 hJ hi hq), (by omega), ?_⟩
   exact Z8 [0] ⟨rfl, rfl, rfl, trivial⟩ rfl (by decide) rfl rfl
 ·intro hc
  have hi : ¬ i < l.length := by simpa using hc
  refine Z05 ?_
  refine Z4 ?_
  refine Z0 ?_
  refine Z5 (w0 rfl) rfl (Zp rfl rfl) ?_
  refine Z3 ?_
  refine Z02 ?_
  exact Z69 rfl (Zy rfl Zu) (gb (Zes hJ hi).symm)
end Go.Sx
namespace Go.Sx
open Go
section
variable {α : Type} [DecidableEq α]
def fget : List (α × AV) → α → Option AV
 | [], _ => none
 | (k, x) :: r, s => bif decide (s = k) then some x else fget r s
def fput : List (α × AV) → α → AV → List (α × AV)
 | [], s, x => [(s, x)]
 | (k, y) :: r, s, x => bif decide (s = k) then (s, x) :: r else (k, y) :: fput r s x
def kagg (kv : α → List Value) (a : α) : Value := .agg (kv a).toArray
def fmp (kv : α → List Value) (es : List (α × AV)) : List (Value × AV) := es.map fun e => (kagg kv e.1, e.2)
end
class FKey {α : Type} [DecidableEq α] (P : Program) (kt : TypeId) (kv : α → List Value) (ks : outParam (List CK)) : Prop where
 eq : EQ P kt ks
 ck : ∀ a, (kv a).map ck1 = ks.map some
 inj : ∀ a b, vseq (kv a) (kv b) = decide (a = b)
 chk : ∀ b a w, (Instr.checkKey b 10000 kt (kagg kv a)).run P w = .ok () w
 same : ∀ a, Instr.sameBits 10000 (kagg kv a) (kagg kv a) = true
section
variable {α : Type} [DecidableEq α] {P : Program} {kt : TypeId} {kv : α → List Value} {ks : List CK}
theorem FKey.run [h : FKey P kt kv ks] (a b : α) (w : World) : (Op.equal kt (kagg kv a) (kagg kv b)).run P w = .ok (decide (a = b)) w := by
 obtain ⟨fs, hfs⟩ := h.eq.st
 have := Za6 (P := P) w 20 kt ks 10000 (kv a) (kv b) h.eq.ck (by omega) (h.ck a) (h.ck b)
 simp only [hfs, asV, if_true] at this
 rw [h.inj] at this
 exact this
theorem Z4h [h : FKey P kt kv ks] (a : α) (l : List MapEntry) (w : World) : (Instr.findKey kt (kagg kv a) l).run P w = (Instr.findAsking kt (kagg kv a) l).run P w := by
 obtain ⟨fs, hfs⟩ := h.eq.st
 cases l with
 | nil => simp [Instr.findKey, Go.run_underlying hfs, Instr.findNow, Instr.findAsking, Result.andThen, Sem.run_bind]
 | cons e l =>
  have : Instr.findNow (.struct fs) (kagg kv a) (e :: l) 0 = none := by
   have : Instr.sameNow (.struct fs) (kagg kv a) e.key = none := by unfold Instr.sameNow; rfl
   simp [Instr.findNow, this]
  simp [Instr.findKey, Go.run_underlying hfs, this, Result.andThen, Sem.run_bind]
theorem Z5k [hk : FKey P kt kv ks] {C : Ctx} (k : α) (w : World) : ∀ (es : List (α × AV)) (ents : List MapEntry) (n : Nat), es.length = ents.length →
  (∀ (i : Nat) (kk : Value) (x : AV), (fmp kv es)[i]? = some (kk, x) → ∃ e : MapEntry, ents[i]? = some e ∧ e.key = kk ∧ VR C x e.val) →
  (fget es k = none ∧ (Instr.findAsking kt (kagg kv k) ents n).run P w = .ok none w) ∨
  (∃ i x v, fget es k = some x ∧ (Instr.findAsking kt (kagg kv k) ents n).run P w = .ok (some (n + i, v)) w ∧ VR C x v ∧ i < es.length ∧ es[i]? = some (k, x) ∧ ∀ y, fput es k y = es.set i (k, y))
 | [], [], n, _, _ => .inl ⟨rfl, rfl⟩
 | [], _ :: _, _, h, _ => by simp at h
 | _ :: _, [], _, h, _ => by simp at h
 | (kk, x) :: es, e :: ents, n, hl, h => by
  obtain ⟨e', he, hk', hv⟩ := h 0 (kagg kv kk) x rfl
  simp only [List.getElem?_cons_zero, Option.some.injEq] at he
  subst he
  simp only [Instr.findAsking, hk', Sem.run_bind, FKey.run, Result.andThen]
  cases hb : decide (k = kk) with
  | true =>
   have ht : k = kk := of_decide_eq_true hb
   subst ht
   refine .inr ⟨0, x, e.val, by simp [fget], by simp, hv, by simp, rfl, fun y => by simp [fput]⟩
  | false =>
   rcases Z5k (C := C) k w es ents (n + 1) (by simpa using hl) (fun i a b c => h (i + 1) a b (by simpa [fmp] using c)) with ⟨h1, h2⟩ | ⟨i, y, v, h1, h2, h3, h4, h5, h6⟩
   ·exact .inl ⟨by simp [fget, hb, h1], by simpa using h2⟩
   ·refine .inr ⟨i + 1, y, v, by simp [fget, hb, h1], ?_, h3, by simp; omega, by simpa using h5, fun z => by simp [fput, hb, h6 z]⟩
    rw [show n + (i + 1) = n + 1 + i from by omega]; simpa using h2
theorem Z7t : ∀ (es : List (α × AV)) (k : α) (x : AV), fget es k = none → fput es k x = es ++ [(k, x)]
 | [], k, x, _ => rfl
 | (kk, y) :: es, k, x, h => by
  simp only [fget] at h
  cases hb : decide (k = kk) with
  | true => rw [hb] at h; cases h
  | false => rw [hb, cond_false] at h; simp [fput, hb, Z7t es k x h]
variable {ro : Option Nat} {Q : Exit → St → Prop} {s : St} {ops : Array Oper} {o : Oper} {rest : List Oper} {T : List (Nat × AV)}
theorem Zd1 {C : Ctx} (l : List Value) : VR C (.agg (l.map .v)) (.agg l.toArray) := .agg _ _ (by simp) fun i c x h1 h2 => by
 rw [List.getElem?_map] at h1
 rw [List.getElem?_toArray] at h2
 rw [h2] at h1
 simp only [Option.map_some, Option.some.injEq] at h1
 subst h1
 exact .v _
theorem VR.aggV {C : Ctx} {l : List Value} {v : Value} (h : VR C (.agg (l.map .v)) v) : v = .agg l.toArray := by
 obtain ⟨vs, rfl, hl, hv⟩ := h.aggInv
 congr 1
 apply Array.ext
 ·simpa using hl.symm
 ·intro i h1 h2
  have h3 : i < l.length := by simpa using h2
  have := VR.val (hv i (.v l[i]) vs[i] (by simp [h3]) (by simp [h1]))
  simp [this]
theorem Z2m {C : Ctx} {x y : AV} {v u : Value} (h : VR C x v) (h2 : VR C y u) : VR C (.tup [x, y]) (.tuple #[v, u]) := .tup _ _ rfl fun i c z h3 h4 => by
 match i, h3, h4 with
 | 0, h3, h4 => simp at h3 h4; subst h3 h4; exact h
 | 1, h3, h4 => simp at h3 h4; subst h3 h4; exact h2
 | n + 2, h3, h4 => simp at h3
theorem Z4r {t kt et id : Nat} {p q r : Operand} {key : α} {es : List (α × AV)} {x : AV} (k : Nat) [hu : UD P t (.map kt et)] [hk : FKey P kt kv ks] (hw : Wanted ops s.T o true) (hd : dok o.dst s.n = true)
  (ho : o.op = .mapUpdate t p q r) (hp : ev s.T p = some (.map id)) (hH : s.H[k]? = some (id, .mp (fmp kv es))) (hq : ev s.T q = some (.agg ((kv key).map .v))) (hr : ev s.T r = some x)
  (h : AOps P ro ops rest Q { s with T := put s.T o.dst (.v undef), H := s.H.set k (id, .mp (fmp kv (fput es key x))) }) : AOps P ro ops (o :: rest) Q s := by
 refine Z10 hw ?_
 intro Z C0 H0 w0 C a w hx0 hs
 have hmem := List.mem_of_getElem? hH
 obtain ⟨hu', b, N, ents, clock, hm, hh, hl, hborn, hinj, hrow⟩ := hs.wr.ids _ _ hmem
 have hpv := hs.ev hp
 have hqv := (hs.ev hq).aggV
 have hqk : a.eval q = kagg kv key := hqv
 have hchk := fun b => hk.chk b key w
 have hrun := Z4h (P := P) (kt := kt) (kv := kv) key ents.toList w
 have hl2 : es.length = ents.toList.length := by simpa [fmp] using hl.symm
 have hrv := hs.ev hr
 have hpe : a.eval p = .map (some b) := by
  generalize a.eval p = u at hpv
  cases hpv with
  | map _ b' N' hid _ => rw [hm] at hid; cases hid; rfl
 have hget : (getObj b).run P w = .ok (.map ents clock) w := by simp [getObj, Sem.run, hh]
 have hsetr : ∀ o', (setObj b o').run P w = .ok () (w.putObj b o') := fun o' => by simp [setObj, Sem.run, hh, World.putObj]
 have hlt : b < w.heap.size := (Array.getElem?_eq_some_iff.1 hh).1
 -- behind the store
 have fin : ∀ (ents' : Array MapEntry) (clock' : Nat), (o.semAt ro a.eval).run P w = .ok .skip (w.putObj b (.map ents' clock')) →
   OR C id (w.putObj b (.map ents' clock')) (.mp (fmp kv (fput es key x))) →
   o.uponIn (Wd ro) 0 P a (Sat Z C0 H0 w0 (AOps P ro ops rest Q)) (fun e a' w' => match e with | .panic ch => Sat Z C0 H0 w0 ((fun ch => Q (.panic ch)) ch) a' w' | _ => False) ((o.semAt ro a.eval).run P w) := by
  intro ents' clock' hrun hor
  rw [hrun]
  obtain ⟨hw1, he1⟩ := Z0p (Z := Z) (C' := C) (id' := id) (o' := .mp (fmp kv (fput es key x))) (w' := w.putObj b (.map ents' clock')) hs.wr hH (.refl C) rfl (.inl rfl) hu' (fun _ _ h => h) rfl rfl rfl (by simp)
   (fun b N' hm' => .inl ⟨N', hm'⟩) (fun b2 hb2 hne => World.putObj_heap_other (by rintro rfl; exact hne N hm)) hor
  exact ⟨C, _, h, hs.put he1.le hw1 (Z0k hd) (.v undef), hx0.trans he1⟩
 have hnew : ∀ o', (w.putObj b o').heap[b]? = some o' := fun o' => World.putObj_heap_same hlt
 rcases Z5k (P := P) (kt := kt) (C := C) key w es ents.toList 0 hl2 (fun i a b c => by rw [Array.getElem?_toList]; exact hrow i a b c) with ⟨h1, h2⟩ | ⟨i, y, v, h1, h2, h3, h4, h5, h6⟩
 ·refine fin (ents.push { key := kagg kv key, val := a.eval r, born := clock }) (clock + 1) ?_ ?_
  ·rw [Oper.semAt_eq _ _ _ (by intro c; rw [ho]; nofun)]
   simp [execOp, ho, Instr.mapUpdate, hpe, hqk, Go.run_underlying hu.ud, hget, hchk, hrun, h2, hsetr, Result.andThen, Sem.run_bind]
  ·rw [Z7t es key x h1, show fmp kv (es ++ [(key, x)]) = fmp kv es ++ [(kagg kv key, x)] from by simp [fmp]]
   refine ⟨b, N, _, _, hm, hnew _, by simp [hl], ?_, ?_, ?_⟩
   ·intro i e he
    rw [Array.getElem?_push] at he
    split at he
    ·cases he; simp
    ·have := hborn i e he; omega
   ·intro i j e e' he he' hb
    rw [Array.getElem?_push] at he he'
    split at he <;> split at he'
    ·omega
    ·cases he
     have := hborn j e' he'
     simp only at hb; omega
    ·cases he'
     have := hborn i e he
     simp only at hb; omega
    ·exact hinj i j e e' he he' hb
   ·intro i kk z hz
    rw [List.getElem?_append] at hz
    split at hz
    ·rename_i hlt2
     obtain ⟨e, h7, h8⟩ := hrow i kk z hz
     exact ⟨e, by rw [Array.getElem?_push, if_neg (by omega)]; exact h7, h8⟩
    ·rename_i hge
     have hi : i = (fmp kv es).length := by
      have := Z08 hz; simp at this; omega
     subst hi
     simp at hz
     obtain ⟨rfl, rfl⟩ := hz
     exact ⟨{ key := kagg kv key, val := a.eval r, born := clock }, by rw [Array.getElem?_push, if_pos hl.symm], rfl, hrv⟩
 ·have h5' : (fmp kv es)[i]? = some (kagg kv key, y) := by simp [fmp, h5]
  obtain ⟨e0, he0, hk0, _⟩ := hrow i _ _ h5'
  rw [Nat.zero_add] at h2
  have hki : (((ents[i]?).map (·.key)).getD (kagg kv key)) = kagg kv key := by rw [he0]; simp [hk0]
  refine fin (ents.modify i fun e => { e with key := kagg kv key, val := a.eval r }) clock ?_ ?_
  ·rw [Oper.semAt_eq _ _ _ (by intro c; rw [ho]; nofun)]
   have hks : ∀ w, (Instr.keyThatStays (kagg kv key) (kagg kv key)).run P w = .ok (kagg kv key) w := by
    intro w; simp [Instr.keyThatStays, hk.same key]
   simp only [execOp, ho, Instr.mapUpdate, hpe, hqk, Sem.run_bind, Go.run_underlying hu.ud, hget, hchk, hrun, h2, Result.andThen, Sem.run_pure, hki, hks, hsetr]
  ·rw [h6, show fmp kv (es.set i (key, x)) = (fmp kv es).set i (kagg kv key, x) from by simp [fmp, List.map_set]]
   have hmod : ∀ (j : Nat) (e : MapEntry), (ents.modify i fun e => { e with key := kagg kv key, val := a.eval r })[j]? = some e → ∃ e' : MapEntry, ents[j]? = some e' ∧ e.born = e'.born := by
    intro j e he
    rw [Array.getElem?_modify] at he
    split at he
    ·cases hj : ents[j]? with
     | none => rw [hj] at he; cases he
     | some e' => rw [hj] at he; simp at he; subst he; exact ⟨e', rfl, rfl⟩
    ·exact ⟨e, he, rfl⟩
   refine ⟨b, N, _, _, hm, hnew _, by simp [hl], ?_, ?_, ?_⟩
   ·intro j e he
    obtain ⟨e', h7, h8⟩ := hmod j e he
    rw [h8]; exact hborn j e' h7
   ·intro j1 j2 e e' he he' hb
    obtain ⟨e1, h7, h8⟩ := hmod j1 e he
    obtain ⟨e2, h9, h10⟩ := hmod j2 e' he'
    exact hinj j1 j2 e1 e2 h7 h9 (by rw [← h8, ← h10]; exact hb)
   ·intro j kk z hz
    rw [List.getElem?_set] at hz
    split at hz
    ·rename_i hij
     subst hij
     have hlz := Z08 h5'
     simp only [hlz, if_true, Option.some.injEq, Prod.mk.injEq] at hz
     obtain ⟨rfl, rfl⟩ := hz
     exact ⟨{ e0 with key := kagg kv key, val := a.eval r }, by rw [Array.getElem?_modify, if_pos rfl, he0]; rfl, rfl, hrv⟩
    ·rename_i hij
     obtain ⟨e, h7, h8⟩ := hrow j kk z hz
     exact ⟨e, by rw [Array.getElem?_modify, if_neg hij]; exact h7, h8⟩
end
end Go.Sx
namespace Go.Sx
open Go
section
variable {α : Type} [DecidableEq α] {kv : α → List Value}
structure SetF (kv : α → List Value) (out : List α) (ents : Array MapEntry) (clock : Nat) : Prop where
 key : ents.toList.map (·.key) = out.map (kagg kv)
 born : ∀ e ∈ ents.toList, e.born < clock
 nd : (ents.toList.map (·.born)).Nodup
theorem SetF.keyF {kd : Value → α} (hkd : ∀ a, kd (kagg kv a) = a) {out : List α} {ents : Array MapEntry} {clock : Nat} (h : SetF kv out ents clock) {e : MapEntry} (he : e ∈ ents.toList) : e.key = kagg kv (kd e.key) ∧ kd e.key ∈ out := by
 have h1 : e.key ∈ out.map (kagg kv) := h.key ▸ List.mem_map.2 ⟨e, he, rfl⟩
 obtain ⟨s, hs, hk⟩ := List.mem_map.1 h1
 rw [← hk, hkd]
 exact ⟨rfl, hs⟩
theorem SetF.all {kd : Value → α} (hkd : ∀ a, kd (kagg kv a) = a) {out : List α} {ents : Array MapEntry} {clock : Nat} (h : SetF kv out ents clock) {s : α} (hs : s ∈ out) : ∃ e ∈ ents.toList, kd e.key = s := by
 have h1 : kagg kv s ∈ ents.toList.map (·.key) := h.key ▸ List.mem_map.2 ⟨s, hs, rfl⟩
 obtain ⟨e, he, hk⟩ := List.mem_map.1 h1
 exact ⟨e, he, by rw [hk, hkd]⟩
theorem SetF.keys {kd : Value → α} (hkd : ∀ a, kd (kagg kv a) = a) {out : List α} {ents : Array MapEntry} {clock : Nat} (h : SetF kv out ents clock) : ents.toList.map (fun e => kd e.key) = out := by
 have h1 : ents.toList.map (fun e => kd e.key) = (ents.toList.map (·.key)).map kd := by rw [List.map_map]; rfl
 rw [h1, h.key, List.map_map]
 exact (List.map_congr_left fun s _ => hkd s).trans (List.map_id _)
structure GotF (ents : Array MapEntry) (x : List MapEntry) : Prop where
 sub : ∀ e ∈ x, e ∈ ents.toList
 nd : (x.map (·.born)).Nodup
theorem GotF.start (ents : Array MapEntry) : GotF ents [] := ⟨nofun, List.nodup_nil⟩
theorem GotF.step {ents : Array MapEntry} {x : List MapEntry} {e : MapEntry} (h : GotF ents x) (he : e ∈ (leftOf ents (bornsA x)).toList) : GotF ents (x ++ [e]) :=
 let g := Got.step (out := []) ⟨h.sub, h.nd⟩ he; ⟨g.sub, g.nd⟩
theorem GotF.dec {ents : Array MapEntry} {x : List MapEntry} {e : MapEntry} (he : e ∈ (leftOf ents (bornsA x)).toList) : (leftOf ents (bornsA (x ++ [e]))).size < (leftOf ents (bornsA x)).size := Got.dec (out := []) he
theorem GotF.keys {kd : Value → α} (hkd : ∀ a, kd (kagg kv a) = a) {out : List α} {ents : Array MapEntry} {clock : Nat} (hs : SetF kv out ents clock) (ho : out.Nodup) {x : List MapEntry} (h : GotF ents x) : (x.map (fun e => kd e.key)).Nodup ∧ ∀ s, s ∈ x.map (fun e => kd e.key) → s ∈ out := by
 refine ⟨?_, fun s hsx => ?_⟩
 ·have hk : ∀ a b : MapEntry, a ∈ ents.toList → b ∈ ents.toList → kd a.key = kd b.key → a.born = b.born := by
   intro a b ha hb hab
   obtain ⟨i, hi, rfl⟩ := List.mem_iff_getElem.1 ha
   obtain ⟨j, hj, rfl⟩ := List.mem_iff_getElem.1 hb
   have e1 := hs.keys hkd
   have hnd : (ents.toList.map (fun e => kd e.key)).Nodup := by rw [e1]; exact ho
   have hi' : i < (ents.toList.map (fun e => kd e.key)).length := by simpa using hi
   have hj' : j < (ents.toList.map (fun e => kd e.key)).length := by simpa using hj
   have : i = j := (List.getElem_inj (h₀ := hi') (h₁ := hj') hnd).1 (by simpa using hab)
   subst this; rfl
  have hx := h.nd
  unfold List.Nodup at hx ⊢
  rw [List.pairwise_map] at hx ⊢
  refine List.Pairwise.imp_of_mem ?_ hx
  intro a b ha hb hne hab
  exact hne (hk a b (h.sub a ha) (h.sub b hb) hab)
 ·obtain ⟨e, he, rfl⟩ := List.mem_map.1 hsx
  exact (hs.keyF hkd (h.sub e he)).2
theorem GotF.fin {kd : Value → α} (hkd : ∀ a, kd (kagg kv a) = a) {out : List α} {ents : Array MapEntry} {clock : Nat} (hs : SetF kv out ents clock) (ho : out.Nodup) {x : List MapEntry} (h : GotF ents x) (hz : (leftOf ents (bornsA x)).size = 0) : (x.map (fun e => kd e.key)).Perm out := by
 obtain ⟨h1, h2⟩ := h.keys hkd hs ho
 refine (List.perm_ext_iff_of_nodup h1 ho).2 fun s => ⟨h2 s, fun hso => ?_⟩
 obtain ⟨e, he, rfl⟩ := hs.all hkd hso
 have h3 := bornsA_has.1 (all_seen _ _ hz e he)
 obtain ⟨e', he', hb⟩ := List.mem_map.1 h3
 rw [← born_inj hs.nd (h.sub e' he') he hb]
 exact List.mem_map.2 ⟨e', he', rfl⟩
theorem Zcc {Z : List Nat} {C : Ctx} {H : AHeap} {w : World} {k q : Nat} {es : List (α × AV)} (hw : WR C H w) (hH : H[k]? = some (q, .mp (fmp kv es))) :
  ∃ mb N ents clock, C.m q = some (mb, N) ∧ q ∈ C.U ∧ SetF kv (es.map Prod.fst) ents clock ∧ WR C (H.set k (q, .raw (.map ents clock))) w ∧ Ext Z C H w C (H.set k (q, .raw (.map ents clock))) w := by
 obtain ⟨hu, b, N, ents, clock, hm, hh, hl, hborn, hinj, hrow⟩ := hw.ids _ _ (List.mem_of_getElem? hH)
 have hlen : ents.toList.length = es.length := by rw [Array.length_toList, hl]; simp [fmp]
 obtain ⟨g1, g2⟩ := Z0p (Z := Z) (C' := C) (id' := q) (o' := .raw (.map ents clock)) (w' := w) hw hH (.refl C) rfl (.inl rfl) hu (fun _ _ h => h) rfl rfl rfl (Nat.le_refl _) (fun b N' hm' => .inl ⟨N', hm'⟩) (fun _ _ _ => rfl) ⟨b, N, hm, hh⟩
 refine ⟨b, N, ents, clock, hm, hu, ⟨?_, ?_, ?_⟩, g1, g2⟩
 ·refine List.ext_getElem (by simpa using hlen) fun i h1 h2 => ?_
  have hi : i < es.length := by simpa using h2
  obtain ⟨e, he, hk, _⟩ := hrow i (kagg kv es[i].1) es[i].2 (by simp [fmp, hi])
  rw [← Array.getElem?_toList] at he
  obtain ⟨h3, h4⟩ := List.getElem?_eq_some_iff.1 he
  simp only [List.getElem_map]
  rw [h4, hk]
 ·intro e he
  obtain ⟨i, hi, rfl⟩ := List.mem_iff_getElem.1 he
  exact hborn i _ (by rw [← Array.getElem?_toList, List.getElem?_eq_getElem hi])
 ·unfold List.Nodup
  rw [List.pairwise_map, List.pairwise_iff_getElem]
  intro i j hi hj hlt he
  have := hinj i j _ _ (by rw [← Array.getElem?_toList, List.getElem?_eq_getElem hi]) (by rw [← Array.getElem?_toList, List.getElem?_eq_getElem hj]) he
  omega
def AdmF (out : List α) (l : List α) : Prop := l.Nodup ∧ ∀ s, s ∈ l → s ∈ out
def FinF (out : List α) (l : List α) : Prop := l.Perm out
theorem AdmF.len {out l : List α} (h : AdmF out l) : l.length ≤ out.length := Z12 h.1 h.2
end
end Go.Sx
namespace Go.Sx
open Go
section
variable {P : Program} {ro : Option Nat} {Q : Exit → St → Prop} {s : St} {ops : Array Oper} {o : Oper} {rest : List Oper} {H0 : AHeap} {K : St → Prop} {k : Nat} {M : List (Nat × (Nat × AObj))} {S : List (AHeap × AHeap)} {ws rs : List Nat} {p : Operand} {x : AV}
theorem qS {x y : Code} (h : AWp P ro x (thenQ (AWp P ro y Q) Q) s) : AWp P ro (.seq x y) Q s := Z4 h
theorem qR {id : Nat} {l : List Oper} (h : AOps P ro l.toArray l Q s) : AWp P ro (.region id l.toArray false) Q s := Z0 h
theorem qB {id : Nat} {c : Code} (h : AWp P ro c (blockQ id Q) s) : AWp P ro (.block id c) Q s := Zn h
theorem qK (h : Q .normal s) : AWp P ro .skip Q s := Zi h
theorem qX {i : Nat} (h : Q (.exit i) s) : AWp P ro (.exit i) Q s := Z05 h
theorem qe (he : Eff P o s.T [] x []) (h : AOps P ro ops rest Q { s with T := put s.T o.dst x }) (hg : o.guard = none := by rfl) (hd : dok o.dst s.n = true := by rfl) : AOps P ro ops (o :: rest) Q s := Z5 (w0 hg) hd he h
end
end Go.Sx
namespace Go.Sx
open Go
def pcmp (b : BinOp) (nil : Bool) : Option Bool := match b with | .eql => some nil | .neq => some (!nil) | _ => none
section
variable {P : Program} {T : List (Nat × AV)} {o : Oper}
theorem Zcu {t e : TypeId} (h : P.underlying t = some (.pointer e)) (d : Nat) (x : Option Addr) (w : World) : (Op.equalIn (d + 1) t (.pointer x) (.pointer none)).run P w = .ok x.isNone w := by
 cases x with
 | none => simp [Op.equalIn, Go.run_underlying h, Result.andThen, Sem.run_bind]
 | some a => simp [Op.equalIn, Go.run_underlying h, Result.andThen, Sem.run_bind]
theorem Z7h {b : BinOp} {t t' e : TypeId} {p q : Operand} {z : Bool} [h : UD P t (.pointer e)] (ho : o.op = .binOp b t p q t') (hp : ev T p = some (.v (.pointer none))) (hq : ev T q = some (.v (.pointer none)))
  (hb : pcmp b true = some z) : Eff P o T [] (.v (.bool z)) [] :=
 Z01 (by intro c; rw [ho]; nofun) fun C H a w hw hn hv => by
  have h2 := hv p (by rw [ho]; simp [Op.operands]) _ hp
  have h3 := VR.val (hv q (by rw [ho]; simp [Op.operands]) _ hq)
  obtain ⟨y, hy, hyn⟩ : ∃ y : Option Addr, a.eval p = .pointer y ∧ y.isNone = true := ⟨none, VR.val h2, rfl⟩
  refine ⟨.bool z, ?_, .v _⟩
  have hr := fun d => Zcu h.ud d y w
  cases b <;> simp only [pcmp, Option.some.injEq, reduceCtorEq] at hb <;> subst hb
  ·simp [execOp, ho, hy, h3, eqGuard, binOp, Op.equal, Op.maxDepth, hr 9999, hyn, Result.andThen, Sem.run_bind]
  ·simp [execOp, ho, hy, h3, eqGuard, binOp, Op.equal, Op.maxDepth, hr 9999, hyn, Result.andThen, Sem.run_bind]
theorem Z7i {b : BinOp} {t t' e : TypeId} {p q : Operand} {id sz i c : Nat} {z : Bool} [h : UD P t (.pointer e)] (ho : o.op = .binOp b t p q t') (hp : ev T p = some (.ptr id sz i c)) (hq : ev T q = some (.v (.pointer none)))
  (hb : pcmp b false = some z) : Eff P o T [] (.v (.bool z)) [] :=
 Z01 (by intro c; rw [ho]; nofun) fun C H a w hw hn hv => by
  have h2 := hv p (by rw [ho]; simp [Op.operands]) _ hp
  have h3 := VR.val (hv q (by rw [ho]; simp [Op.operands]) _ hq)
  obtain ⟨y, hy, hyn⟩ : ∃ y : Option Addr, a.eval p = .pointer y ∧ y.isNone = false := by
   generalize a.eval p = u at h2
   cases h2 with
   | ptr _ _ _ _ b' N hid _ => exact ⟨_, rfl, rfl⟩
  refine ⟨.bool z, ?_, .v _⟩
  have hr := fun d => Zcu h.ud d y w
  cases b <;> simp only [pcmp, Option.some.injEq, reduceCtorEq] at hb <;> subst hb
  ·simp [execOp, ho, hy, h3, eqGuard, binOp, Op.equal, Op.maxDepth, hr 9999, hyn, Result.andThen, Sem.run_bind]
  ·simp [execOp, ho, hy, h3, eqGuard, binOp, Op.equal, Op.maxDepth, hr 9999, hyn, Result.andThen, Sem.run_bind]
end
end Go.Sx
namespace Go.Sx
open Go
section
variable {P : Program} {ro : Option Nat} {Q : Exit → St → Prop} {s : St}
end
section
variable {P : Program} {T : List (Nat × AV)} {o : Oper}
theorem Z21 {t t' : TypeId} {p q : Operand} {x y : ByteArray} (ho : o.op = .binOp .add t p q t') (hp : ev T p = some (.v (.string x))) (hq : ev T q = some (.v (.string y))) (hz : x.size + y.size ≤ 9223372036854775807) : Eff P o T [] (.v (.string (x ++ y))) [] :=
 Z01 (by intro c; rw [ho]; nofun) fun C H a w hw hn hv => by
  have h2 := VR.val (hv p (by rw [ho]; simp [Op.operands]) _ hp)
  have h3 := VR.val (hv q (by rw [ho]; simp [Op.operands]) _ hq)
  refine ⟨.string (x ++ y), ?_, .v _⟩
  have hm : ¬ ((x.size + y.size : Nat) : Int) > IntKind.i64.max := by
   have : IntKind.i64.max = 9223372036854775807 := rfl
   omega
  simp [execOp, ho, h2, h3, eqGuard, binOp, Op.stringOp, Sem.run_bind, Result.andThen]
  rw [if_neg (by simpa using hm)]
end
def pull : AHeap → List Nat → Option (AHeap × AHeap)
 | H, [] => some ([], H)
 | H, k :: ks => match H[k]? with
  | some p => match pull (H.eraseIdx k) ks with
   | some (A, B) => some (p :: A, B)
   | none => none
  | none => none
end Go.Sx
namespace Go.Sx
open Go
def ARounds (P : Program) (ro : Option Nat) (c : Code) (Q : Exit → St → Prop) : Nat → St → Prop
 | 0, _ => False
 | m + 1, s => AWp P ro c (thenQ (ARounds P ro c Q m) Q) s
end Go.Sx
namespace Go.Sx
open Go
class Con (P : Program) (f : Nat) (xs : List AV) (x : outParam AV) : Prop where
 c : ACalls P f xs [] (Gives x)
structure Wk (A : Prop) : Prop where
 x : A
theorem wY {ops : Array Oper} {o : Oper} {T : List (Nat × AV)} {g t : Nat} {b : Bool} {og : Oper} (h : o.guard = some (g, b)) (h1 : ops[g]? = some og) (h2 : og.dst = some t) (h3 : lk T t = some (.v (.bool b))) : Wanted ops T o true := by
 cases b
 ·exact wF h h1 h2 h3
 ·exact wT h h1 h2 h3
theorem wZ {ops : Array Oper} {o : Oper} {T : List (Nat × AV)} {g t : Nat} {b : Bool} {og : Oper} (h : o.guard = some (g, b)) (h1 : ops[g]? = some og) (h2 : og.dst = some t) (h3 : lk T t = some (.v (.bool (!b)))) : Wanted ops T o false := by
 cases b
 ·exact wF h h1 h2 h3
 ·exact wT h h1 h2 h3
section
variable {P : Program} {t : TypeId} {r : List AV}
theorem Ze0 {x1 x2 : AV} [h : TK P t true 2] : Ld P t (x1 :: x2 :: r) (.agg [x1, x2]) := .inr ⟨2, h.tk, by simp, rfl⟩
theorem Z3a {x1 x2 x3 : AV} [h : TK P t true 3] : Ld P t (x1 :: x2 :: x3 :: r) (.agg [x1, x2, x3]) := .inr ⟨3, h.tk, by simp, rfl⟩
theorem Ze1 {x1 x2 x3 x4 : AV} [h : TK P t true 4] : Ld P t (x1 :: x2 :: x3 :: x4 :: r) (.agg [x1, x2, x3, x4]) := .inr ⟨4, h.tk, by simp, rfl⟩
theorem Ze2 {x1 x2 x3 x4 x5 : AV} [h : TK P t true 5] : Ld P t (x1 :: x2 :: x3 :: x4 :: x5 :: r) (.agg [x1, x2, x3, x4, x5]) := .inr ⟨5, h.tk, by simp, rfl⟩
theorem Zc4 {x1 x2 x3 x4 x5 x6 x7 : AV} [h : TK P t true 7] : Ld P t (x1 :: x2 :: x3 :: x4 :: x5 :: x6 :: x7 :: r) (.agg [x1, x2, x3, x4, x5, x6, x7]) := .inr ⟨7, h.tk, by simp, rfl⟩
end
def maskOf (ms : List Nat) (o : Oper) : Nat := o.after.foldl (fun m e => bif Region.binds .any e then m ||| (1 <<< e.on) ||| ms.getD e.on 0 else m) 0
def masksOf (l : List Oper) : List Nat := l.foldl (fun ms o => ms ++ [maskOf ms o]) []
section
variable {P : Program} {ro : Option Nat} {Q : Exit → St → Prop} {ops : Array Oper} {rest : List Oper} {T : List (Nat × AV)} {H : AHeap} {D : List Nat} {n d ty : Nat} {po : String} {af : Array Edge} {p q : Operand} {x y : AV} {t t' : TypeId} {H0 : AHeap} {KK : St → Prop} {kk : Nat} {M : List (Nat × (Nat × AObj))}
theorem zM  (h : AOps P ro ops rest Q ⟨(d, x) :: T, H, D, n⟩) (hp : ev T p = some x := by rfl) (hd : Nat.blt d n = true := by rfl) : AOps P ro ops ({ dst := some d, op := .move p, type := ty, pos := po, after := af, guard := none } :: rest) Q ⟨T, H, D, n⟩ := Z5 (w0 rfl) hd (Z7 rfl hp) h
theorem zcM  (h : Calm P ops H0 KK (kk + 1) rest M ⟨(d, x) :: T, H, D, n⟩) (hp : ev T p = some x := by rfl) (hd : Nat.blt d n = true := by rfl) : Calm P ops H0 KK kk ({ dst := some d, op := .move p, type := ty, pos := po, after := af, guard := none } :: rest) M ⟨T, H, D, n⟩ := Za (w0 rfl) hd (Z7 rfl hp) h
theorem Ziq  {g gt : Nat} {gb : Bool} {og : Oper} (h : Calm P ops H0 KK (kk + 1) rest M ⟨(d, x) :: T, H, D, n⟩) (g1 : ops[g]? = some og := by rfl) (g2 : og.dst = some gt := by rfl) (g3 : lk T gt = some (.v (.bool gb)) := by rfl) (hp : ev T p = some x := by rfl) (hd : Nat.blt d n = true := by rfl) : Calm P ops H0 KK kk ({ dst := some d, op := .move p, type := ty, pos := po, after := af, guard := some (g, gb) } :: rest) M ⟨T, H, D, n⟩ := Za (wY rfl g1 g2 g3) hd (Z7 rfl hp) h
theorem zgM  {g gt : Nat} {gb : Bool} {og : Oper} (h : AOps P ro ops rest Q ⟨(d, x) :: T, H, D, n⟩) (g1 : ops[g]? = some og := by rfl) (g2 : og.dst = some gt := by rfl) (g3 : lk T gt = some (.v (.bool gb)) := by rfl) (hp : ev T p = some x := by rfl) (hd : Nat.blt d n = true := by rfl) : AOps P ro ops ({ dst := some d, op := .move p, type := ty, pos := po, after := af, guard := some (g, gb) } :: rest) Q ⟨T, H, D, n⟩ := Z5 (wY rfl g1 g2 g3) hd (Z7 rfl hp) h
theorem zA  (h : AOps P ro ops rest Q ⟨(d, x) :: T, H, D, n⟩) (hp : ev T p = some x := by rfl) (hd : Nat.blt d n = true := by rfl) : AOps P ro ops ({ dst := some d, op := .assign p, type := ty, pos := po, after := af, guard := none } :: rest) Q ⟨T, H, D, n⟩ := Z5 (w0 rfl) hd (Zp rfl hp) h
theorem zcA  (h : Calm P ops H0 KK (kk + 1) rest M ⟨(d, x) :: T, H, D, n⟩) (hp : ev T p = some x := by rfl) (hd : Nat.blt d n = true := by rfl) : Calm P ops H0 KK kk ({ dst := some d, op := .assign p, type := ty, pos := po, after := af, guard := none } :: rest) M ⟨T, H, D, n⟩ := Za (w0 rfl) hd (Zp rfl hp) h
theorem Zik  {g gt : Nat} {gb : Bool} {og : Oper} (h : Calm P ops H0 KK (kk + 1) rest M ⟨(d, x) :: T, H, D, n⟩) (g1 : ops[g]? = some og := by rfl) (g2 : og.dst = some gt := by rfl) (g3 : lk T gt = some (.v (.bool gb)) := by rfl) (hp : ev T p = some x := by rfl) (hd : Nat.blt d n = true := by rfl) : Calm P ops H0 KK kk ({ dst := some d, op := .assign p, type := ty, pos := po, after := af, guard := some (g, gb) } :: rest) M ⟨T, H, D, n⟩ := Za (wY rfl g1 g2 g3) hd (Zp rfl hp) h
theorem zgA  {g gt : Nat} {gb : Bool} {og : Oper} (h : AOps P ro ops rest Q ⟨(d, x) :: T, H, D, n⟩) (g1 : ops[g]? = some og := by rfl) (g2 : og.dst = some gt := by rfl) (g3 : lk T gt = some (.v (.bool gb)) := by rfl) (hp : ev T p = some x := by rfl) (hd : Nat.blt d n = true := by rfl) : AOps P ro ops ({ dst := some d, op := .assign p, type := ty, pos := po, after := af, guard := some (g, gb) } :: rest) Q ⟨T, H, D, n⟩ := Z5 (wY rfl g1 g2 g3) hd (Zp rfl hp) h
theorem zI {b : BinOp} {k : IntKind} {u v : Int} {z : Bool} (h : AOps P ro ops rest Q ⟨(d, .v (.bool z)) :: T, H, D, n⟩) (hp : ev T p = some (.v (.int k u)) := by rfl) (hq : ev T q = some (.v (.int k v)) := by rfl) (hz : icmp b u v = some z := by rfl) (hd : Nat.blt d n = true := by rfl) : AOps P ro ops ({ dst := some d, op := .binOp b t p q t', type := ty, pos := po, after := af, guard := none } :: rest) Q ⟨T, H, D, n⟩ := Z5 (w0 rfl) hd (Zb rfl hp hq hz) h
theorem zcI {b : BinOp} {k : IntKind} {u v : Int} {z : Bool} (h : Calm P ops H0 KK (kk + 1) rest M ⟨(d, .v (.bool z)) :: T, H, D, n⟩) (hp : ev T p = some (.v (.int k u)) := by rfl) (hq : ev T q = some (.v (.int k v)) := by rfl) (hz : icmp b u v = some z := by rfl) (hd : Nat.blt d n = true := by rfl) : Calm P ops H0 KK kk ({ dst := some d, op := .binOp b t p q t', type := ty, pos := po, after := af, guard := none } :: rest) M ⟨T, H, D, n⟩ := Za (w0 rfl) hd (Zb rfl hp hq hz) h
theorem Zim {b : BinOp} {k : IntKind} {u v : Int} {z : Bool} {g gt : Nat} {gb : Bool} {og : Oper} (h : Calm P ops H0 KK (kk + 1) rest M ⟨(d, .v (.bool z)) :: T, H, D, n⟩) (g1 : ops[g]? = some og := by rfl) (g2 : og.dst = some gt := by rfl) (g3 : lk T gt = some (.v (.bool gb)) := by rfl) (hp : ev T p = some (.v (.int k u)) := by rfl) (hq : ev T q = some (.v (.int k v)) := by rfl) (hz : icmp b u v = some z := by rfl) (hd : Nat.blt d n = true := by rfl) : Calm P ops H0 KK kk ({ dst := some d, op := .binOp b t p q t', type := ty, pos := po, after := af, guard := some (g, gb) } :: rest) M ⟨T, H, D, n⟩ := Za (wY rfl g1 g2 g3) hd (Zb rfl hp hq hz) h
theorem zgI {b : BinOp} {k : IntKind} {u v : Int} {z : Bool} {g gt : Nat} {gb : Bool} {og : Oper} (h : AOps P ro ops rest Q ⟨(d, .v (.bool z)) :: T, H, D, n⟩) (g1 : ops[g]? = some og := by rfl) (g2 : og.dst = some gt := by rfl) (g3 : lk T gt = some (.v (.bool gb)) := by rfl) (hp : ev T p = some (.v (.int k u)) := by rfl) (hq : ev T q = some (.v (.int k v)) := by rfl) (hz : icmp b u v = some z := by rfl) (hd : Nat.blt d n = true := by rfl) : AOps P ro ops ({ dst := some d, op := .binOp b t p q t', type := ty, pos := po, after := af, guard := some (g, gb) } :: rest) Q ⟨T, H, D, n⟩ := Z5 (wY rfl g1 g2 g3) hd (Zb rfl hp hq hz) h
theorem zU {b : BinOp} {u v : ByteArray} {z : Bool} (h : AOps P ro ops rest Q ⟨(d, .v (.bool z)) :: T, H, D, n⟩) (hp : ev T p = some (.v (.string u)) := by rfl) (hq : ev T q = some (.v (.string v)) := by rfl) (hz : scmp b u v = some z := by rfl) (hd : Nat.blt d n = true := by rfl) : AOps P ro ops ({ dst := some d, op := .binOp b t p q t', type := ty, pos := po, after := af, guard := none } :: rest) Q ⟨T, H, D, n⟩ := Z5 (w0 rfl) hd (Z0v rfl hp hq hz) h
theorem zcU {b : BinOp} {u v : ByteArray} {z : Bool} (h : Calm P ops H0 KK (kk + 1) rest M ⟨(d, .v (.bool z)) :: T, H, D, n⟩) (hp : ev T p = some (.v (.string u)) := by rfl) (hq : ev T q = some (.v (.string v)) := by rfl) (hz : scmp b u v = some z := by rfl) (hd : Nat.blt d n = true := by rfl) : Calm P ops H0 KK kk ({ dst := some d, op := .binOp b t p q t', type := ty, pos := po, after := af, guard := none } :: rest) M ⟨T, H, D, n⟩ := Za (w0 rfl) hd (Z0v rfl hp hq hz) h
theorem Zis {b : BinOp} {u v : ByteArray} {z : Bool} {g gt : Nat} {gb : Bool} {og : Oper} (h : Calm P ops H0 KK (kk + 1) rest M ⟨(d, .v (.bool z)) :: T, H, D, n⟩) (g1 : ops[g]? = some og := by rfl) (g2 : og.dst = some gt := by rfl) (g3 : lk T gt = some (.v (.bool gb)) := by rfl) (hp : ev T p = some (.v (.string u)) := by rfl) (hq : ev T q = some (.v (.string v)) := by rfl) (hz : scmp b u v = some z := by rfl) (hd : Nat.blt d n = true := by rfl) : Calm P ops H0 KK kk ({ dst := some d, op := .binOp b t p q t', type := ty, pos := po, after := af, guard := some (g, gb) } :: rest) M ⟨T, H, D, n⟩ := Za (wY rfl g1 g2 g3) hd (Z0v rfl hp hq hz) h
theorem zgU {b : BinOp} {u v : ByteArray} {z : Bool} {g gt : Nat} {gb : Bool} {og : Oper} (h : AOps P ro ops rest Q ⟨(d, .v (.bool z)) :: T, H, D, n⟩) (g1 : ops[g]? = some og := by rfl) (g2 : og.dst = some gt := by rfl) (g3 : lk T gt = some (.v (.bool gb)) := by rfl) (hp : ev T p = some (.v (.string u)) := by rfl) (hq : ev T q = some (.v (.string v)) := by rfl) (hz : scmp b u v = some z := by rfl) (hd : Nat.blt d n = true := by rfl) : AOps P ro ops ({ dst := some d, op := .binOp b t p q t', type := ty, pos := po, after := af, guard := some (g, gb) } :: rest) Q ⟨T, H, D, n⟩ := Z5 (wY rfl g1 g2 g3) hd (Z0v rfl hp hq hz) h
theorem zUt {b : BinOp} {u v : ByteArray} (h : AOps P ro ops rest Q ⟨(d, .v (.bool true)) :: T, H, D, n⟩) (hp : ev T p = some (.v (.string u)) := by rfl) (hq : ev T q = some (.v (.string v)) := by rfl) (hz : scmp b u v = some true := by decide +kernel) (hd : Nat.blt d n = true := by rfl) : AOps P ro ops ({ dst := some d, op := .binOp b t p q t', type := ty, pos := po, after := af, guard := none } :: rest) Q ⟨T, H, D, n⟩ := Z5 (w0 rfl) hd (Z0v rfl hp hq hz) h
theorem Zij {b : BinOp} {u v : ByteArray} (h : Calm P ops H0 KK (kk + 1) rest M ⟨(d, .v (.bool true)) :: T, H, D, n⟩) (hp : ev T p = some (.v (.string u)) := by rfl) (hq : ev T q = some (.v (.string v)) := by rfl) (hz : scmp b u v = some true := by decide +kernel) (hd : Nat.blt d n = true := by rfl) : Calm P ops H0 KK kk ({ dst := some d, op := .binOp b t p q t', type := ty, pos := po, after := af, guard := none } :: rest) M ⟨T, H, D, n⟩ := Za (w0 rfl) hd (Z0v rfl hp hq hz) h
theorem Zhb {b : BinOp} {u v : ByteArray} {g gt : Nat} {gb : Bool} {og : Oper} (h : Calm P ops H0 KK (kk + 1) rest M ⟨(d, .v (.bool true)) :: T, H, D, n⟩) (g1 : ops[g]? = some og := by rfl) (g2 : og.dst = some gt := by rfl) (g3 : lk T gt = some (.v (.bool gb)) := by rfl) (hp : ev T p = some (.v (.string u)) := by rfl) (hq : ev T q = some (.v (.string v)) := by rfl) (hz : scmp b u v = some true := by decide +kernel) (hd : Nat.blt d n = true := by rfl) : Calm P ops H0 KK kk ({ dst := some d, op := .binOp b t p q t', type := ty, pos := po, after := af, guard := some (g, gb) } :: rest) M ⟨T, H, D, n⟩ := Za (wY rfl g1 g2 g3) hd (Z0v rfl hp hq hz) h
theorem Zjg {b : BinOp} {u v : ByteArray} {g gt : Nat} {gb : Bool} {og : Oper} (h : AOps P ro ops rest Q ⟨(d, .v (.bool true)) :: T, H, D, n⟩) (g1 : ops[g]? = some og := by rfl) (g2 : og.dst = some gt := by rfl) (g3 : lk T gt = some (.v (.bool gb)) := by rfl) (hp : ev T p = some (.v (.string u)) := by rfl) (hq : ev T q = some (.v (.string v)) := by rfl) (hz : scmp b u v = some true := by decide +kernel) (hd : Nat.blt d n = true := by rfl) : AOps P ro ops ({ dst := some d, op := .binOp b t p q t', type := ty, pos := po, after := af, guard := some (g, gb) } :: rest) Q ⟨T, H, D, n⟩ := Z5 (wY rfl g1 g2 g3) hd (Z0v rfl hp hq hz) h
theorem zUf {b : BinOp} {u v : ByteArray} (h : AOps P ro ops rest Q ⟨(d, .v (.bool false)) :: T, H, D, n⟩) (hp : ev T p = some (.v (.string u)) := by rfl) (hq : ev T q = some (.v (.string v)) := by rfl) (hz : scmp b u v = some false := by decide +kernel) (hd : Nat.blt d n = true := by rfl) : AOps P ro ops ({ dst := some d, op := .binOp b t p q t', type := ty, pos := po, after := af, guard := none } :: rest) Q ⟨T, H, D, n⟩ := Z5 (w0 rfl) hd (Z0v rfl hp hq hz) h
theorem Zii {b : BinOp} {u v : ByteArray} (h : Calm P ops H0 KK (kk + 1) rest M ⟨(d, .v (.bool false)) :: T, H, D, n⟩) (hp : ev T p = some (.v (.string u)) := by rfl) (hq : ev T q = some (.v (.string v)) := by rfl) (hz : scmp b u v = some false := by decide +kernel) (hd : Nat.blt d n = true := by rfl) : Calm P ops H0 KK kk ({ dst := some d, op := .binOp b t p q t', type := ty, pos := po, after := af, guard := none } :: rest) M ⟨T, H, D, n⟩ := Za (w0 rfl) hd (Z0v rfl hp hq hz) h
theorem Zha {b : BinOp} {u v : ByteArray} {g gt : Nat} {gb : Bool} {og : Oper} (h : Calm P ops H0 KK (kk + 1) rest M ⟨(d, .v (.bool false)) :: T, H, D, n⟩) (g1 : ops[g]? = some og := by rfl) (g2 : og.dst = some gt := by rfl) (g3 : lk T gt = some (.v (.bool gb)) := by rfl) (hp : ev T p = some (.v (.string u)) := by rfl) (hq : ev T q = some (.v (.string v)) := by rfl) (hz : scmp b u v = some false := by decide +kernel) (hd : Nat.blt d n = true := by rfl) : Calm P ops H0 KK kk ({ dst := some d, op := .binOp b t p q t', type := ty, pos := po, after := af, guard := some (g, gb) } :: rest) M ⟨T, H, D, n⟩ := Za (wY rfl g1 g2 g3) hd (Z0v rfl hp hq hz) h
theorem Zjf {b : BinOp} {u v : ByteArray} {g gt : Nat} {gb : Bool} {og : Oper} (h : AOps P ro ops rest Q ⟨(d, .v (.bool false)) :: T, H, D, n⟩) (g1 : ops[g]? = some og := by rfl) (g2 : og.dst = some gt := by rfl) (g3 : lk T gt = some (.v (.bool gb)) := by rfl) (hp : ev T p = some (.v (.string u)) := by rfl) (hq : ev T q = some (.v (.string v)) := by rfl) (hz : scmp b u v = some false := by decide +kernel) (hd : Nat.blt d n = true := by rfl) : AOps P ro ops ({ dst := some d, op := .binOp b t p q t', type := ty, pos := po, after := af, guard := some (g, gb) } :: rest) Q ⟨T, H, D, n⟩ := Z5 (wY rfl g1 g2 g3) hd (Z0v rfl hp hq hz) h
theorem zK {b : BinOp} {z : Bool} {e : Nat} (h : AOps P ro ops rest Q ⟨(d, .v (.bool z)) :: T, H, D, n⟩) (hp : ev T p = some (.v (.pointer none)) := by rfl) (hq : ev T q = some (.v (.pointer none)) := by rfl) (hb : pcmp b true = some z := by rfl) [hu : UD P t (.pointer e)] (hd : Nat.blt d n = true := by rfl) : AOps P ro ops ({ dst := some d, op := .binOp b t p q t', type := ty, pos := po, after := af, guard := none } :: rest) Q ⟨T, H, D, n⟩ := Z5 (w0 rfl) hd (Z7h rfl hp hq hb) h
theorem zcK {b : BinOp} {z : Bool} {e : Nat} (h : Calm P ops H0 KK (kk + 1) rest M ⟨(d, .v (.bool z)) :: T, H, D, n⟩) (hp : ev T p = some (.v (.pointer none)) := by rfl) (hq : ev T q = some (.v (.pointer none)) := by rfl) (hb : pcmp b true = some z := by rfl) [hu : UD P t (.pointer e)] (hd : Nat.blt d n = true := by rfl) : Calm P ops H0 KK kk ({ dst := some d, op := .binOp b t p q t', type := ty, pos := po, after := af, guard := none } :: rest) M ⟨T, H, D, n⟩ := Za (w0 rfl) hd (Z7h rfl hp hq hb) h
theorem Zio {b : BinOp} {z : Bool} {e : Nat} {g gt : Nat} {gb : Bool} {og : Oper} (h : Calm P ops H0 KK (kk + 1) rest M ⟨(d, .v (.bool z)) :: T, H, D, n⟩) (g1 : ops[g]? = some og := by rfl) (g2 : og.dst = some gt := by rfl) (g3 : lk T gt = some (.v (.bool gb)) := by rfl) (hp : ev T p = some (.v (.pointer none)) := by rfl) (hq : ev T q = some (.v (.pointer none)) := by rfl) (hb : pcmp b true = some z := by rfl) [hu : UD P t (.pointer e)] (hd : Nat.blt d n = true := by rfl) : Calm P ops H0 KK kk ({ dst := some d, op := .binOp b t p q t', type := ty, pos := po, after := af, guard := some (g, gb) } :: rest) M ⟨T, H, D, n⟩ := Za (wY rfl g1 g2 g3) hd (Z7h rfl hp hq hb) h
theorem zgK {b : BinOp} {z : Bool} {e : Nat} {g gt : Nat} {gb : Bool} {og : Oper} (h : AOps P ro ops rest Q ⟨(d, .v (.bool z)) :: T, H, D, n⟩) (g1 : ops[g]? = some og := by rfl) (g2 : og.dst = some gt := by rfl) (g3 : lk T gt = some (.v (.bool gb)) := by rfl) (hp : ev T p = some (.v (.pointer none)) := by rfl) (hq : ev T q = some (.v (.pointer none)) := by rfl) (hb : pcmp b true = some z := by rfl) [hu : UD P t (.pointer e)] (hd : Nat.blt d n = true := by rfl) : AOps P ro ops ({ dst := some d, op := .binOp b t p q t', type := ty, pos := po, after := af, guard := some (g, gb) } :: rest) Q ⟨T, H, D, n⟩ := Z5 (wY rfl g1 g2 g3) hd (Z7h rfl hp hq hb) h
theorem zJ {b : BinOp} {z : Bool} {e id sz i c : Nat} (h : AOps P ro ops rest Q ⟨(d, .v (.bool z)) :: T, H, D, n⟩) (hp : ev T p = some (.ptr id sz i c) := by rfl) (hq : ev T q = some (.v (.pointer none)) := by rfl) (hb : pcmp b false = some z := by rfl) [hu : UD P t (.pointer e)] (hd : Nat.blt d n = true := by rfl) : AOps P ro ops ({ dst := some d, op := .binOp b t p q t', type := ty, pos := po, after := af, guard := none } :: rest) Q ⟨T, H, D, n⟩ := Z5 (w0 rfl) hd (Z7i rfl hp hq hb) h
theorem zcJ {b : BinOp} {z : Bool} {e id sz i c : Nat} (h : Calm P ops H0 KK (kk + 1) rest M ⟨(d, .v (.bool z)) :: T, H, D, n⟩) (hp : ev T p = some (.ptr id sz i c) := by rfl) (hq : ev T q = some (.v (.pointer none)) := by rfl) (hb : pcmp b false = some z := by rfl) [hu : UD P t (.pointer e)] (hd : Nat.blt d n = true := by rfl) : Calm P ops H0 KK kk ({ dst := some d, op := .binOp b t p q t', type := ty, pos := po, after := af, guard := none } :: rest) M ⟨T, H, D, n⟩ := Za (w0 rfl) hd (Z7i rfl hp hq hb) h
theorem Zin {b : BinOp} {z : Bool} {e id sz i c : Nat} {g gt : Nat} {gb : Bool} {og : Oper} (h : Calm P ops H0 KK (kk + 1) rest M ⟨(d, .v (.bool z)) :: T, H, D, n⟩) (g1 : ops[g]? = some og := by rfl) (g2 : og.dst = some gt := by rfl) (g3 : lk T gt = some (.v (.bool gb)) := by rfl) (hp : ev T p = some (.ptr id sz i c) := by rfl) (hq : ev T q = some (.v (.pointer none)) := by rfl) (hb : pcmp b false = some z := by rfl) [hu : UD P t (.pointer e)] (hd : Nat.blt d n = true := by rfl) : Calm P ops H0 KK kk ({ dst := some d, op := .binOp b t p q t', type := ty, pos := po, after := af, guard := some (g, gb) } :: rest) M ⟨T, H, D, n⟩ := Za (wY rfl g1 g2 g3) hd (Z7i rfl hp hq hb) h
theorem zgJ {b : BinOp} {z : Bool} {e id sz i c : Nat} {g gt : Nat} {gb : Bool} {og : Oper} (h : AOps P ro ops rest Q ⟨(d, .v (.bool z)) :: T, H, D, n⟩) (g1 : ops[g]? = some og := by rfl) (g2 : og.dst = some gt := by rfl) (g3 : lk T gt = some (.v (.bool gb)) := by rfl) (hp : ev T p = some (.ptr id sz i c) := by rfl) (hq : ev T q = some (.v (.pointer none)) := by rfl) (hb : pcmp b false = some z := by rfl) [hu : UD P t (.pointer e)] (hd : Nat.blt d n = true := by rfl) : AOps P ro ops ({ dst := some d, op := .binOp b t p q t', type := ty, pos := po, after := af, guard := some (g, gb) } :: rest) Q ⟨T, H, D, n⟩ := Z5 (wY rfl g1 g2 g3) hd (Z7i rfl hp hq hb) h
theorem zP {u v : Int} (h : AOps P ro ops rest Q ⟨(d, .v (.int .i64 (u + v))) :: T, H, D, n⟩) (hp : ev T p = some (.v (.int .i64 u)) := by rfl) (hq : ev T q = some (.v (.int .i64 v)) := by rfl) (hz : -9223372036854775808 ≤ u + v ∧ u + v ≤ 9223372036854775807 := by first | omega | decide +kernel) (hd : Nat.blt d n = true := by rfl) : AOps P ro ops ({ dst := some d, op := .binOp .add t p q t', type := ty, pos := po, after := af, guard := none } :: rest) Q ⟨T, H, D, n⟩ := Z5 (w0 rfl) hd (Z6 rfl hp hq (Z9 hz)) h
theorem zcP {u v : Int} (h : Calm P ops H0 KK (kk + 1) rest M ⟨(d, .v (.int .i64 (u + v))) :: T, H, D, n⟩) (hp : ev T p = some (.v (.int .i64 u)) := by rfl) (hq : ev T q = some (.v (.int .i64 v)) := by rfl) (hz : -9223372036854775808 ≤ u + v ∧ u + v ≤ 9223372036854775807 := by first | omega | decide +kernel) (hd : Nat.blt d n = true := by rfl) : Calm P ops H0 KK kk ({ dst := some d, op := .binOp .add t p q t', type := ty, pos := po, after := af, guard := none } :: rest) M ⟨T, H, D, n⟩ := Za (w0 rfl) hd (Z6 rfl hp hq (Z9 hz)) h
theorem Zir {u v : Int} {g gt : Nat} {gb : Bool} {og : Oper} (h : Calm P ops H0 KK (kk + 1) rest M ⟨(d, .v (.int .i64 (u + v))) :: T, H, D, n⟩) (g1 : ops[g]? = some og := by rfl) (g2 : og.dst = some gt := by rfl) (g3 : lk T gt = some (.v (.bool gb)) := by rfl) (hp : ev T p = some (.v (.int .i64 u)) := by rfl) (hq : ev T q = some (.v (.int .i64 v)) := by rfl) (hz : -9223372036854775808 ≤ u + v ∧ u + v ≤ 9223372036854775807 := by first | omega | decide +kernel) (hd : Nat.blt d n = true := by rfl) : Calm P ops H0 KK kk ({ dst := some d, op := .binOp .add t p q t', type := ty, pos := po, after := af, guard := some (g, gb) } :: rest) M ⟨T, H, D, n⟩ := Za (wY rfl g1 g2 g3) hd (Z6 rfl hp hq (Z9 hz)) h
theorem zgP {u v : Int} {g gt : Nat} {gb : Bool} {og : Oper} (h : AOps P ro ops rest Q ⟨(d, .v (.int .i64 (u + v))) :: T, H, D, n⟩) (g1 : ops[g]? = some og := by rfl) (g2 : og.dst = some gt := by rfl) (g3 : lk T gt = some (.v (.bool gb)) := by rfl) (hp : ev T p = some (.v (.int .i64 u)) := by rfl) (hq : ev T q = some (.v (.int .i64 v)) := by rfl) (hz : -9223372036854775808 ≤ u + v ∧ u + v ≤ 9223372036854775807 := by first | omega | decide +kernel) (hd : Nat.blt d n = true := by rfl) : AOps P ro ops ({ dst := some d, op := .binOp .add t p q t', type := ty, pos := po, after := af, guard := some (g, gb) } :: rest) Q ⟨T, H, D, n⟩ := Z5 (wY rfl g1 g2 g3) hd (Z6 rfl hp hq (Z9 hz)) h
theorem zL {u v : Int} (h : AOps P ro ops rest Q ⟨(d, .v (.int .i64 (u - v))) :: T, H, D, n⟩) (hp : ev T p = some (.v (.int .i64 u)) := by rfl) (hq : ev T q = some (.v (.int .i64 v)) := by rfl) (hz : -9223372036854775808 ≤ u - v ∧ u - v ≤ 9223372036854775807 := by first | omega | decide +kernel) (hd : Nat.blt d n = true := by rfl) : AOps P ro ops ({ dst := some d, op := .binOp .sub t p q t', type := ty, pos := po, after := af, guard := none } :: rest) Q ⟨T, H, D, n⟩ := Z5 (w0 rfl) hd (Z6 rfl hp hq (Zd hz)) h
theorem zcL {u v : Int} (h : Calm P ops H0 KK (kk + 1) rest M ⟨(d, .v (.int .i64 (u - v))) :: T, H, D, n⟩) (hp : ev T p = some (.v (.int .i64 u)) := by rfl) (hq : ev T q = some (.v (.int .i64 v)) := by rfl) (hz : -9223372036854775808 ≤ u - v ∧ u - v ≤ 9223372036854775807 := by first | omega | decide +kernel) (hd : Nat.blt d n = true := by rfl) : Calm P ops H0 KK kk ({ dst := some d, op := .binOp .sub t p q t', type := ty, pos := po, after := af, guard := none } :: rest) M ⟨T, H, D, n⟩ := Za (w0 rfl) hd (Z6 rfl hp hq (Zd hz)) h
theorem Zip {u v : Int} {g gt : Nat} {gb : Bool} {og : Oper} (h : Calm P ops H0 KK (kk + 1) rest M ⟨(d, .v (.int .i64 (u - v))) :: T, H, D, n⟩) (g1 : ops[g]? = some og := by rfl) (g2 : og.dst = some gt := by rfl) (g3 : lk T gt = some (.v (.bool gb)) := by rfl) (hp : ev T p = some (.v (.int .i64 u)) := by rfl) (hq : ev T q = some (.v (.int .i64 v)) := by rfl) (hz : -9223372036854775808 ≤ u - v ∧ u - v ≤ 9223372036854775807 := by first | omega | decide +kernel) (hd : Nat.blt d n = true := by rfl) : Calm P ops H0 KK kk ({ dst := some d, op := .binOp .sub t p q t', type := ty, pos := po, after := af, guard := some (g, gb) } :: rest) M ⟨T, H, D, n⟩ := Za (wY rfl g1 g2 g3) hd (Z6 rfl hp hq (Zd hz)) h
theorem zgL {u v : Int} {g gt : Nat} {gb : Bool} {og : Oper} (h : AOps P ro ops rest Q ⟨(d, .v (.int .i64 (u - v))) :: T, H, D, n⟩) (g1 : ops[g]? = some og := by rfl) (g2 : og.dst = some gt := by rfl) (g3 : lk T gt = some (.v (.bool gb)) := by rfl) (hp : ev T p = some (.v (.int .i64 u)) := by rfl) (hq : ev T q = some (.v (.int .i64 v)) := by rfl) (hz : -9223372036854775808 ≤ u - v ∧ u - v ≤ 9223372036854775807 := by first | omega | decide +kernel) (hd : Nat.blt d n = true := by rfl) : AOps P ro ops ({ dst := some d, op := .binOp .sub t p q t', type := ty, pos := po, after := af, guard := some (g, gb) } :: rest) Q ⟨T, H, D, n⟩ := Z5 (wY rfl g1 g2 g3) hd (Z6 rfl hp hq (Zd hz)) h
theorem zNt {u : Bool} (h : AOps P ro ops rest Q ⟨(d, .v (.bool (!u))) :: T, H, D, n⟩) (hp : ev T p = some (.v (.bool u)) := by rfl) (hd : Nat.blt d n = true := by rfl) : AOps P ro ops ({ dst := some d, op := .unOp .not t p, type := ty, pos := po, after := af, guard := none } :: rest) Q ⟨T, H, D, n⟩ := Z5 (w0 rfl) hd (Z0m rfl hp) h
theorem Zie {u : Bool} (h : Calm P ops H0 KK (kk + 1) rest M ⟨(d, .v (.bool (!u))) :: T, H, D, n⟩) (hp : ev T p = some (.v (.bool u)) := by rfl) (hd : Nat.blt d n = true := by rfl) : Calm P ops H0 KK kk ({ dst := some d, op := .unOp .not t p, type := ty, pos := po, after := af, guard := none } :: rest) M ⟨T, H, D, n⟩ := Za (w0 rfl) hd (Z0m rfl hp) h
theorem Zh6 {u : Bool} {g gt : Nat} {gb : Bool} {og : Oper} (h : Calm P ops H0 KK (kk + 1) rest M ⟨(d, .v (.bool (!u))) :: T, H, D, n⟩) (g1 : ops[g]? = some og := by rfl) (g2 : og.dst = some gt := by rfl) (g3 : lk T gt = some (.v (.bool gb)) := by rfl) (hp : ev T p = some (.v (.bool u)) := by rfl) (hd : Nat.blt d n = true := by rfl) : Calm P ops H0 KK kk ({ dst := some d, op := .unOp .not t p, type := ty, pos := po, after := af, guard := some (g, gb) } :: rest) M ⟨T, H, D, n⟩ := Za (wY rfl g1 g2 g3) hd (Z0m rfl hp) h
theorem Zjb {u : Bool} {g gt : Nat} {gb : Bool} {og : Oper} (h : AOps P ro ops rest Q ⟨(d, .v (.bool (!u))) :: T, H, D, n⟩) (g1 : ops[g]? = some og := by rfl) (g2 : og.dst = some gt := by rfl) (g3 : lk T gt = some (.v (.bool gb)) := by rfl) (hp : ev T p = some (.v (.bool u)) := by rfl) (hd : Nat.blt d n = true := by rfl) : AOps P ro ops ({ dst := some d, op := .unOp .not t p, type := ty, pos := po, after := af, guard := some (g, gb) } :: rest) Q ⟨T, H, D, n⟩ := Z5 (wY rfl g1 g2 g3) hd (Z0m rfl hp) h
theorem zPT {c : Operand} (h : AOps P ro ops rest Q ⟨(d, x) :: T, H, D, n⟩) (hc : ev T c = some (.v (.bool true)) := by rfl) (hp : ev T p = some x := by rfl) (hq : ev T q = some y := by rfl) (hd : Nat.blt d n = true := by rfl) : AOps P ro ops ({ dst := some d, op := .pick c p q, type := ty, pos := po, after := af, guard := none } :: rest) Q ⟨T, H, D, n⟩ := Z5 (w0 rfl) hd (Z17 (t := true) rfl hc hp hq) h
theorem Zig {c : Operand} (h : Calm P ops H0 KK (kk + 1) rest M ⟨(d, x) :: T, H, D, n⟩) (hc : ev T c = some (.v (.bool true)) := by rfl) (hp : ev T p = some x := by rfl) (hq : ev T q = some y := by rfl) (hd : Nat.blt d n = true := by rfl) : Calm P ops H0 KK kk ({ dst := some d, op := .pick c p q, type := ty, pos := po, after := af, guard := none } :: rest) M ⟨T, H, D, n⟩ := Za (w0 rfl) hd (Z17 (t := true) rfl hc hp hq) h
theorem Zh8 {c : Operand} {g gt : Nat} {gb : Bool} {og : Oper} (h : Calm P ops H0 KK (kk + 1) rest M ⟨(d, x) :: T, H, D, n⟩) (g1 : ops[g]? = some og := by rfl) (g2 : og.dst = some gt := by rfl) (g3 : lk T gt = some (.v (.bool gb)) := by rfl) (hc : ev T c = some (.v (.bool true)) := by rfl) (hp : ev T p = some x := by rfl) (hq : ev T q = some y := by rfl) (hd : Nat.blt d n = true := by rfl) : Calm P ops H0 KK kk ({ dst := some d, op := .pick c p q, type := ty, pos := po, after := af, guard := some (g, gb) } :: rest) M ⟨T, H, D, n⟩ := Za (wY rfl g1 g2 g3) hd (Z17 (t := true) rfl hc hp hq) h
theorem Zjd {c : Operand} {g gt : Nat} {gb : Bool} {og : Oper} (h : AOps P ro ops rest Q ⟨(d, x) :: T, H, D, n⟩) (g1 : ops[g]? = some og := by rfl) (g2 : og.dst = some gt := by rfl) (g3 : lk T gt = some (.v (.bool gb)) := by rfl) (hc : ev T c = some (.v (.bool true)) := by rfl) (hp : ev T p = some x := by rfl) (hq : ev T q = some y := by rfl) (hd : Nat.blt d n = true := by rfl) : AOps P ro ops ({ dst := some d, op := .pick c p q, type := ty, pos := po, after := af, guard := some (g, gb) } :: rest) Q ⟨T, H, D, n⟩ := Z5 (wY rfl g1 g2 g3) hd (Z17 (t := true) rfl hc hp hq) h
theorem zPF {c : Operand} (h : AOps P ro ops rest Q ⟨(d, x) :: T, H, D, n⟩) (hc : ev T c = some (.v (.bool false)) := by rfl) (hp : ev T p = some y := by rfl) (hq : ev T q = some x := by rfl) (hd : Nat.blt d n = true := by rfl) : AOps P ro ops ({ dst := some d, op := .pick c p q, type := ty, pos := po, after := af, guard := none } :: rest) Q ⟨T, H, D, n⟩ := Z5 (w0 rfl) hd (Z17 (t := false) rfl hc hp hq) h
theorem Zif {c : Operand} (h : Calm P ops H0 KK (kk + 1) rest M ⟨(d, x) :: T, H, D, n⟩) (hc : ev T c = some (.v (.bool false)) := by rfl) (hp : ev T p = some y := by rfl) (hq : ev T q = some x := by rfl) (hd : Nat.blt d n = true := by rfl) : Calm P ops H0 KK kk ({ dst := some d, op := .pick c p q, type := ty, pos := po, after := af, guard := none } :: rest) M ⟨T, H, D, n⟩ := Za (w0 rfl) hd (Z17 (t := false) rfl hc hp hq) h
theorem Zh7 {c : Operand} {g gt : Nat} {gb : Bool} {og : Oper} (h : Calm P ops H0 KK (kk + 1) rest M ⟨(d, x) :: T, H, D, n⟩) (g1 : ops[g]? = some og := by rfl) (g2 : og.dst = some gt := by rfl) (g3 : lk T gt = some (.v (.bool gb)) := by rfl) (hc : ev T c = some (.v (.bool false)) := by rfl) (hp : ev T p = some y := by rfl) (hq : ev T q = some x := by rfl) (hd : Nat.blt d n = true := by rfl) : Calm P ops H0 KK kk ({ dst := some d, op := .pick c p q, type := ty, pos := po, after := af, guard := some (g, gb) } :: rest) M ⟨T, H, D, n⟩ := Za (wY rfl g1 g2 g3) hd (Z17 (t := false) rfl hc hp hq) h
theorem Zjc {c : Operand} {g gt : Nat} {gb : Bool} {og : Oper} (h : AOps P ro ops rest Q ⟨(d, x) :: T, H, D, n⟩) (g1 : ops[g]? = some og := by rfl) (g2 : og.dst = some gt := by rfl) (g3 : lk T gt = some (.v (.bool gb)) := by rfl) (hc : ev T c = some (.v (.bool false)) := by rfl) (hp : ev T p = some y := by rfl) (hq : ev T q = some x := by rfl) (hd : Nat.blt d n = true := by rfl) : AOps P ro ops ({ dst := some d, op := .pick c p q, type := ty, pos := po, after := af, guard := some (g, gb) } :: rest) Q ⟨T, H, D, n⟩ := Z5 (wY rfl g1 g2 g3) hd (Z17 (t := false) rfl hc hp hq) h
theorem zLn {td : TypeDesc} {m : Nat} (h : AOps P ro ops rest Q ⟨(d, .v (.int .i64 (m : Int))) :: T, H, D, n⟩) (hp : ev T p = some x := by rfl) (hx : lenA x = some m := by rfl) [hu : UD P t td] (hlt : lenT x td = true := by rfl) (hd : Nat.blt d n = true := by rfl) : AOps P ro ops ({ dst := some d, op := .call { callee := .builtin .len, args := #[p], argTypes := #[t] }, type := ty, pos := po, after := af, guard := none } :: rest) Q ⟨T, H, D, n⟩ := Z5 (w0 rfl) hd (Z1p rfl hp hx hlt) h
theorem Zib {td : TypeDesc} {m : Nat} (h : Calm P ops H0 KK (kk + 1) rest M ⟨(d, .v (.int .i64 (m : Int))) :: T, H, D, n⟩) (hp : ev T p = some x := by rfl) (hx : lenA x = some m := by rfl) [hu : UD P t td] (hlt : lenT x td = true := by rfl) (hd : Nat.blt d n = true := by rfl) : Calm P ops H0 KK kk ({ dst := some d, op := .call { callee := .builtin .len, args := #[p], argTypes := #[t] }, type := ty, pos := po, after := af, guard := none } :: rest) M ⟨T, H, D, n⟩ := Za (w0 rfl) hd (Z1p rfl hp hx hlt) h
theorem Zh3 {td : TypeDesc} {m : Nat} {g gt : Nat} {gb : Bool} {og : Oper} (h : Calm P ops H0 KK (kk + 1) rest M ⟨(d, .v (.int .i64 (m : Int))) :: T, H, D, n⟩) (g1 : ops[g]? = some og := by rfl) (g2 : og.dst = some gt := by rfl) (g3 : lk T gt = some (.v (.bool gb)) := by rfl) (hp : ev T p = some x := by rfl) (hx : lenA x = some m := by rfl) [hu : UD P t td] (hlt : lenT x td = true := by rfl) (hd : Nat.blt d n = true := by rfl) : Calm P ops H0 KK kk ({ dst := some d, op := .call { callee := .builtin .len, args := #[p], argTypes := #[t] }, type := ty, pos := po, after := af, guard := some (g, gb) } :: rest) M ⟨T, H, D, n⟩ := Za (wY rfl g1 g2 g3) hd (Z1p rfl hp hx hlt) h
theorem Zj8 {td : TypeDesc} {m : Nat} {g gt : Nat} {gb : Bool} {og : Oper} (h : AOps P ro ops rest Q ⟨(d, .v (.int .i64 (m : Int))) :: T, H, D, n⟩) (g1 : ops[g]? = some og := by rfl) (g2 : og.dst = some gt := by rfl) (g3 : lk T gt = some (.v (.bool gb)) := by rfl) (hp : ev T p = some x := by rfl) (hx : lenA x = some m := by rfl) [hu : UD P t td] (hlt : lenT x td = true := by rfl) (hd : Nat.blt d n = true := by rfl) : AOps P ro ops ({ dst := some d, op := .call { callee := .builtin .len, args := #[p], argTypes := #[t] }, type := ty, pos := po, after := af, guard := some (g, gb) } :: rest) Q ⟨T, H, D, n⟩ := Z5 (wY rfl g1 g2 g3) hd (Z1p rfl hp hx hlt) h
theorem zEq {ks : List CK} {us vs : List AV} (h : AOps P ro ops rest Q ⟨(d, .v (.bool (ceqs us vs))) :: T, H, D, n⟩) (hp : ev T p = some (.agg us) := by rfl) (hq : ev T q = some (.agg vs) := by rfl) [hq' : EQ P t ks] (hx : us.map ckA = ks.map some := by rfl) (hy : vs.map ckA = ks.map some := by rfl) (hd : Nat.blt d n = true := by rfl) : AOps P ro ops ({ dst := some d, op := .binOp .eql t p q t', type := ty, pos := po, after := af, guard := none } :: rest) Q ⟨T, H, D, n⟩ := Z5 (w0 rfl) hd (Z13 rfl hp hq hx hy) h
theorem Zia {ks : List CK} {us vs : List AV} (h : Calm P ops H0 KK (kk + 1) rest M ⟨(d, .v (.bool (ceqs us vs))) :: T, H, D, n⟩) (hp : ev T p = some (.agg us) := by rfl) (hq : ev T q = some (.agg vs) := by rfl) [hq' : EQ P t ks] (hx : us.map ckA = ks.map some := by rfl) (hy : vs.map ckA = ks.map some := by rfl) (hd : Nat.blt d n = true := by rfl) : Calm P ops H0 KK kk ({ dst := some d, op := .binOp .eql t p q t', type := ty, pos := po, after := af, guard := none } :: rest) M ⟨T, H, D, n⟩ := Za (w0 rfl) hd (Z13 rfl hp hq hx hy) h
theorem Zh2 {ks : List CK} {us vs : List AV} {g gt : Nat} {gb : Bool} {og : Oper} (h : Calm P ops H0 KK (kk + 1) rest M ⟨(d, .v (.bool (ceqs us vs))) :: T, H, D, n⟩) (g1 : ops[g]? = some og := by rfl) (g2 : og.dst = some gt := by rfl) (g3 : lk T gt = some (.v (.bool gb)) := by rfl) (hp : ev T p = some (.agg us) := by rfl) (hq : ev T q = some (.agg vs) := by rfl) [hq' : EQ P t ks] (hx : us.map ckA = ks.map some := by rfl) (hy : vs.map ckA = ks.map some := by rfl) (hd : Nat.blt d n = true := by rfl) : Calm P ops H0 KK kk ({ dst := some d, op := .binOp .eql t p q t', type := ty, pos := po, after := af, guard := some (g, gb) } :: rest) M ⟨T, H, D, n⟩ := Za (wY rfl g1 g2 g3) hd (Z13 rfl hp hq hx hy) h
theorem Zj7 {ks : List CK} {us vs : List AV} {g gt : Nat} {gb : Bool} {og : Oper} (h : AOps P ro ops rest Q ⟨(d, .v (.bool (ceqs us vs))) :: T, H, D, n⟩) (g1 : ops[g]? = some og := by rfl) (g2 : og.dst = some gt := by rfl) (g3 : lk T gt = some (.v (.bool gb)) := by rfl) (hp : ev T p = some (.agg us) := by rfl) (hq : ev T q = some (.agg vs) := by rfl) [hq' : EQ P t ks] (hx : us.map ckA = ks.map some := by rfl) (hy : vs.map ckA = ks.map some := by rfl) (hd : Nat.blt d n = true := by rfl) : AOps P ro ops ({ dst := some d, op := .binOp .eql t p q t', type := ty, pos := po, after := af, guard := some (g, gb) } :: rest) Q ⟨T, H, D, n⟩ := Z5 (wY rfl g1 g2 g3) hd (Z13 rfl hp hq hx hy) h
theorem Zhv {ks : List CK} {us vs : List AV} (h : AOps P ro ops rest Q ⟨(d, .v (.bool true)) :: T, H, D, n⟩) (hp : ev T p = some (.agg us) := by rfl) (hq : ev T q = some (.agg vs) := by rfl) [hq' : EQ P t ks] (hx : us.map ckA = ks.map some := by rfl) (hy : vs.map ckA = ks.map some := by rfl) (hz : ceqs us vs = true := by decide +kernel) (hd : Nat.blt d n = true := by rfl) : AOps P ro ops ({ dst := some d, op := .binOp .eql t p q t', type := ty, pos := po, after := af, guard := none } :: rest) Q ⟨T, H, D, n⟩ := Z5 (w0 rfl) hd (hz ▸ Z13 rfl hp hq hx hy) h
theorem Zgo {ks : List CK} {us vs : List AV} (h : Calm P ops H0 KK (kk + 1) rest M ⟨(d, .v (.bool true)) :: T, H, D, n⟩) (hp : ev T p = some (.agg us) := by rfl) (hq : ev T q = some (.agg vs) := by rfl) [hq' : EQ P t ks] (hx : us.map ckA = ks.map some := by rfl) (hy : vs.map ckA = ks.map some := by rfl) (hz : ceqs us vs = true := by decide +kernel) (hd : Nat.blt d n = true := by rfl) : Calm P ops H0 KK kk ({ dst := some d, op := .binOp .eql t p q t', type := ty, pos := po, after := af, guard := none } :: rest) M ⟨T, H, D, n⟩ := Za (w0 rfl) hd (hz ▸ Z13 rfl hp hq hx hy) h
theorem Zgb {ks : List CK} {us vs : List AV} {g gt : Nat} {gb : Bool} {og : Oper} (h : Calm P ops H0 KK (kk + 1) rest M ⟨(d, .v (.bool true)) :: T, H, D, n⟩) (g1 : ops[g]? = some og := by rfl) (g2 : og.dst = some gt := by rfl) (g3 : lk T gt = some (.v (.bool gb)) := by rfl) (hp : ev T p = some (.agg us) := by rfl) (hq : ev T q = some (.agg vs) := by rfl) [hq' : EQ P t ks] (hx : us.map ckA = ks.map some := by rfl) (hy : vs.map ckA = ks.map some := by rfl) (hz : ceqs us vs = true := by decide +kernel) (hd : Nat.blt d n = true := by rfl) : Calm P ops H0 KK kk ({ dst := some d, op := .binOp .eql t p q t', type := ty, pos := po, after := af, guard := some (g, gb) } :: rest) M ⟨T, H, D, n⟩ := Za (wY rfl g1 g2 g3) hd (hz ▸ Z13 rfl hp hq hx hy) h
theorem Zhf {ks : List CK} {us vs : List AV} {g gt : Nat} {gb : Bool} {og : Oper} (h : AOps P ro ops rest Q ⟨(d, .v (.bool true)) :: T, H, D, n⟩) (g1 : ops[g]? = some og := by rfl) (g2 : og.dst = some gt := by rfl) (g3 : lk T gt = some (.v (.bool gb)) := by rfl) (hp : ev T p = some (.agg us) := by rfl) (hq : ev T q = some (.agg vs) := by rfl) [hq' : EQ P t ks] (hx : us.map ckA = ks.map some := by rfl) (hy : vs.map ckA = ks.map some := by rfl) (hz : ceqs us vs = true := by decide +kernel) (hd : Nat.blt d n = true := by rfl) : AOps P ro ops ({ dst := some d, op := .binOp .eql t p q t', type := ty, pos := po, after := af, guard := some (g, gb) } :: rest) Q ⟨T, H, D, n⟩ := Z5 (wY rfl g1 g2 g3) hd (hz ▸ Z13 rfl hp hq hx hy) h
theorem Zhu {ks : List CK} {us vs : List AV} (h : AOps P ro ops rest Q ⟨(d, .v (.bool false)) :: T, H, D, n⟩) (hp : ev T p = some (.agg us) := by rfl) (hq : ev T q = some (.agg vs) := by rfl) [hq' : EQ P t ks] (hx : us.map ckA = ks.map some := by rfl) (hy : vs.map ckA = ks.map some := by rfl) (hz : ceqs us vs = false := by decide +kernel) (hd : Nat.blt d n = true := by rfl) : AOps P ro ops ({ dst := some d, op := .binOp .eql t p q t', type := ty, pos := po, after := af, guard := none } :: rest) Q ⟨T, H, D, n⟩ := Z5 (w0 rfl) hd (hz ▸ Z13 rfl hp hq hx hy) h
theorem Zgn {ks : List CK} {us vs : List AV} (h : Calm P ops H0 KK (kk + 1) rest M ⟨(d, .v (.bool false)) :: T, H, D, n⟩) (hp : ev T p = some (.agg us) := by rfl) (hq : ev T q = some (.agg vs) := by rfl) [hq' : EQ P t ks] (hx : us.map ckA = ks.map some := by rfl) (hy : vs.map ckA = ks.map some := by rfl) (hz : ceqs us vs = false := by decide +kernel) (hd : Nat.blt d n = true := by rfl) : Calm P ops H0 KK kk ({ dst := some d, op := .binOp .eql t p q t', type := ty, pos := po, after := af, guard := none } :: rest) M ⟨T, H, D, n⟩ := Za (w0 rfl) hd (hz ▸ Z13 rfl hp hq hx hy) h
theorem Zga {ks : List CK} {us vs : List AV} {g gt : Nat} {gb : Bool} {og : Oper} (h : Calm P ops H0 KK (kk + 1) rest M ⟨(d, .v (.bool false)) :: T, H, D, n⟩) (g1 : ops[g]? = some og := by rfl) (g2 : og.dst = some gt := by rfl) (g3 : lk T gt = some (.v (.bool gb)) := by rfl) (hp : ev T p = some (.agg us) := by rfl) (hq : ev T q = some (.agg vs) := by rfl) [hq' : EQ P t ks] (hx : us.map ckA = ks.map some := by rfl) (hy : vs.map ckA = ks.map some := by rfl) (hz : ceqs us vs = false := by decide +kernel) (hd : Nat.blt d n = true := by rfl) : Calm P ops H0 KK kk ({ dst := some d, op := .binOp .eql t p q t', type := ty, pos := po, after := af, guard := some (g, gb) } :: rest) M ⟨T, H, D, n⟩ := Za (wY rfl g1 g2 g3) hd (hz ▸ Z13 rfl hp hq hx hy) h
theorem Zhe {ks : List CK} {us vs : List AV} {g gt : Nat} {gb : Bool} {og : Oper} (h : AOps P ro ops rest Q ⟨(d, .v (.bool false)) :: T, H, D, n⟩) (g1 : ops[g]? = some og := by rfl) (g2 : og.dst = some gt := by rfl) (g3 : lk T gt = some (.v (.bool gb)) := by rfl) (hp : ev T p = some (.agg us) := by rfl) (hq : ev T q = some (.agg vs) := by rfl) [hq' : EQ P t ks] (hx : us.map ckA = ks.map some := by rfl) (hy : vs.map ckA = ks.map some := by rfl) (hz : ceqs us vs = false := by decide +kernel) (hd : Nat.blt d n = true := by rfl) : AOps P ro ops ({ dst := some d, op := .binOp .eql t p q t', type := ty, pos := po, after := af, guard := some (g, gb) } :: rest) Q ⟨T, H, D, n⟩ := Z5 (wY rfl g1 g2 g3) hd (hz ▸ Z13 rfl hp hq hx hy) h
theorem Zht {u v : ByteArray} (h : AOps P ro ops rest Q ⟨(d, .v (.string (u ++ v))) :: T, H, D, n⟩) (hp : ev T p = some (.v (.string u)) := by rfl) (hq : ev T q = some (.v (.string v)) := by rfl) (hz : u.size + v.size ≤ 9223372036854775807 := by decide +kernel) (hd : Nat.blt d n = true := by rfl) : AOps P ro ops ({ dst := some d, op := .binOp .add t p q t', type := ty, pos := po, after := af, guard := none } :: rest) Q ⟨T, H, D, n⟩ := Z5 (w0 rfl) hd (Z21 rfl hp hq hz) h
theorem Zgm {u v : ByteArray} (h : Calm P ops H0 KK (kk + 1) rest M ⟨(d, .v (.string (u ++ v))) :: T, H, D, n⟩) (hp : ev T p = some (.v (.string u)) := by rfl) (hq : ev T q = some (.v (.string v)) := by rfl) (hz : u.size + v.size ≤ 9223372036854775807 := by decide +kernel) (hd : Nat.blt d n = true := by rfl) : Calm P ops H0 KK kk ({ dst := some d, op := .binOp .add t p q t', type := ty, pos := po, after := af, guard := none } :: rest) M ⟨T, H, D, n⟩ := Za (w0 rfl) hd (Z21 rfl hp hq hz) h
theorem Zg9 {u v : ByteArray} {g gt : Nat} {gb : Bool} {og : Oper} (h : Calm P ops H0 KK (kk + 1) rest M ⟨(d, .v (.string (u ++ v))) :: T, H, D, n⟩) (g1 : ops[g]? = some og := by rfl) (g2 : og.dst = some gt := by rfl) (g3 : lk T gt = some (.v (.bool gb)) := by rfl) (hp : ev T p = some (.v (.string u)) := by rfl) (hq : ev T q = some (.v (.string v)) := by rfl) (hz : u.size + v.size ≤ 9223372036854775807 := by decide +kernel) (hd : Nat.blt d n = true := by rfl) : Calm P ops H0 KK kk ({ dst := some d, op := .binOp .add t p q t', type := ty, pos := po, after := af, guard := some (g, gb) } :: rest) M ⟨T, H, D, n⟩ := Za (wY rfl g1 g2 g3) hd (Z21 rfl hp hq hz) h
theorem Zhd {u v : ByteArray} {g gt : Nat} {gb : Bool} {og : Oper} (h : AOps P ro ops rest Q ⟨(d, .v (.string (u ++ v))) :: T, H, D, n⟩) (g1 : ops[g]? = some og := by rfl) (g2 : og.dst = some gt := by rfl) (g3 : lk T gt = some (.v (.bool gb)) := by rfl) (hp : ev T p = some (.v (.string u)) := by rfl) (hq : ev T q = some (.v (.string v)) := by rfl) (hz : u.size + v.size ≤ 9223372036854775807 := by decide +kernel) (hd : Nat.blt d n = true := by rfl) : AOps P ro ops ({ dst := some d, op := .binOp .add t p q t', type := ty, pos := po, after := af, guard := some (g, gb) } :: rest) Q ⟨T, H, D, n⟩ := Z5 (wY rfl g1 g2 g3) hd (Z21 rfl hp hq hz) h
theorem zCv {k k' : IntKind} {u : Int} {td : TypeDesc} (h : AOps P ro ops rest Q ⟨(d, .v (.int k' u)) :: T, H, D, n⟩) (hp : ev T p = some (.v (.int k u)) := by rfl) [hu : UD P t td] [hu' : UD P t' (.int k')] (hz : k'.wrap u = u := by first | decide +kernel | rfl) (hd : Nat.blt d n = true := by rfl) : AOps P ro ops ({ dst := some d, op := .convert t t' p, type := ty, pos := po, after := af, guard := none } :: rest) Q ⟨T, H, D, n⟩ := Z5 (w0 rfl) hd (hz.symm ▸ Z00 rfl hp) h
theorem Zi8 {k k' : IntKind} {u : Int} {td : TypeDesc} (h : Calm P ops H0 KK (kk + 1) rest M ⟨(d, .v (.int k' u)) :: T, H, D, n⟩) (hp : ev T p = some (.v (.int k u)) := by rfl) [hu : UD P t td] [hu' : UD P t' (.int k')] (hz : k'.wrap u = u := by first | decide +kernel | rfl) (hd : Nat.blt d n = true := by rfl) : Calm P ops H0 KK kk ({ dst := some d, op := .convert t t' p, type := ty, pos := po, after := af, guard := none } :: rest) M ⟨T, H, D, n⟩ := Za (w0 rfl) hd (hz.symm ▸ Z00 rfl hp) h
theorem Zh1 {k k' : IntKind} {u : Int} {td : TypeDesc} {g gt : Nat} {gb : Bool} {og : Oper} (h : Calm P ops H0 KK (kk + 1) rest M ⟨(d, .v (.int k' u)) :: T, H, D, n⟩) (g1 : ops[g]? = some og := by rfl) (g2 : og.dst = some gt := by rfl) (g3 : lk T gt = some (.v (.bool gb)) := by rfl) (hp : ev T p = some (.v (.int k u)) := by rfl) [hu : UD P t td] [hu' : UD P t' (.int k')] (hz : k'.wrap u = u := by first | decide +kernel | rfl) (hd : Nat.blt d n = true := by rfl) : Calm P ops H0 KK kk ({ dst := some d, op := .convert t t' p, type := ty, pos := po, after := af, guard := some (g, gb) } :: rest) M ⟨T, H, D, n⟩ := Za (wY rfl g1 g2 g3) hd (hz.symm ▸ Z00 rfl hp) h
theorem Zj6 {k k' : IntKind} {u : Int} {td : TypeDesc} {g gt : Nat} {gb : Bool} {og : Oper} (h : AOps P ro ops rest Q ⟨(d, .v (.int k' u)) :: T, H, D, n⟩) (g1 : ops[g]? = some og := by rfl) (g2 : og.dst = some gt := by rfl) (g3 : lk T gt = some (.v (.bool gb)) := by rfl) (hp : ev T p = some (.v (.int k u)) := by rfl) [hu : UD P t td] [hu' : UD P t' (.int k')] (hz : k'.wrap u = u := by first | decide +kernel | rfl) (hd : Nat.blt d n = true := by rfl) : AOps P ro ops ({ dst := some d, op := .convert t t' p, type := ty, pos := po, after := af, guard := some (g, gb) } :: rest) Q ⟨T, H, D, n⟩ := Z5 (wY rfl g1 g2 g3) hd (hz.symm ▸ Z00 rfl hp) h
theorem zSx {k : IntKind} {u : ByteArray} {i : Int} (h : AOps P ro ops rest Q ⟨(d, .v (.int .u8 (byteAt u i))) :: T, H, D, n⟩) (hp : ev T p = some (.v (.string u)) := by rfl) (hq : ev T q = some (.v (.int k i)) := by rfl) [hu : UD P t .string] (h0 : 0 ≤ i := by first | decide +kernel | omega) (h1 : i < u.size := by first | decide +kernel | omega) (hd : Nat.blt d n = true := by rfl) : AOps P ro ops ({ dst := some d, op := .index t p q, type := ty, pos := po, after := af, guard := none } :: rest) Q ⟨T, H, D, n⟩ := Z5 (w0 rfl) hd (Z0w rfl hp hq h0 h1) h
theorem Zih {k : IntKind} {u : ByteArray} {i : Int} (h : Calm P ops H0 KK (kk + 1) rest M ⟨(d, .v (.int .u8 (byteAt u i))) :: T, H, D, n⟩) (hp : ev T p = some (.v (.string u)) := by rfl) (hq : ev T q = some (.v (.int k i)) := by rfl) [hu : UD P t .string] (h0 : 0 ≤ i := by first | decide +kernel | omega) (h1 : i < u.size := by first | decide +kernel | omega) (hd : Nat.blt d n = true := by rfl) : Calm P ops H0 KK kk ({ dst := some d, op := .index t p q, type := ty, pos := po, after := af, guard := none } :: rest) M ⟨T, H, D, n⟩ := Za (w0 rfl) hd (Z0w rfl hp hq h0 h1) h
theorem Zh9 {k : IntKind} {u : ByteArray} {i : Int} {g gt : Nat} {gb : Bool} {og : Oper} (h : Calm P ops H0 KK (kk + 1) rest M ⟨(d, .v (.int .u8 (byteAt u i))) :: T, H, D, n⟩) (g1 : ops[g]? = some og := by rfl) (g2 : og.dst = some gt := by rfl) (g3 : lk T gt = some (.v (.bool gb)) := by rfl) (hp : ev T p = some (.v (.string u)) := by rfl) (hq : ev T q = some (.v (.int k i)) := by rfl) [hu : UD P t .string] (h0 : 0 ≤ i := by first | decide +kernel | omega) (h1 : i < u.size := by first | decide +kernel | omega) (hd : Nat.blt d n = true := by rfl) : Calm P ops H0 KK kk ({ dst := some d, op := .index t p q, type := ty, pos := po, after := af, guard := some (g, gb) } :: rest) M ⟨T, H, D, n⟩ := Za (wY rfl g1 g2 g3) hd (Z0w rfl hp hq h0 h1) h
theorem Zje {k : IntKind} {u : ByteArray} {i : Int} {g gt : Nat} {gb : Bool} {og : Oper} (h : AOps P ro ops rest Q ⟨(d, .v (.int .u8 (byteAt u i))) :: T, H, D, n⟩) (g1 : ops[g]? = some og := by rfl) (g2 : og.dst = some gt := by rfl) (g3 : lk T gt = some (.v (.bool gb)) := by rfl) (hp : ev T p = some (.v (.string u)) := by rfl) (hq : ev T q = some (.v (.int k i)) := by rfl) [hu : UD P t .string] (h0 : 0 ≤ i := by first | decide +kernel | omega) (h1 : i < u.size := by first | decide +kernel | omega) (hd : Nat.blt d n = true := by rfl) : AOps P ro ops ({ dst := some d, op := .index t p q, type := ty, pos := po, after := af, guard := some (g, gb) } :: rest) Q ⟨T, H, D, n⟩ := Z5 (wY rfl g1 g2 g3) hd (Z0w rfl hp hq h0 h1) h
theorem zNe {ks : List CK} {us vs : List AV} (h : AOps P ro ops rest Q ⟨(d, .v (.bool (!(ceqs us vs)))) :: T, H, D, n⟩) (hp : ev T p = some (.agg us) := by rfl) (hq : ev T q = some (.agg vs) := by rfl) [hq' : EQ P t ks] (hx : us.map ckA = ks.map some := by rfl) (hy : vs.map ckA = ks.map some := by rfl) (hd : Nat.blt d n = true := by rfl) : AOps P ro ops ({ dst := some d, op := .binOp .neq t p q t', type := ty, pos := po, after := af, guard := none } :: rest) Q ⟨T, H, D, n⟩ := Z5 (w0 rfl) hd (Z49 rfl hp hq hx hy) h
theorem Zid {ks : List CK} {us vs : List AV} (h : Calm P ops H0 KK (kk + 1) rest M ⟨(d, .v (.bool (!(ceqs us vs)))) :: T, H, D, n⟩) (hp : ev T p = some (.agg us) := by rfl) (hq : ev T q = some (.agg vs) := by rfl) [hq' : EQ P t ks] (hx : us.map ckA = ks.map some := by rfl) (hy : vs.map ckA = ks.map some := by rfl) (hd : Nat.blt d n = true := by rfl) : Calm P ops H0 KK kk ({ dst := some d, op := .binOp .neq t p q t', type := ty, pos := po, after := af, guard := none } :: rest) M ⟨T, H, D, n⟩ := Za (w0 rfl) hd (Z49 rfl hp hq hx hy) h
theorem Zh5 {ks : List CK} {us vs : List AV} {g gt : Nat} {gb : Bool} {og : Oper} (h : Calm P ops H0 KK (kk + 1) rest M ⟨(d, .v (.bool (!(ceqs us vs)))) :: T, H, D, n⟩) (g1 : ops[g]? = some og := by rfl) (g2 : og.dst = some gt := by rfl) (g3 : lk T gt = some (.v (.bool gb)) := by rfl) (hp : ev T p = some (.agg us) := by rfl) (hq : ev T q = some (.agg vs) := by rfl) [hq' : EQ P t ks] (hx : us.map ckA = ks.map some := by rfl) (hy : vs.map ckA = ks.map some := by rfl) (hd : Nat.blt d n = true := by rfl) : Calm P ops H0 KK kk ({ dst := some d, op := .binOp .neq t p q t', type := ty, pos := po, after := af, guard := some (g, gb) } :: rest) M ⟨T, H, D, n⟩ := Za (wY rfl g1 g2 g3) hd (Z49 rfl hp hq hx hy) h
theorem Zja {ks : List CK} {us vs : List AV} {g gt : Nat} {gb : Bool} {og : Oper} (h : AOps P ro ops rest Q ⟨(d, .v (.bool (!(ceqs us vs)))) :: T, H, D, n⟩) (g1 : ops[g]? = some og := by rfl) (g2 : og.dst = some gt := by rfl) (g3 : lk T gt = some (.v (.bool gb)) := by rfl) (hp : ev T p = some (.agg us) := by rfl) (hq : ev T q = some (.agg vs) := by rfl) [hq' : EQ P t ks] (hx : us.map ckA = ks.map some := by rfl) (hy : vs.map ckA = ks.map some := by rfl) (hd : Nat.blt d n = true := by rfl) : AOps P ro ops ({ dst := some d, op := .binOp .neq t p q t', type := ty, pos := po, after := af, guard := some (g, gb) } :: rest) Q ⟨T, H, D, n⟩ := Z5 (wY rfl g1 g2 g3) hd (Z49 rfl hp hq hx hy) h
theorem zX {i : Nat} {cs : List AV} (h : AOps P ro ops rest Q ⟨(d, x) :: T, H, D, n⟩) (hp : ev T p = some (.tup cs) := by rfl) (hx : cs[i]? = some x := by rfl) (hd : Nat.blt d n = true := by rfl) : AOps P ro ops ({ dst := some d, op := .extract p i, type := ty, pos := po, after := af, guard := none } :: rest) Q ⟨T, H, D, n⟩ := Z5 (w0 rfl) hd (Zt rfl hp hx) h
theorem zcX {i : Nat} {cs : List AV} (h : Calm P ops H0 KK (kk + 1) rest M ⟨(d, x) :: T, H, D, n⟩) (hp : ev T p = some (.tup cs) := by rfl) (hx : cs[i]? = some x := by rfl) (hd : Nat.blt d n = true := by rfl) : Calm P ops H0 KK kk ({ dst := some d, op := .extract p i, type := ty, pos := po, after := af, guard := none } :: rest) M ⟨T, H, D, n⟩ := Za (w0 rfl) hd (Zt rfl hp hx) h
theorem Zit {i : Nat} {cs : List AV} {g gt : Nat} {gb : Bool} {og : Oper} (h : Calm P ops H0 KK (kk + 1) rest M ⟨(d, x) :: T, H, D, n⟩) (g1 : ops[g]? = some og := by rfl) (g2 : og.dst = some gt := by rfl) (g3 : lk T gt = some (.v (.bool gb)) := by rfl) (hp : ev T p = some (.tup cs) := by rfl) (hx : cs[i]? = some x := by rfl) (hd : Nat.blt d n = true := by rfl) : Calm P ops H0 KK kk ({ dst := some d, op := .extract p i, type := ty, pos := po, after := af, guard := some (g, gb) } :: rest) M ⟨T, H, D, n⟩ := Za (wY rfl g1 g2 g3) hd (Zt rfl hp hx) h
theorem zgX {i : Nat} {cs : List AV} {g gt : Nat} {gb : Bool} {og : Oper} (h : AOps P ro ops rest Q ⟨(d, x) :: T, H, D, n⟩) (g1 : ops[g]? = some og := by rfl) (g2 : og.dst = some gt := by rfl) (g3 : lk T gt = some (.v (.bool gb)) := by rfl) (hp : ev T p = some (.tup cs) := by rfl) (hx : cs[i]? = some x := by rfl) (hd : Nat.blt d n = true := by rfl) : AOps P ro ops ({ dst := some d, op := .extract p i, type := ty, pos := po, after := af, guard := some (g, gb) } :: rest) Q ⟨T, H, D, n⟩ := Z5 (wY rfl g1 g2 g3) hd (Zt rfl hp hx) h
theorem zF {f off ft : Nat} (h : AOps P ro ops rest Q ⟨(d, x) :: T, H, D, n⟩) (hp : ev T p = some y := by rfl) [hf : FO P t f off ft] (hz : plus y off = some x := by rfl) (hd : Nat.blt d n = true := by rfl) : AOps P ro ops ({ dst := some d, op := .fieldAddr t p f, type := ty, pos := po, after := af, guard := none } :: rest) Q ⟨T, H, D, n⟩ := Z5 (w0 rfl) hd (Z0j rfl hp hz) h
theorem zcF {f off ft : Nat} (h : Calm P ops H0 KK (kk + 1) rest M ⟨(d, x) :: T, H, D, n⟩) (hp : ev T p = some y := by rfl) [hf : FO P t f off ft] (hz : plus y off = some x := by rfl) (hd : Nat.blt d n = true := by rfl) : Calm P ops H0 KK kk ({ dst := some d, op := .fieldAddr t p f, type := ty, pos := po, after := af, guard := none } :: rest) M ⟨T, H, D, n⟩ := Za (w0 rfl) hd (Z0j rfl hp hz) h
theorem Zil {f off ft : Nat} {g gt : Nat} {gb : Bool} {og : Oper} (h : Calm P ops H0 KK (kk + 1) rest M ⟨(d, x) :: T, H, D, n⟩) (g1 : ops[g]? = some og := by rfl) (g2 : og.dst = some gt := by rfl) (g3 : lk T gt = some (.v (.bool gb)) := by rfl) (hp : ev T p = some y := by rfl) [hf : FO P t f off ft] (hz : plus y off = some x := by rfl) (hd : Nat.blt d n = true := by rfl) : Calm P ops H0 KK kk ({ dst := some d, op := .fieldAddr t p f, type := ty, pos := po, after := af, guard := some (g, gb) } :: rest) M ⟨T, H, D, n⟩ := Za (wY rfl g1 g2 g3) hd (Z0j rfl hp hz) h
theorem zgF {f off ft : Nat} {g gt : Nat} {gb : Bool} {og : Oper} (h : AOps P ro ops rest Q ⟨(d, x) :: T, H, D, n⟩) (g1 : ops[g]? = some og := by rfl) (g2 : og.dst = some gt := by rfl) (g3 : lk T gt = some (.v (.bool gb)) := by rfl) (hp : ev T p = some y := by rfl) [hf : FO P t f off ft] (hz : plus y off = some x := by rfl) (hd : Nat.blt d n = true := by rfl) : AOps P ro ops ({ dst := some d, op := .fieldAddr t p f, type := ty, pos := po, after := af, guard := some (g, gb) } :: rest) Q ⟨T, H, D, n⟩ := Z5 (wY rfl g1 g2 g3) hd (Z0j rfl hp hz) h
theorem zNc  (h : AOps P ro ops rest Q ⟨(d, x) :: T, H, D, n⟩) (hp : ev T p = some x := by rfl) (hx : isPtr x = true := by rfl) (hd : Nat.blt d n = true := by rfl) : AOps P ro ops ({ dst := some d, op := .nilCheck p, type := ty, pos := po, after := af, guard := none } :: rest) Q ⟨T, H, D, n⟩ := Z5 (w0 rfl) hd (Z0c rfl hp hx) h
theorem Zic  (h : Calm P ops H0 KK (kk + 1) rest M ⟨(d, x) :: T, H, D, n⟩) (hp : ev T p = some x := by rfl) (hx : isPtr x = true := by rfl) (hd : Nat.blt d n = true := by rfl) : Calm P ops H0 KK kk ({ dst := some d, op := .nilCheck p, type := ty, pos := po, after := af, guard := none } :: rest) M ⟨T, H, D, n⟩ := Za (w0 rfl) hd (Z0c rfl hp hx) h
theorem Zh4  {g gt : Nat} {gb : Bool} {og : Oper} (h : Calm P ops H0 KK (kk + 1) rest M ⟨(d, x) :: T, H, D, n⟩) (g1 : ops[g]? = some og := by rfl) (g2 : og.dst = some gt := by rfl) (g3 : lk T gt = some (.v (.bool gb)) := by rfl) (hp : ev T p = some x := by rfl) (hx : isPtr x = true := by rfl) (hd : Nat.blt d n = true := by rfl) : Calm P ops H0 KK kk ({ dst := some d, op := .nilCheck p, type := ty, pos := po, after := af, guard := some (g, gb) } :: rest) M ⟨T, H, D, n⟩ := Za (wY rfl g1 g2 g3) hd (Z0c rfl hp hx) h
theorem Zj9  {g gt : Nat} {gb : Bool} {og : Oper} (h : AOps P ro ops rest Q ⟨(d, x) :: T, H, D, n⟩) (g1 : ops[g]? = some og := by rfl) (g2 : og.dst = some gt := by rfl) (g3 : lk T gt = some (.v (.bool gb)) := by rfl) (hp : ev T p = some x := by rfl) (hx : isPtr x = true := by rfl) (hd : Nat.blt d n = true := by rfl) : AOps P ro ops ({ dst := some d, op := .nilCheck p, type := ty, pos := po, after := af, guard := some (g, gb) } :: rest) Q ⟨T, H, D, n⟩ := Z5 (wY rfl g1 g2 g3) hd (Z0c rfl hp hx) h
theorem zB1 [tk : TK P t true 1] {c1 : AV} {pl : List (Nat × Nat)} {zs : List Value} {ps : Array (Nat × Operand)} {xs : List AV} (h : AOps P ro ops rest Q ⟨(d, .agg [c1]) :: T, H, D, n⟩) (hxs : evs T (ps.toList.map Prod.snd) = some xs := by rfl) [hl : PL P t pl] [hz : ZC P t zs] (hc : fillA (fun i => pl[i]?) (zs.map .v) ((ps.toList.map Prod.fst).zip xs) = some [c1] := by rfl) (hd : Nat.blt d n = true := by rfl) : AOps P ro ops ({ dst := some d, op := .build t ps, type := ty, pos := po, after := af, guard := none } :: rest) Q ⟨T, H, D, n⟩ := Z5 (w0 rfl) hd (Z03 rfl hxs hc) h
theorem Zhw [tk : TK P t true 1] {c1 : AV} {pl : List (Nat × Nat)} {zs : List Value} {ps : Array (Nat × Operand)} {xs : List AV} (h : Calm P ops H0 KK (kk + 1) rest M ⟨(d, .agg [c1]) :: T, H, D, n⟩) (hxs : evs T (ps.toList.map Prod.snd) = some xs := by rfl) [hl : PL P t pl] [hz : ZC P t zs] (hc : fillA (fun i => pl[i]?) (zs.map .v) ((ps.toList.map Prod.fst).zip xs) = some [c1] := by rfl) (hd : Nat.blt d n = true := by rfl) : Calm P ops H0 KK kk ({ dst := some d, op := .build t ps, type := ty, pos := po, after := af, guard := none } :: rest) M ⟨T, H, D, n⟩ := Za (w0 rfl) hd (Z03 rfl hxs hc) h
theorem Zgp [tk : TK P t true 1] {c1 : AV} {pl : List (Nat × Nat)} {zs : List Value} {ps : Array (Nat × Operand)} {xs : List AV} {g gt : Nat} {gb : Bool} {og : Oper} (h : Calm P ops H0 KK (kk + 1) rest M ⟨(d, .agg [c1]) :: T, H, D, n⟩) (g1 : ops[g]? = some og := by rfl) (g2 : og.dst = some gt := by rfl) (g3 : lk T gt = some (.v (.bool gb)) := by rfl) (hxs : evs T (ps.toList.map Prod.snd) = some xs := by rfl) [hl : PL P t pl] [hz : ZC P t zs] (hc : fillA (fun i => pl[i]?) (zs.map .v) ((ps.toList.map Prod.fst).zip xs) = some [c1] := by rfl) (hd : Nat.blt d n = true := by rfl) : Calm P ops H0 KK kk ({ dst := some d, op := .build t ps, type := ty, pos := po, after := af, guard := some (g, gb) } :: rest) M ⟨T, H, D, n⟩ := Za (wY rfl g1 g2 g3) hd (Z03 rfl hxs hc) h
theorem Ziu [tk : TK P t true 1] {c1 : AV} {pl : List (Nat × Nat)} {zs : List Value} {ps : Array (Nat × Operand)} {xs : List AV} {g gt : Nat} {gb : Bool} {og : Oper} (h : AOps P ro ops rest Q ⟨(d, .agg [c1]) :: T, H, D, n⟩) (g1 : ops[g]? = some og := by rfl) (g2 : og.dst = some gt := by rfl) (g3 : lk T gt = some (.v (.bool gb)) := by rfl) (hxs : evs T (ps.toList.map Prod.snd) = some xs := by rfl) [hl : PL P t pl] [hz : ZC P t zs] (hc : fillA (fun i => pl[i]?) (zs.map .v) ((ps.toList.map Prod.fst).zip xs) = some [c1] := by rfl) (hd : Nat.blt d n = true := by rfl) : AOps P ro ops ({ dst := some d, op := .build t ps, type := ty, pos := po, after := af, guard := some (g, gb) } :: rest) Q ⟨T, H, D, n⟩ := Z5 (wY rfl g1 g2 g3) hd (Z03 rfl hxs hc) h
theorem zB2 [tk : TK P t true 2] {c1 c2 : AV} {pl : List (Nat × Nat)} {zs : List Value} {ps : Array (Nat × Operand)} {xs : List AV} (h : AOps P ro ops rest Q ⟨(d, .agg [c1, c2]) :: T, H, D, n⟩) (hxs : evs T (ps.toList.map Prod.snd) = some xs := by rfl) [hl : PL P t pl] [hz : ZC P t zs] (hc : fillA (fun i => pl[i]?) (zs.map .v) ((ps.toList.map Prod.fst).zip xs) = some [c1, c2] := by rfl) (hd : Nat.blt d n = true := by rfl) : AOps P ro ops ({ dst := some d, op := .build t ps, type := ty, pos := po, after := af, guard := none } :: rest) Q ⟨T, H, D, n⟩ := Z5 (w0 rfl) hd (Z03 rfl hxs hc) h
theorem Zhx [tk : TK P t true 2] {c1 c2 : AV} {pl : List (Nat × Nat)} {zs : List Value} {ps : Array (Nat × Operand)} {xs : List AV} (h : Calm P ops H0 KK (kk + 1) rest M ⟨(d, .agg [c1, c2]) :: T, H, D, n⟩) (hxs : evs T (ps.toList.map Prod.snd) = some xs := by rfl) [hl : PL P t pl] [hz : ZC P t zs] (hc : fillA (fun i => pl[i]?) (zs.map .v) ((ps.toList.map Prod.fst).zip xs) = some [c1, c2] := by rfl) (hd : Nat.blt d n = true := by rfl) : Calm P ops H0 KK kk ({ dst := some d, op := .build t ps, type := ty, pos := po, after := af, guard := none } :: rest) M ⟨T, H, D, n⟩ := Za (w0 rfl) hd (Z03 rfl hxs hc) h
theorem Zgq [tk : TK P t true 2] {c1 c2 : AV} {pl : List (Nat × Nat)} {zs : List Value} {ps : Array (Nat × Operand)} {xs : List AV} {g gt : Nat} {gb : Bool} {og : Oper} (h : Calm P ops H0 KK (kk + 1) rest M ⟨(d, .agg [c1, c2]) :: T, H, D, n⟩) (g1 : ops[g]? = some og := by rfl) (g2 : og.dst = some gt := by rfl) (g3 : lk T gt = some (.v (.bool gb)) := by rfl) (hxs : evs T (ps.toList.map Prod.snd) = some xs := by rfl) [hl : PL P t pl] [hz : ZC P t zs] (hc : fillA (fun i => pl[i]?) (zs.map .v) ((ps.toList.map Prod.fst).zip xs) = some [c1, c2] := by rfl) (hd : Nat.blt d n = true := by rfl) : Calm P ops H0 KK kk ({ dst := some d, op := .build t ps, type := ty, pos := po, after := af, guard := some (g, gb) } :: rest) M ⟨T, H, D, n⟩ := Za (wY rfl g1 g2 g3) hd (Z03 rfl hxs hc) h
theorem Ziv [tk : TK P t true 2] {c1 c2 : AV} {pl : List (Nat × Nat)} {zs : List Value} {ps : Array (Nat × Operand)} {xs : List AV} {g gt : Nat} {gb : Bool} {og : Oper} (h : AOps P ro ops rest Q ⟨(d, .agg [c1, c2]) :: T, H, D, n⟩) (g1 : ops[g]? = some og := by rfl) (g2 : og.dst = some gt := by rfl) (g3 : lk T gt = some (.v (.bool gb)) := by rfl) (hxs : evs T (ps.toList.map Prod.snd) = some xs := by rfl) [hl : PL P t pl] [hz : ZC P t zs] (hc : fillA (fun i => pl[i]?) (zs.map .v) ((ps.toList.map Prod.fst).zip xs) = some [c1, c2] := by rfl) (hd : Nat.blt d n = true := by rfl) : AOps P ro ops ({ dst := some d, op := .build t ps, type := ty, pos := po, after := af, guard := some (g, gb) } :: rest) Q ⟨T, H, D, n⟩ := Z5 (wY rfl g1 g2 g3) hd (Z03 rfl hxs hc) h
theorem zB3 [tk : TK P t true 3] {c1 c2 c3 : AV} {pl : List (Nat × Nat)} {zs : List Value} {ps : Array (Nat × Operand)} {xs : List AV} (h : AOps P ro ops rest Q ⟨(d, .agg [c1, c2, c3]) :: T, H, D, n⟩) (hxs : evs T (ps.toList.map Prod.snd) = some xs := by rfl) [hl : PL P t pl] [hz : ZC P t zs] (hc : fillA (fun i => pl[i]?) (zs.map .v) ((ps.toList.map Prod.fst).zip xs) = some [c1, c2, c3] := by rfl) (hd : Nat.blt d n = true := by rfl) : AOps P ro ops ({ dst := some d, op := .build t ps, type := ty, pos := po, after := af, guard := none } :: rest) Q ⟨T, H, D, n⟩ := Z5 (w0 rfl) hd (Z03 rfl hxs hc) h
theorem Zhy [tk : TK P t true 3] {c1 c2 c3 : AV} {pl : List (Nat × Nat)} {zs : List Value} {ps : Array (Nat × Operand)} {xs : List AV} (h : Calm P ops H0 KK (kk + 1) rest M ⟨(d, .agg [c1, c2, c3]) :: T, H, D, n⟩) (hxs : evs T (ps.toList.map Prod.snd) = some xs := by rfl) [hl : PL P t pl] [hz : ZC P t zs] (hc : fillA (fun i => pl[i]?) (zs.map .v) ((ps.toList.map Prod.fst).zip xs) = some [c1, c2, c3] := by rfl) (hd : Nat.blt d n = true := by rfl) : Calm P ops H0 KK kk ({ dst := some d, op := .build t ps, type := ty, pos := po, after := af, guard := none } :: rest) M ⟨T, H, D, n⟩ := Za (w0 rfl) hd (Z03 rfl hxs hc) h
theorem Zgr [tk : TK P t true 3] {c1 c2 c3 : AV} {pl : List (Nat × Nat)} {zs : List Value} {ps : Array (Nat × Operand)} {xs : List AV} {g gt : Nat} {gb : Bool} {og : Oper} (h : Calm P ops H0 KK (kk + 1) rest M ⟨(d, .agg [c1, c2, c3]) :: T, H, D, n⟩) (g1 : ops[g]? = some og := by rfl) (g2 : og.dst = some gt := by rfl) (g3 : lk T gt = some (.v (.bool gb)) := by rfl) (hxs : evs T (ps.toList.map Prod.snd) = some xs := by rfl) [hl : PL P t pl] [hz : ZC P t zs] (hc : fillA (fun i => pl[i]?) (zs.map .v) ((ps.toList.map Prod.fst).zip xs) = some [c1, c2, c3] := by rfl) (hd : Nat.blt d n = true := by rfl) : Calm P ops H0 KK kk ({ dst := some d, op := .build t ps, type := ty, pos := po, after := af, guard := some (g, gb) } :: rest) M ⟨T, H, D, n⟩ := Za (wY rfl g1 g2 g3) hd (Z03 rfl hxs hc) h
theorem Ziw [tk : TK P t true 3] {c1 c2 c3 : AV} {pl : List (Nat × Nat)} {zs : List Value} {ps : Array (Nat × Operand)} {xs : List AV} {g gt : Nat} {gb : Bool} {og : Oper} (h : AOps P ro ops rest Q ⟨(d, .agg [c1, c2, c3]) :: T, H, D, n⟩) (g1 : ops[g]? = some og := by rfl) (g2 : og.dst = some gt := by rfl) (g3 : lk T gt = some (.v (.bool gb)) := by rfl) (hxs : evs T (ps.toList.map Prod.snd) = some xs := by rfl) [hl : PL P t pl] [hz : ZC P t zs] (hc : fillA (fun i => pl[i]?) (zs.map .v) ((ps.toList.map Prod.fst).zip xs) = some [c1, c2, c3] := by rfl) (hd : Nat.blt d n = true := by rfl) : AOps P ro ops ({ dst := some d, op := .build t ps, type := ty, pos := po, after := af, guard := some (g, gb) } :: rest) Q ⟨T, H, D, n⟩ := Z5 (wY rfl g1 g2 g3) hd (Z03 rfl hxs hc) h
theorem zB4 [tk : TK P t true 4] {c1 c2 c3 c4 : AV} {pl : List (Nat × Nat)} {zs : List Value} {ps : Array (Nat × Operand)} {xs : List AV} (h : AOps P ro ops rest Q ⟨(d, .agg [c1, c2, c3, c4]) :: T, H, D, n⟩) (hxs : evs T (ps.toList.map Prod.snd) = some xs := by rfl) [hl : PL P t pl] [hz : ZC P t zs] (hc : fillA (fun i => pl[i]?) (zs.map .v) ((ps.toList.map Prod.fst).zip xs) = some [c1, c2, c3, c4] := by rfl) (hd : Nat.blt d n = true := by rfl) : AOps P ro ops ({ dst := some d, op := .build t ps, type := ty, pos := po, after := af, guard := none } :: rest) Q ⟨T, H, D, n⟩ := Z5 (w0 rfl) hd (Z03 rfl hxs hc) h
theorem Zhz [tk : TK P t true 4] {c1 c2 c3 c4 : AV} {pl : List (Nat × Nat)} {zs : List Value} {ps : Array (Nat × Operand)} {xs : List AV} (h : Calm P ops H0 KK (kk + 1) rest M ⟨(d, .agg [c1, c2, c3, c4]) :: T, H, D, n⟩) (hxs : evs T (ps.toList.map Prod.snd) = some xs := by rfl) [hl : PL P t pl] [hz : ZC P t zs] (hc : fillA (fun i => pl[i]?) (zs.map .v) ((ps.toList.map Prod.fst).zip xs) = some [c1, c2, c3, c4] := by rfl) (hd : Nat.blt d n = true := by rfl) : Calm P ops H0 KK kk ({ dst := some d, op := .build t ps, type := ty, pos := po, after := af, guard := none } :: rest) M ⟨T, H, D, n⟩ := Za (w0 rfl) hd (Z03 rfl hxs hc) h
theorem Zgs [tk : TK P t true 4] {c1 c2 c3 c4 : AV} {pl : List (Nat × Nat)} {zs : List Value} {ps : Array (Nat × Operand)} {xs : List AV} {g gt : Nat} {gb : Bool} {og : Oper} (h : Calm P ops H0 KK (kk + 1) rest M ⟨(d, .agg [c1, c2, c3, c4]) :: T, H, D, n⟩) (g1 : ops[g]? = some og := by rfl) (g2 : og.dst = some gt := by rfl) (g3 : lk T gt = some (.v (.bool gb)) := by rfl) (hxs : evs T (ps.toList.map Prod.snd) = some xs := by rfl) [hl : PL P t pl] [hz : ZC P t zs] (hc : fillA (fun i => pl[i]?) (zs.map .v) ((ps.toList.map Prod.fst).zip xs) = some [c1, c2, c3, c4] := by rfl) (hd : Nat.blt d n = true := by rfl) : Calm P ops H0 KK kk ({ dst := some d, op := .build t ps, type := ty, pos := po, after := af, guard := some (g, gb) } :: rest) M ⟨T, H, D, n⟩ := Za (wY rfl g1 g2 g3) hd (Z03 rfl hxs hc) h
theorem Zix [tk : TK P t true 4] {c1 c2 c3 c4 : AV} {pl : List (Nat × Nat)} {zs : List Value} {ps : Array (Nat × Operand)} {xs : List AV} {g gt : Nat} {gb : Bool} {og : Oper} (h : AOps P ro ops rest Q ⟨(d, .agg [c1, c2, c3, c4]) :: T, H, D, n⟩) (g1 : ops[g]? = some og := by rfl) (g2 : og.dst = some gt := by rfl) (g3 : lk T gt = some (.v (.bool gb)) := by rfl) (hxs : evs T (ps.toList.map Prod.snd) = some xs := by rfl) [hl : PL P t pl] [hz : ZC P t zs] (hc : fillA (fun i => pl[i]?) (zs.map .v) ((ps.toList.map Prod.fst).zip xs) = some [c1, c2, c3, c4] := by rfl) (hd : Nat.blt d n = true := by rfl) : AOps P ro ops ({ dst := some d, op := .build t ps, type := ty, pos := po, after := af, guard := some (g, gb) } :: rest) Q ⟨T, H, D, n⟩ := Z5 (wY rfl g1 g2 g3) hd (Z03 rfl hxs hc) h
theorem zB5 [tk : TK P t true 5] {c1 c2 c3 c4 c5 : AV} {pl : List (Nat × Nat)} {zs : List Value} {ps : Array (Nat × Operand)} {xs : List AV} (h : AOps P ro ops rest Q ⟨(d, .agg [c1, c2, c3, c4, c5]) :: T, H, D, n⟩) (hxs : evs T (ps.toList.map Prod.snd) = some xs := by rfl) [hl : PL P t pl] [hz : ZC P t zs] (hc : fillA (fun i => pl[i]?) (zs.map .v) ((ps.toList.map Prod.fst).zip xs) = some [c1, c2, c3, c4, c5] := by rfl) (hd : Nat.blt d n = true := by rfl) : AOps P ro ops ({ dst := some d, op := .build t ps, type := ty, pos := po, after := af, guard := none } :: rest) Q ⟨T, H, D, n⟩ := Z5 (w0 rfl) hd (Z03 rfl hxs hc) h
theorem Zi0 [tk : TK P t true 5] {c1 c2 c3 c4 c5 : AV} {pl : List (Nat × Nat)} {zs : List Value} {ps : Array (Nat × Operand)} {xs : List AV} (h : Calm P ops H0 KK (kk + 1) rest M ⟨(d, .agg [c1, c2, c3, c4, c5]) :: T, H, D, n⟩) (hxs : evs T (ps.toList.map Prod.snd) = some xs := by rfl) [hl : PL P t pl] [hz : ZC P t zs] (hc : fillA (fun i => pl[i]?) (zs.map .v) ((ps.toList.map Prod.fst).zip xs) = some [c1, c2, c3, c4, c5] := by rfl) (hd : Nat.blt d n = true := by rfl) : Calm P ops H0 KK kk ({ dst := some d, op := .build t ps, type := ty, pos := po, after := af, guard := none } :: rest) M ⟨T, H, D, n⟩ := Za (w0 rfl) hd (Z03 rfl hxs hc) h
theorem Zgt [tk : TK P t true 5] {c1 c2 c3 c4 c5 : AV} {pl : List (Nat × Nat)} {zs : List Value} {ps : Array (Nat × Operand)} {xs : List AV} {g gt : Nat} {gb : Bool} {og : Oper} (h : Calm P ops H0 KK (kk + 1) rest M ⟨(d, .agg [c1, c2, c3, c4, c5]) :: T, H, D, n⟩) (g1 : ops[g]? = some og := by rfl) (g2 : og.dst = some gt := by rfl) (g3 : lk T gt = some (.v (.bool gb)) := by rfl) (hxs : evs T (ps.toList.map Prod.snd) = some xs := by rfl) [hl : PL P t pl] [hz : ZC P t zs] (hc : fillA (fun i => pl[i]?) (zs.map .v) ((ps.toList.map Prod.fst).zip xs) = some [c1, c2, c3, c4, c5] := by rfl) (hd : Nat.blt d n = true := by rfl) : Calm P ops H0 KK kk ({ dst := some d, op := .build t ps, type := ty, pos := po, after := af, guard := some (g, gb) } :: rest) M ⟨T, H, D, n⟩ := Za (wY rfl g1 g2 g3) hd (Z03 rfl hxs hc) h
theorem Ziy [tk : TK P t true 5] {c1 c2 c3 c4 c5 : AV} {pl : List (Nat × Nat)} {zs : List Value} {ps : Array (Nat × Operand)} {xs : List AV} {g gt : Nat} {gb : Bool} {og : Oper} (h : AOps P ro ops rest Q ⟨(d, .agg [c1, c2, c3, c4, c5]) :: T, H, D, n⟩) (g1 : ops[g]? = some og := by rfl) (g2 : og.dst = some gt := by rfl) (g3 : lk T gt = some (.v (.bool gb)) := by rfl) (hxs : evs T (ps.toList.map Prod.snd) = some xs := by rfl) [hl : PL P t pl] [hz : ZC P t zs] (hc : fillA (fun i => pl[i]?) (zs.map .v) ((ps.toList.map Prod.fst).zip xs) = some [c1, c2, c3, c4, c5] := by rfl) (hd : Nat.blt d n = true := by rfl) : AOps P ro ops ({ dst := some d, op := .build t ps, type := ty, pos := po, after := af, guard := some (g, gb) } :: rest) Q ⟨T, H, D, n⟩ := Z5 (wY rfl g1 g2 g3) hd (Z03 rfl hxs hc) h
theorem zB7 [tk : TK P t true 7] {c1 c2 c3 c4 c5 c6 c7 : AV} {pl : List (Nat × Nat)} {zs : List Value} {ps : Array (Nat × Operand)} {xs : List AV} (h : AOps P ro ops rest Q ⟨(d, .agg [c1, c2, c3, c4, c5, c6, c7]) :: T, H, D, n⟩) (hxs : evs T (ps.toList.map Prod.snd) = some xs := by rfl) [hl : PL P t pl] [hz : ZC P t zs] (hc : fillA (fun i => pl[i]?) (zs.map .v) ((ps.toList.map Prod.fst).zip xs) = some [c1, c2, c3, c4, c5, c6, c7] := by rfl) (hd : Nat.blt d n = true := by rfl) : AOps P ro ops ({ dst := some d, op := .build t ps, type := ty, pos := po, after := af, guard := none } :: rest) Q ⟨T, H, D, n⟩ := Z5 (w0 rfl) hd (Z03 rfl hxs hc) h
theorem Zi1 [tk : TK P t true 7] {c1 c2 c3 c4 c5 c6 c7 : AV} {pl : List (Nat × Nat)} {zs : List Value} {ps : Array (Nat × Operand)} {xs : List AV} (h : Calm P ops H0 KK (kk + 1) rest M ⟨(d, .agg [c1, c2, c3, c4, c5, c6, c7]) :: T, H, D, n⟩) (hxs : evs T (ps.toList.map Prod.snd) = some xs := by rfl) [hl : PL P t pl] [hz : ZC P t zs] (hc : fillA (fun i => pl[i]?) (zs.map .v) ((ps.toList.map Prod.fst).zip xs) = some [c1, c2, c3, c4, c5, c6, c7] := by rfl) (hd : Nat.blt d n = true := by rfl) : Calm P ops H0 KK kk ({ dst := some d, op := .build t ps, type := ty, pos := po, after := af, guard := none } :: rest) M ⟨T, H, D, n⟩ := Za (w0 rfl) hd (Z03 rfl hxs hc) h
theorem Zgu [tk : TK P t true 7] {c1 c2 c3 c4 c5 c6 c7 : AV} {pl : List (Nat × Nat)} {zs : List Value} {ps : Array (Nat × Operand)} {xs : List AV} {g gt : Nat} {gb : Bool} {og : Oper} (h : Calm P ops H0 KK (kk + 1) rest M ⟨(d, .agg [c1, c2, c3, c4, c5, c6, c7]) :: T, H, D, n⟩) (g1 : ops[g]? = some og := by rfl) (g2 : og.dst = some gt := by rfl) (g3 : lk T gt = some (.v (.bool gb)) := by rfl) (hxs : evs T (ps.toList.map Prod.snd) = some xs := by rfl) [hl : PL P t pl] [hz : ZC P t zs] (hc : fillA (fun i => pl[i]?) (zs.map .v) ((ps.toList.map Prod.fst).zip xs) = some [c1, c2, c3, c4, c5, c6, c7] := by rfl) (hd : Nat.blt d n = true := by rfl) : Calm P ops H0 KK kk ({ dst := some d, op := .build t ps, type := ty, pos := po, after := af, guard := some (g, gb) } :: rest) M ⟨T, H, D, n⟩ := Za (wY rfl g1 g2 g3) hd (Z03 rfl hxs hc) h
theorem Ziz [tk : TK P t true 7] {c1 c2 c3 c4 c5 c6 c7 : AV} {pl : List (Nat × Nat)} {zs : List Value} {ps : Array (Nat × Operand)} {xs : List AV} {g gt : Nat} {gb : Bool} {og : Oper} (h : AOps P ro ops rest Q ⟨(d, .agg [c1, c2, c3, c4, c5, c6, c7]) :: T, H, D, n⟩) (g1 : ops[g]? = some og := by rfl) (g2 : og.dst = some gt := by rfl) (g3 : lk T gt = some (.v (.bool gb)) := by rfl) (hxs : evs T (ps.toList.map Prod.snd) = some xs := by rfl) [hl : PL P t pl] [hz : ZC P t zs] (hc : fillA (fun i => pl[i]?) (zs.map .v) ((ps.toList.map Prod.fst).zip xs) = some [c1, c2, c3, c4, c5, c6, c7] := by rfl) (hd : Nat.blt d n = true := by rfl) : AOps P ro ops ({ dst := some d, op := .build t ps, type := ty, pos := po, after := af, guard := some (g, gb) } :: rest) Q ⟨T, H, D, n⟩ := Z5 (wY rfl g1 g2 g3) hd (Z03 rfl hxs hc) h
theorem zB9 [tk : TK P t true 9] {c1 c2 c3 c4 c5 c6 c7 c8 c9 : AV} {pl : List (Nat × Nat)} {zs : List Value} {ps : Array (Nat × Operand)} {xs : List AV} (h : AOps P ro ops rest Q ⟨(d, .agg [c1, c2, c3, c4, c5, c6, c7, c8, c9]) :: T, H, D, n⟩) (hxs : evs T (ps.toList.map Prod.snd) = some xs := by rfl) [hl : PL P t pl] [hz : ZC P t zs] (hc : fillA (fun i => pl[i]?) (zs.map .v) ((ps.toList.map Prod.fst).zip xs) = some [c1, c2, c3, c4, c5, c6, c7, c8, c9] := by rfl) (hd : Nat.blt d n = true := by rfl) : AOps P ro ops ({ dst := some d, op := .build t ps, type := ty, pos := po, after := af, guard := none } :: rest) Q ⟨T, H, D, n⟩ := Z5 (w0 rfl) hd (Z03 rfl hxs hc) h
theorem Zi2 [tk : TK P t true 9] {c1 c2 c3 c4 c5 c6 c7 c8 c9 : AV} {pl : List (Nat × Nat)} {zs : List Value} {ps : Array (Nat × Operand)} {xs : List AV} (h : Calm P ops H0 KK (kk + 1) rest M ⟨(d, .agg [c1, c2, c3, c4, c5, c6, c7, c8, c9]) :: T, H, D, n⟩) (hxs : evs T (ps.toList.map Prod.snd) = some xs := by rfl) [hl : PL P t pl] [hz : ZC P t zs] (hc : fillA (fun i => pl[i]?) (zs.map .v) ((ps.toList.map Prod.fst).zip xs) = some [c1, c2, c3, c4, c5, c6, c7, c8, c9] := by rfl) (hd : Nat.blt d n = true := by rfl) : Calm P ops H0 KK kk ({ dst := some d, op := .build t ps, type := ty, pos := po, after := af, guard := none } :: rest) M ⟨T, H, D, n⟩ := Za (w0 rfl) hd (Z03 rfl hxs hc) h
theorem Zgv [tk : TK P t true 9] {c1 c2 c3 c4 c5 c6 c7 c8 c9 : AV} {pl : List (Nat × Nat)} {zs : List Value} {ps : Array (Nat × Operand)} {xs : List AV} {g gt : Nat} {gb : Bool} {og : Oper} (h : Calm P ops H0 KK (kk + 1) rest M ⟨(d, .agg [c1, c2, c3, c4, c5, c6, c7, c8, c9]) :: T, H, D, n⟩) (g1 : ops[g]? = some og := by rfl) (g2 : og.dst = some gt := by rfl) (g3 : lk T gt = some (.v (.bool gb)) := by rfl) (hxs : evs T (ps.toList.map Prod.snd) = some xs := by rfl) [hl : PL P t pl] [hz : ZC P t zs] (hc : fillA (fun i => pl[i]?) (zs.map .v) ((ps.toList.map Prod.fst).zip xs) = some [c1, c2, c3, c4, c5, c6, c7, c8, c9] := by rfl) (hd : Nat.blt d n = true := by rfl) : Calm P ops H0 KK kk ({ dst := some d, op := .build t ps, type := ty, pos := po, after := af, guard := some (g, gb) } :: rest) M ⟨T, H, D, n⟩ := Za (wY rfl g1 g2 g3) hd (Z03 rfl hxs hc) h
theorem Zj0 [tk : TK P t true 9] {c1 c2 c3 c4 c5 c6 c7 c8 c9 : AV} {pl : List (Nat × Nat)} {zs : List Value} {ps : Array (Nat × Operand)} {xs : List AV} {g gt : Nat} {gb : Bool} {og : Oper} (h : AOps P ro ops rest Q ⟨(d, .agg [c1, c2, c3, c4, c5, c6, c7, c8, c9]) :: T, H, D, n⟩) (g1 : ops[g]? = some og := by rfl) (g2 : og.dst = some gt := by rfl) (g3 : lk T gt = some (.v (.bool gb)) := by rfl) (hxs : evs T (ps.toList.map Prod.snd) = some xs := by rfl) [hl : PL P t pl] [hz : ZC P t zs] (hc : fillA (fun i => pl[i]?) (zs.map .v) ((ps.toList.map Prod.fst).zip xs) = some [c1, c2, c3, c4, c5, c6, c7, c8, c9] := by rfl) (hd : Nat.blt d n = true := by rfl) : AOps P ro ops ({ dst := some d, op := .build t ps, type := ty, pos := po, after := af, guard := some (g, gb) } :: rest) Q ⟨T, H, D, n⟩ := Z5 (wY rfl g1 g2 g3) hd (Z03 rfl hxs hc) h
theorem Zhs [tk : TK P t true 10] {c1 c2 c3 c4 c5 c6 c7 c8 c9 c10 : AV} {pl : List (Nat × Nat)} {zs : List Value} {ps : Array (Nat × Operand)} {xs : List AV} (h : AOps P ro ops rest Q ⟨(d, .agg [c1, c2, c3, c4, c5, c6, c7, c8, c9, c10]) :: T, H, D, n⟩) (hxs : evs T (ps.toList.map Prod.snd) = some xs := by rfl) [hl : PL P t pl] [hz : ZC P t zs] (hc : fillA (fun i => pl[i]?) (zs.map .v) ((ps.toList.map Prod.fst).zip xs) = some [c1, c2, c3, c4, c5, c6, c7, c8, c9, c10] := by rfl) (hd : Nat.blt d n = true := by rfl) : AOps P ro ops ({ dst := some d, op := .build t ps, type := ty, pos := po, after := af, guard := none } :: rest) Q ⟨T, H, D, n⟩ := Z5 (w0 rfl) hd (Z03 rfl hxs hc) h
theorem Zgl [tk : TK P t true 10] {c1 c2 c3 c4 c5 c6 c7 c8 c9 c10 : AV} {pl : List (Nat × Nat)} {zs : List Value} {ps : Array (Nat × Operand)} {xs : List AV} (h : Calm P ops H0 KK (kk + 1) rest M ⟨(d, .agg [c1, c2, c3, c4, c5, c6, c7, c8, c9, c10]) :: T, H, D, n⟩) (hxs : evs T (ps.toList.map Prod.snd) = some xs := by rfl) [hl : PL P t pl] [hz : ZC P t zs] (hc : fillA (fun i => pl[i]?) (zs.map .v) ((ps.toList.map Prod.fst).zip xs) = some [c1, c2, c3, c4, c5, c6, c7, c8, c9, c10] := by rfl) (hd : Nat.blt d n = true := by rfl) : Calm P ops H0 KK kk ({ dst := some d, op := .build t ps, type := ty, pos := po, after := af, guard := none } :: rest) M ⟨T, H, D, n⟩ := Za (w0 rfl) hd (Z03 rfl hxs hc) h
theorem Zg8 [tk : TK P t true 10] {c1 c2 c3 c4 c5 c6 c7 c8 c9 c10 : AV} {pl : List (Nat × Nat)} {zs : List Value} {ps : Array (Nat × Operand)} {xs : List AV} {g gt : Nat} {gb : Bool} {og : Oper} (h : Calm P ops H0 KK (kk + 1) rest M ⟨(d, .agg [c1, c2, c3, c4, c5, c6, c7, c8, c9, c10]) :: T, H, D, n⟩) (g1 : ops[g]? = some og := by rfl) (g2 : og.dst = some gt := by rfl) (g3 : lk T gt = some (.v (.bool gb)) := by rfl) (hxs : evs T (ps.toList.map Prod.snd) = some xs := by rfl) [hl : PL P t pl] [hz : ZC P t zs] (hc : fillA (fun i => pl[i]?) (zs.map .v) ((ps.toList.map Prod.fst).zip xs) = some [c1, c2, c3, c4, c5, c6, c7, c8, c9, c10] := by rfl) (hd : Nat.blt d n = true := by rfl) : Calm P ops H0 KK kk ({ dst := some d, op := .build t ps, type := ty, pos := po, after := af, guard := some (g, gb) } :: rest) M ⟨T, H, D, n⟩ := Za (wY rfl g1 g2 g3) hd (Z03 rfl hxs hc) h
theorem Zhc [tk : TK P t true 10] {c1 c2 c3 c4 c5 c6 c7 c8 c9 c10 : AV} {pl : List (Nat × Nat)} {zs : List Value} {ps : Array (Nat × Operand)} {xs : List AV} {g gt : Nat} {gb : Bool} {og : Oper} (h : AOps P ro ops rest Q ⟨(d, .agg [c1, c2, c3, c4, c5, c6, c7, c8, c9, c10]) :: T, H, D, n⟩) (g1 : ops[g]? = some og := by rfl) (g2 : og.dst = some gt := by rfl) (g3 : lk T gt = some (.v (.bool gb)) := by rfl) (hxs : evs T (ps.toList.map Prod.snd) = some xs := by rfl) [hl : PL P t pl] [hz : ZC P t zs] (hc : fillA (fun i => pl[i]?) (zs.map .v) ((ps.toList.map Prod.fst).zip xs) = some [c1, c2, c3, c4, c5, c6, c7, c8, c9, c10] := by rfl) (hd : Nat.blt d n = true := by rfl) : AOps P ro ops ({ dst := some d, op := .build t ps, type := ty, pos := po, after := af, guard := some (g, gb) } :: rest) Q ⟨T, H, D, n⟩ := Z5 (wY rfl g1 g2 g3) hd (Z03 rfl hxs hc) h
theorem zC0 {ats : Array TypeId} {f : Nat} (h : AOps P ro ops rest Q ⟨(d, x) :: T, H, D, n⟩)  [hc : Con P f [] x] (hd : Nat.blt d n = true := by rfl) : AOps P ro ops ({ dst := some d, op := .call { callee := .value (.func f), args := #[], argTypes := ats }, type := ty, pos := po, after := af, guard := none } :: rest) Q ⟨T, H, D, n⟩ := Z5 (w0 rfl) hd (Zq (caps := []) [] rfl rfl Z0e hc.c List.nodup_nil) h
theorem Zi3 {ats : Array TypeId} {f : Nat} (h : Calm P ops H0 KK (kk + 1) rest M ⟨(d, x) :: T, H, D, n⟩)  [hc : Con P f [] x] (hd : Nat.blt d n = true := by rfl) : Calm P ops H0 KK kk ({ dst := some d, op := .call { callee := .value (.func f), args := #[], argTypes := ats }, type := ty, pos := po, after := af, guard := none } :: rest) M ⟨T, H, D, n⟩ := Za (w0 rfl) hd (Zq (caps := []) [] rfl rfl Z0e hc.c List.nodup_nil) h
theorem Zgw {ats : Array TypeId} {f : Nat} {g gt : Nat} {gb : Bool} {og : Oper} (h : Calm P ops H0 KK (kk + 1) rest M ⟨(d, x) :: T, H, D, n⟩) (g1 : ops[g]? = some og := by rfl) (g2 : og.dst = some gt := by rfl) (g3 : lk T gt = some (.v (.bool gb)) := by rfl)  [hc : Con P f [] x] (hd : Nat.blt d n = true := by rfl) : Calm P ops H0 KK kk ({ dst := some d, op := .call { callee := .value (.func f), args := #[], argTypes := ats }, type := ty, pos := po, after := af, guard := some (g, gb) } :: rest) M ⟨T, H, D, n⟩ := Za (wY rfl g1 g2 g3) hd (Zq (caps := []) [] rfl rfl Z0e hc.c List.nodup_nil) h
theorem Zj1 {ats : Array TypeId} {f : Nat} {g gt : Nat} {gb : Bool} {og : Oper} (h : AOps P ro ops rest Q ⟨(d, x) :: T, H, D, n⟩) (g1 : ops[g]? = some og := by rfl) (g2 : og.dst = some gt := by rfl) (g3 : lk T gt = some (.v (.bool gb)) := by rfl)  [hc : Con P f [] x] (hd : Nat.blt d n = true := by rfl) : AOps P ro ops ({ dst := some d, op := .call { callee := .value (.func f), args := #[], argTypes := ats }, type := ty, pos := po, after := af, guard := some (g, gb) } :: rest) Q ⟨T, H, D, n⟩ := Z5 (wY rfl g1 g2 g3) hd (Zq (caps := []) [] rfl rfl Z0e hc.c List.nodup_nil) h
theorem zC1 {ats : Array TypeId} {f : Nat} {p1 : Operand} {x1 : AV} (h : AOps P ro ops rest Q ⟨(d, x) :: T, H, D, n⟩) (h1 : ev T p1 = some x1 := by rfl) [hc : Con P f [x1] x] (hd : Nat.blt d n = true := by rfl) : AOps P ro ops ({ dst := some d, op := .call { callee := .value (.func f), args := #[p1], argTypes := ats }, type := ty, pos := po, after := af, guard := none } :: rest) Q ⟨T, H, D, n⟩ := Z5 (w0 rfl) hd (Zq (caps := []) [] rfl rfl (Zj h1 Z0e) hc.c List.nodup_nil) h
theorem Zi4 {ats : Array TypeId} {f : Nat} {p1 : Operand} {x1 : AV} (h : Calm P ops H0 KK (kk + 1) rest M ⟨(d, x) :: T, H, D, n⟩) (h1 : ev T p1 = some x1 := by rfl) [hc : Con P f [x1] x] (hd : Nat.blt d n = true := by rfl) : Calm P ops H0 KK kk ({ dst := some d, op := .call { callee := .value (.func f), args := #[p1], argTypes := ats }, type := ty, pos := po, after := af, guard := none } :: rest) M ⟨T, H, D, n⟩ := Za (w0 rfl) hd (Zq (caps := []) [] rfl rfl (Zj h1 Z0e) hc.c List.nodup_nil) h
theorem Zgx {ats : Array TypeId} {f : Nat} {p1 : Operand} {x1 : AV} {g gt : Nat} {gb : Bool} {og : Oper} (h : Calm P ops H0 KK (kk + 1) rest M ⟨(d, x) :: T, H, D, n⟩) (g1 : ops[g]? = some og := by rfl) (g2 : og.dst = some gt := by rfl) (g3 : lk T gt = some (.v (.bool gb)) := by rfl) (h1 : ev T p1 = some x1 := by rfl) [hc : Con P f [x1] x] (hd : Nat.blt d n = true := by rfl) : Calm P ops H0 KK kk ({ dst := some d, op := .call { callee := .value (.func f), args := #[p1], argTypes := ats }, type := ty, pos := po, after := af, guard := some (g, gb) } :: rest) M ⟨T, H, D, n⟩ := Za (wY rfl g1 g2 g3) hd (Zq (caps := []) [] rfl rfl (Zj h1 Z0e) hc.c List.nodup_nil) h
theorem Zj2 {ats : Array TypeId} {f : Nat} {p1 : Operand} {x1 : AV} {g gt : Nat} {gb : Bool} {og : Oper} (h : AOps P ro ops rest Q ⟨(d, x) :: T, H, D, n⟩) (g1 : ops[g]? = some og := by rfl) (g2 : og.dst = some gt := by rfl) (g3 : lk T gt = some (.v (.bool gb)) := by rfl) (h1 : ev T p1 = some x1 := by rfl) [hc : Con P f [x1] x] (hd : Nat.blt d n = true := by rfl) : AOps P ro ops ({ dst := some d, op := .call { callee := .value (.func f), args := #[p1], argTypes := ats }, type := ty, pos := po, after := af, guard := some (g, gb) } :: rest) Q ⟨T, H, D, n⟩ := Z5 (wY rfl g1 g2 g3) hd (Zq (caps := []) [] rfl rfl (Zj h1 Z0e) hc.c List.nodup_nil) h
theorem zC2 {ats : Array TypeId} {f : Nat} {p1 p2 : Operand} {x1 x2 : AV} (h : AOps P ro ops rest Q ⟨(d, x) :: T, H, D, n⟩) (h1 : ev T p1 = some x1 := by rfl) (h2 : ev T p2 = some x2 := by rfl) [hc : Con P f [x1, x2] x] (hd : Nat.blt d n = true := by rfl) : AOps P ro ops ({ dst := some d, op := .call { callee := .value (.func f), args := #[p1, p2], argTypes := ats }, type := ty, pos := po, after := af, guard := none } :: rest) Q ⟨T, H, D, n⟩ := Z5 (w0 rfl) hd (Zq (caps := []) [] rfl rfl (Zj h1 (Zj h2 Z0e)) hc.c List.nodup_nil) h
theorem Zi5 {ats : Array TypeId} {f : Nat} {p1 p2 : Operand} {x1 x2 : AV} (h : Calm P ops H0 KK (kk + 1) rest M ⟨(d, x) :: T, H, D, n⟩) (h1 : ev T p1 = some x1 := by rfl) (h2 : ev T p2 = some x2 := by rfl) [hc : Con P f [x1, x2] x] (hd : Nat.blt d n = true := by rfl) : Calm P ops H0 KK kk ({ dst := some d, op := .call { callee := .value (.func f), args := #[p1, p2], argTypes := ats }, type := ty, pos := po, after := af, guard := none } :: rest) M ⟨T, H, D, n⟩ := Za (w0 rfl) hd (Zq (caps := []) [] rfl rfl (Zj h1 (Zj h2 Z0e)) hc.c List.nodup_nil) h
theorem Zgy {ats : Array TypeId} {f : Nat} {p1 p2 : Operand} {x1 x2 : AV} {g gt : Nat} {gb : Bool} {og : Oper} (h : Calm P ops H0 KK (kk + 1) rest M ⟨(d, x) :: T, H, D, n⟩) (g1 : ops[g]? = some og := by rfl) (g2 : og.dst = some gt := by rfl) (g3 : lk T gt = some (.v (.bool gb)) := by rfl) (h1 : ev T p1 = some x1 := by rfl) (h2 : ev T p2 = some x2 := by rfl) [hc : Con P f [x1, x2] x] (hd : Nat.blt d n = true := by rfl) : Calm P ops H0 KK kk ({ dst := some d, op := .call { callee := .value (.func f), args := #[p1, p2], argTypes := ats }, type := ty, pos := po, after := af, guard := some (g, gb) } :: rest) M ⟨T, H, D, n⟩ := Za (wY rfl g1 g2 g3) hd (Zq (caps := []) [] rfl rfl (Zj h1 (Zj h2 Z0e)) hc.c List.nodup_nil) h
theorem Zj3 {ats : Array TypeId} {f : Nat} {p1 p2 : Operand} {x1 x2 : AV} {g gt : Nat} {gb : Bool} {og : Oper} (h : AOps P ro ops rest Q ⟨(d, x) :: T, H, D, n⟩) (g1 : ops[g]? = some og := by rfl) (g2 : og.dst = some gt := by rfl) (g3 : lk T gt = some (.v (.bool gb)) := by rfl) (h1 : ev T p1 = some x1 := by rfl) (h2 : ev T p2 = some x2 := by rfl) [hc : Con P f [x1, x2] x] (hd : Nat.blt d n = true := by rfl) : AOps P ro ops ({ dst := some d, op := .call { callee := .value (.func f), args := #[p1, p2], argTypes := ats }, type := ty, pos := po, after := af, guard := some (g, gb) } :: rest) Q ⟨T, H, D, n⟩ := Z5 (wY rfl g1 g2 g3) hd (Zq (caps := []) [] rfl rfl (Zj h1 (Zj h2 Z0e)) hc.c List.nodup_nil) h
theorem zC3 {ats : Array TypeId} {f : Nat} {p1 p2 p3 : Operand} {x1 x2 x3 : AV} (h : AOps P ro ops rest Q ⟨(d, x) :: T, H, D, n⟩) (h1 : ev T p1 = some x1 := by rfl) (h2 : ev T p2 = some x2 := by rfl) (h3 : ev T p3 = some x3 := by rfl) [hc : Con P f [x1, x2, x3] x] (hd : Nat.blt d n = true := by rfl) : AOps P ro ops ({ dst := some d, op := .call { callee := .value (.func f), args := #[p1, p2, p3], argTypes := ats }, type := ty, pos := po, after := af, guard := none } :: rest) Q ⟨T, H, D, n⟩ := Z5 (w0 rfl) hd (Zq (caps := []) [] rfl rfl (Zj h1 (Zj h2 (Zj h3 Z0e))) hc.c List.nodup_nil) h
theorem Zi6 {ats : Array TypeId} {f : Nat} {p1 p2 p3 : Operand} {x1 x2 x3 : AV} (h : Calm P ops H0 KK (kk + 1) rest M ⟨(d, x) :: T, H, D, n⟩) (h1 : ev T p1 = some x1 := by rfl) (h2 : ev T p2 = some x2 := by rfl) (h3 : ev T p3 = some x3 := by rfl) [hc : Con P f [x1, x2, x3] x] (hd : Nat.blt d n = true := by rfl) : Calm P ops H0 KK kk ({ dst := some d, op := .call { callee := .value (.func f), args := #[p1, p2, p3], argTypes := ats }, type := ty, pos := po, after := af, guard := none } :: rest) M ⟨T, H, D, n⟩ := Za (w0 rfl) hd (Zq (caps := []) [] rfl rfl (Zj h1 (Zj h2 (Zj h3 Z0e))) hc.c List.nodup_nil) h
theorem Zgz {ats : Array TypeId} {f : Nat} {p1 p2 p3 : Operand} {x1 x2 x3 : AV} {g gt : Nat} {gb : Bool} {og : Oper} (h : Calm P ops H0 KK (kk + 1) rest M ⟨(d, x) :: T, H, D, n⟩) (g1 : ops[g]? = some og := by rfl) (g2 : og.dst = some gt := by rfl) (g3 : lk T gt = some (.v (.bool gb)) := by rfl) (h1 : ev T p1 = some x1 := by rfl) (h2 : ev T p2 = some x2 := by rfl) (h3 : ev T p3 = some x3 := by rfl) [hc : Con P f [x1, x2, x3] x] (hd : Nat.blt d n = true := by rfl) : Calm P ops H0 KK kk ({ dst := some d, op := .call { callee := .value (.func f), args := #[p1, p2, p3], argTypes := ats }, type := ty, pos := po, after := af, guard := some (g, gb) } :: rest) M ⟨T, H, D, n⟩ := Za (wY rfl g1 g2 g3) hd (Zq (caps := []) [] rfl rfl (Zj h1 (Zj h2 (Zj h3 Z0e))) hc.c List.nodup_nil) h
theorem Zj4 {ats : Array TypeId} {f : Nat} {p1 p2 p3 : Operand} {x1 x2 x3 : AV} {g gt : Nat} {gb : Bool} {og : Oper} (h : AOps P ro ops rest Q ⟨(d, x) :: T, H, D, n⟩) (g1 : ops[g]? = some og := by rfl) (g2 : og.dst = some gt := by rfl) (g3 : lk T gt = some (.v (.bool gb)) := by rfl) (h1 : ev T p1 = some x1 := by rfl) (h2 : ev T p2 = some x2 := by rfl) (h3 : ev T p3 = some x3 := by rfl) [hc : Con P f [x1, x2, x3] x] (hd : Nat.blt d n = true := by rfl) : AOps P ro ops ({ dst := some d, op := .call { callee := .value (.func f), args := #[p1, p2, p3], argTypes := ats }, type := ty, pos := po, after := af, guard := some (g, gb) } :: rest) Q ⟨T, H, D, n⟩ := Z5 (wY rfl g1 g2 g3) hd (Zq (caps := []) [] rfl rfl (Zj h1 (Zj h2 (Zj h3 Z0e))) hc.c List.nodup_nil) h
theorem zC4 {ats : Array TypeId} {f : Nat} {p1 p2 p3 p4 : Operand} {x1 x2 x3 x4 : AV} (h : AOps P ro ops rest Q ⟨(d, x) :: T, H, D, n⟩) (h1 : ev T p1 = some x1 := by rfl) (h2 : ev T p2 = some x2 := by rfl) (h3 : ev T p3 = some x3 := by rfl) (h4 : ev T p4 = some x4 := by rfl) [hc : Con P f [x1, x2, x3, x4] x] (hd : Nat.blt d n = true := by rfl) : AOps P ro ops ({ dst := some d, op := .call { callee := .value (.func f), args := #[p1, p2, p3, p4], argTypes := ats }, type := ty, pos := po, after := af, guard := none } :: rest) Q ⟨T, H, D, n⟩ := Z5 (w0 rfl) hd (Zq (caps := []) [] rfl rfl (Zj h1 (Zj h2 (Zj h3 (Zj h4 Z0e)))) hc.c List.nodup_nil) h
theorem Zi7 {ats : Array TypeId} {f : Nat} {p1 p2 p3 p4 : Operand} {x1 x2 x3 x4 : AV} (h : Calm P ops H0 KK (kk + 1) rest M ⟨(d, x) :: T, H, D, n⟩) (h1 : ev T p1 = some x1 := by rfl) (h2 : ev T p2 = some x2 := by rfl) (h3 : ev T p3 = some x3 := by rfl) (h4 : ev T p4 = some x4 := by rfl) [hc : Con P f [x1, x2, x3, x4] x] (hd : Nat.blt d n = true := by rfl) : Calm P ops H0 KK kk ({ dst := some d, op := .call { callee := .value (.func f), args := #[p1, p2, p3, p4], argTypes := ats }, type := ty, pos := po, after := af, guard := none } :: rest) M ⟨T, H, D, n⟩ := Za (w0 rfl) hd (Zq (caps := []) [] rfl rfl (Zj h1 (Zj h2 (Zj h3 (Zj h4 Z0e)))) hc.c List.nodup_nil) h
theorem Zh0 {ats : Array TypeId} {f : Nat} {p1 p2 p3 p4 : Operand} {x1 x2 x3 x4 : AV} {g gt : Nat} {gb : Bool} {og : Oper} (h : Calm P ops H0 KK (kk + 1) rest M ⟨(d, x) :: T, H, D, n⟩) (g1 : ops[g]? = some og := by rfl) (g2 : og.dst = some gt := by rfl) (g3 : lk T gt = some (.v (.bool gb)) := by rfl) (h1 : ev T p1 = some x1 := by rfl) (h2 : ev T p2 = some x2 := by rfl) (h3 : ev T p3 = some x3 := by rfl) (h4 : ev T p4 = some x4 := by rfl) [hc : Con P f [x1, x2, x3, x4] x] (hd : Nat.blt d n = true := by rfl) : Calm P ops H0 KK kk ({ dst := some d, op := .call { callee := .value (.func f), args := #[p1, p2, p3, p4], argTypes := ats }, type := ty, pos := po, after := af, guard := some (g, gb) } :: rest) M ⟨T, H, D, n⟩ := Za (wY rfl g1 g2 g3) hd (Zq (caps := []) [] rfl rfl (Zj h1 (Zj h2 (Zj h3 (Zj h4 Z0e)))) hc.c List.nodup_nil) h
theorem Zj5 {ats : Array TypeId} {f : Nat} {p1 p2 p3 p4 : Operand} {x1 x2 x3 x4 : AV} {g gt : Nat} {gb : Bool} {og : Oper} (h : AOps P ro ops rest Q ⟨(d, x) :: T, H, D, n⟩) (g1 : ops[g]? = some og := by rfl) (g2 : og.dst = some gt := by rfl) (g3 : lk T gt = some (.v (.bool gb)) := by rfl) (h1 : ev T p1 = some x1 := by rfl) (h2 : ev T p2 = some x2 := by rfl) (h3 : ev T p3 = some x3 := by rfl) (h4 : ev T p4 = some x4 := by rfl) [hc : Con P f [x1, x2, x3, x4] x] (hd : Nat.blt d n = true := by rfl) : AOps P ro ops ({ dst := some d, op := .call { callee := .value (.func f), args := #[p1, p2, p3, p4], argTypes := ats }, type := ty, pos := po, after := af, guard := some (g, gb) } :: rest) Q ⟨T, H, D, n⟩ := Z5 (wY rfl g1 g2 g3) hd (Zq (caps := []) [] rfl rfl (Zj h1 (Zj h2 (Zj h3 (Zj h4 Z0e)))) hc.c List.nodup_nil) h
theorem zD {g gt : Nat} {gb : Bool} {og : Oper} {op : Op} (h : AOps P ro ops rest Q ⟨(d, .v undef) :: T, H, D, n⟩) (g1 : ops[g]? = some og := by rfl) (g2 : og.dst = some gt := by rfl) (g3 : lk T gt = some (.v (.bool (!gb))) := by rfl) (hd : Nat.blt d n = true := by rfl) : AOps P ro ops ({ dst := some d, op := op, type := ty, pos := po, after := af, guard := some (g, gb) } :: rest) Q ⟨T, H, D, n⟩ := Z1y (x := .v undef) (wZ rfl g1 g2 g3) hd nofun h
theorem Zb3 {m : Nat} {b : Bool} {l : List AV} (h : ∀ id, AOps P ro ops rest Q ⟨(d, .ptr id m 0 0) :: T, (id, .rows t m [l]) :: H, D, n⟩) (hp : ev T p = some x := by rfl) [k : TK P t b m] (hl : cellsA x = l := by rfl) (hn : l.length = m := by rfl) (h1 : l.all one = true := by rfl) (hd : Nat.blt d n = true := by rfl) : AOps P ro ops ({ dst := some d, op := .box t p, type := ty, pos := po, after := af, guard := none } :: rest) Q ⟨T, H, D, n⟩ := Z1a (w0 rfl) hd (fun id => Z38 id rfl hp hl hn h1) h
theorem Zgj {b : Bool} [kt : TK P t b 3] {zs : List Value} [z : ZC P t zs] {c1 c2 c3 : AV} (h : ∀ id, AOps P ro ops rest Q ⟨(d, .ptr id 3 0 0) :: T, (id, .rows t 3 [[c1, c2, c3]]) :: H, D, n⟩) (hl : zs.map AV.v = [c1, c2, c3] := by rfl) (hn : zs.length = 3 := by rfl) (h1 : (zs.map AV.v).all one = true := by rfl) (hd : Nat.blt d n = true := by rfl) : AOps P ro ops ({ dst := some d, op := .alloc t, type := ty, pos := po, after := af, guard := none } :: rest) Q ⟨T, H, D, n⟩ := Z1a (w0 rfl) hd (fun id => Z1f id rfl hn h1) (by rw [hl]; exact h)
theorem Zhq {b : Bool} [kt : TK P t b 5] {zs : List Value} [z : ZC P t zs] {c1 c2 c3 c4 c5 : AV} (h : ∀ id, AOps P ro ops rest Q ⟨(d, .ptr id 5 0 0) :: T, (id, .rows t 5 [[c1, c2, c3, c4, c5]]) :: H, D, n⟩) (hl : zs.map AV.v = [c1, c2, c3, c4, c5] := by rfl) (hn : zs.length = 5 := by rfl) (h1 : (zs.map AV.v).all one = true := by rfl) (hd : Nat.blt d n = true := by rfl) : AOps P ro ops ({ dst := some d, op := .alloc t, type := ty, pos := po, after := af, guard := none } :: rest) Q ⟨T, H, D, n⟩ := Z1a (w0 rfl) hd (fun id => Z1f id rfl hn h1) (by rw [hl]; exact h)
theorem Zhr {b : Bool} [kt : TK P t b 7] {zs : List Value} [z : ZC P t zs] {c1 c2 c3 c4 c5 c6 c7 : AV} (h : ∀ id, AOps P ro ops rest Q ⟨(d, .ptr id 7 0 0) :: T, (id, .rows t 7 [[c1, c2, c3, c4, c5, c6, c7]]) :: H, D, n⟩) (hl : zs.map AV.v = [c1, c2, c3, c4, c5, c6, c7] := by rfl) (hn : zs.length = 7 := by rfl) (h1 : (zs.map AV.v).all one = true := by rfl) (hd : Nat.blt d n = true := by rfl) : AOps P ro ops ({ dst := some d, op := .alloc t, type := ty, pos := po, after := af, guard := none } :: rest) Q ⟨T, H, D, n⟩ := Z1a (w0 rfl) hd (fun id => Z1f id rfl hn h1) (by rw [hl]; exact h)
theorem zLd {id sz i c el : Nat} {es : List (List AV)} {ee : List AV} (j : Nat) (h : AOps P ro ops rest Q ⟨(d, x) :: T, H, D, n⟩) (hp : ev T p = some (.ptr id sz i c) := by rfl) (hH : H[j]? = some (id, .rows el sz es) := by rfl) (he : es[i]? = some ee := by rfl) (hl : Ld P t (ee.drop c) x := by first | exact Z0t | exact Ze0 | exact Z3a | exact Ze1 | exact Ze2 | exact Zc4) (hd : Nat.blt d n = true := by rfl) : AOps P ro ops ({ dst := some d, op := .load t p, type := ty, pos := po, after := af, guard := none } :: rest) Q ⟨T, H, D, n⟩ := Z0h j (w0 rfl) hd rfl hp hH he hl h
theorem Zgd {id sz i c el g gt : Nat} {gb : Bool} {og : Oper} {es : List (List AV)} {ee : List AV} (j : Nat) (h : AOps P ro ops rest Q ⟨(d, x) :: T, H, D, n⟩) (g1 : ops[g]? = some og := by rfl) (g2 : og.dst = some gt := by rfl) (g3 : lk T gt = some (.v (.bool gb)) := by rfl) (hp : ev T p = some (.ptr id sz i c) := by rfl) (hH : H[j]? = some (id, .rows el sz es) := by rfl) (he : es[i]? = some ee := by rfl) (hl : Ld P t (ee.drop c) x := by first | exact Z0t | exact Ze0 | exact Z3a | exact Ze1 | exact Ze2 | exact Zc4) (hd : Nat.blt d n = true := by rfl) : AOps P ro ops ({ dst := some d, op := .load t p, type := ty, pos := po, after := af, guard := some (g, gb) } :: rest) Q ⟨T, H, D, n⟩ := Z0h j (wY rfl g1 g2 g3) hd rfl hp hH he hl h
theorem zSt {m id sz i c el : Nat} {b : Bool} {es : List (List AV)} {ee : List AV} {H' : AHeap} (j : Nat) [kt : TK P t b m] (h : AOps P ro ops rest Q ⟨T, H', D, n⟩) (hp : ev T p = some (.ptr id sz i c) := by rfl) (hH : H[j]? = some (id, .rows el sz es) := by rfl) (he : es[i]? = some ee := by rfl) (hq : ev T q = some x := by rfl) (hx : (cellsA x).length = m := by rfl) (h1 : (cellsA x).all one = true := by rfl) (hc : Nat.ble (c + m) sz = true := by rfl) (hh : H.set j (id, .rows el sz (es.set i (ee.take c ++ cellsA x ++ ee.drop (c + (cellsA x).length)))) = H' := by rfl) : AOps P ro ops ({ dst := none, op := .store t p q, type := ty, pos := po, after := af, guard := none } :: rest) Q ⟨T, H, D, n⟩ := by subst hh; exact Z0r j (w0 rfl) rfl rfl hp hH he hq hx h1 hc h
theorem Zgc {id sz i c el : Nat} {es : List (List AV)} {ee : List AV} (j : Nat) (h : Calm P ops H0 KK (kk + 1) rest M ⟨(d, x) :: T, H, D, n⟩) (hp : ev T p = some (.ptr id sz i c) := by rfl) (hH : H0[j]? = some (id, .rows el sz es) := by rfl) (he : es[i]? = some ee := by rfl) (hl : Ld P t (ee.drop c) x := by first | exact Z0t | exact Ze0 | exact Z3a | exact Ze1 | exact Ze2 | exact Zc4) (hd : Nat.blt d n = true := by rfl) : Calm P ops H0 KK kk ({ dst := some d, op := .load t p, type := ty, pos := po, after := af, guard := none } :: rest) M ⟨T, H, D, n⟩ := Zm j (w0 rfl) hd rfl hp hH he hl h
theorem Zea {id sz i c el g gt : Nat} {gb : Bool} {og : Oper} {es : List (List AV)} {ee : List AV} (j : Nat) (h : Calm P ops H0 KK (kk + 1) rest M ⟨(d, x) :: T, H, D, n⟩) (g1 : ops[g]? = some og := by rfl) (g2 : og.dst = some gt := by rfl) (g3 : lk T gt = some (.v (.bool gb)) := by rfl) (hp : ev T p = some (.ptr id sz i c) := by rfl) (hH : H0[j]? = some (id, .rows el sz es) := by rfl) (he : es[i]? = some ee := by rfl) (hl : Ld P t (ee.drop c) x := by first | exact Z0t | exact Ze0 | exact Z3a | exact Ze1 | exact Ze2 | exact Zc4) (hd : Nat.blt d n = true := by rfl) : Calm P ops H0 KK kk ({ dst := some d, op := .load t p, type := ty, pos := po, after := af, guard := some (g, gb) } :: rest) M ⟨T, H, D, n⟩ := Zm j (wY rfl g1 g2 g3) hd rfl hp hH he hl h
theorem Zi9 (h : KK ⟨T, H, D, n⟩) : Calm P ops H0 KK kk [] M ⟨T, H, D, n⟩ := .done h
theorem zcD {g gt : Nat} {gb : Bool} {og : Oper} {op : Op} (h : Calm P ops H0 KK (kk + 1) rest M ⟨(d, .v undef) :: T, H, D, n⟩) (g1 : ops[g]? = some og := by rfl) (g2 : og.dst = some gt := by rfl) (g3 : lk T gt = some (.v (.bool (!gb))) := by rfl) (hd : Nat.blt d n = true := by rfl) : Calm P ops H0 KK kk ({ dst := some d, op := op, type := ty, pos := po, after := af, guard := some (g, gb) } :: rest) M ⟨T, H, D, n⟩ := .off (wZ rfl g1 g2 g3) hd h
theorem Zgk {id : Nat} {l : List Oper} (h : Calm P l.toArray H (AOps P ro l.toArray [] Q) 0 l [] ⟨T, H, D, n⟩) (hm : P.follows .mixedOrders = true := by rfl) (ht : tidyM l.toArray (masksOf l) l.length = true := by kernel_rfl) : AWp P ro (.region id l.toArray true) Q ⟨T, H, D, n⟩ := Z0d (masksOf l) l.length hm (by rw [List.take_length]; exact ht) (by rw [List.take_length, List.drop_length]; exact h)
theorem zN (h : Q .normal ⟨T, H, D, n⟩) : AOps P ro ops [] Q ⟨T, H, D, n⟩ := Z3 h
variable {s : St}
theorem tqR {K : St → Prop} (h : Q .ret s) : thenQ K Q .ret s := h
theorem bqR {i : Nat} (h : Q .ret s) : blockQ i Q .ret s := h
theorem tqN {K : St → Prop} (h : K s) : thenQ K Q .normal s := h
theorem bqN {i : Nat} (h : Q .normal s) : blockQ i Q .normal s := h
theorem tqX {K : St → Prop} {i : Nat} (h : Q (.exit i) s) : thenQ K Q (.exit i) s := h
theorem bqX {i : Nat} (h : Q .normal s) : blockQ i Q (.exit i) s := by simp only [blockQ, if_true]; exact h
theorem qcT {c : Operand} {x y : Code} (h : AWp P ro x Q s) (hc : ev s.T c = some (.v (.bool true)) := by rfl) : AWp P ro (.cond c x y) Q s := Ze hc (fun _ => h) nofun
theorem qcF {c : Operand} {x y : Code} (h : AWp P ro y Q s) (hc : ev s.T c = some (.v (.bool false)) := by rfl) : AWp P ro (.cond c x y) Q s := Ze hc nofun (fun _ => h)
theorem Zhp (h : Q .ret s) : AWp P ro .ret Q s := Z02 h
theorem st2 {x0 x1 : AV} {c : Code} (h : AWp P ro c Q ⟨[(0, x0), (1, x1)], H, D, n⟩) : AWp P ro c Q ⟨enum [x0, x1] 0, H, D, n⟩ := h
end
theorem wk {A B : Prop} (x : A) (h : Wk A → B := by
 intro h
 repeat (first | refine qS ?_ | refine qR ?_ | refine zN ?_ | refine tqN ?_ | refine tqR ?_ | refine bqN ?_ | refine bqR ?_ | refine tqX ?_ | refine bqX ?_ | refine qB ?_ | refine qK ?_ | refine qcT ?_ | refine qcF ?_ | refine Zhp ?_ | refine qX ?_ | refine zM ?_ | refine zA ?_ | refine zI ?_ | refine zX ?_ | refine zF ?_ | refine zB1 ?_ | refine zB2 ?_ | refine zB3 ?_ | refine zB4 ?_ | refine zB5 ?_ | refine zB7 ?_ | refine zB9 ?_ | refine Zhs ?_ | refine zPT ?_ | refine zPF ?_ | refine zK ?_ | refine zJ ?_ | refine zP ?_ | refine zL ?_ | refine zNt ?_ | refine zUt ?_ | refine zUf ?_ | refine zU ?_ | refine zNc ?_ | refine zLn ?_ | refine Zhv ?_ | refine Zhu ?_ | refine zEq ?_ | refine zNe ?_ | refine Zht ?_ | refine zCv ?_ | refine zSx ?_ | refine zC0 ?_ | refine zC1 ?_ | refine zC2 ?_ | refine zC3 ?_ | refine zC4 ?_ | refine zLd 0 ?_ | refine zLd 1 ?_ | refine zLd 2 ?_ | refine zLd 3 ?_ | refine zSt 0 ?_ | refine zSt 1 ?_ | refine zSt 2 ?_ | refine zSt 3 ?_ | refine zD ?_ | refine zgM ?_ | refine zgA ?_ | refine zgI ?_ | refine zgX ?_ | refine zgF ?_ | refine Ziu ?_ | refine Ziv ?_ | refine Ziw ?_ | refine Zix ?_ | refine Ziy ?_ | refine Ziz ?_ | refine Zj0 ?_ | refine Zhc ?_ | refine Zjd ?_ | refine Zjc ?_ | refine zgK ?_ | refine zgJ ?_ | refine zgP ?_ | refine zgL ?_ | refine Zjb ?_ | refine Zjg ?_ | refine Zjf ?_ | refine zgU ?_ | refine Zj9 ?_ | refine Zj8 ?_ | refine Zhf ?_ | refine Zhe ?_ | refine Zj7 ?_ | refine Zja ?_ | refine Zhd ?_ | refine Zj6 ?_ | refine Zje ?_ | refine Zj1 ?_ | refine Zj2 ?_ | refine Zj3 ?_ | refine Zj4 ?_ | refine Zj5 ?_ | refine Zgd 0 ?_ | refine Zgd 1 ?_ | refine Zgd 2 ?_ | refine Zgd 3 ?_ | refine Zgk ?_ | refine zcM ?_ | refine zcA ?_ | refine zcI ?_ | refine zcX ?_ | refine zcF ?_ | refine Zhw ?_ | refine Zhx ?_ | refine Zhy ?_ | refine Zhz ?_ | refine Zi0 ?_ | refine Zi1 ?_ | refine Zi2 ?_ | refine Zgl ?_ | refine Zig ?_ | refine Zif ?_ | refine zcK ?_ | refine zcJ ?_ | refine zcP ?_ | refine zcL ?_ | refine Zie ?_ | refine Zij ?_ | refine Zii ?_ | refine zcU ?_ | refine Zic ?_ | refine Zib ?_ | refine Zgo ?_ | refine Zgn ?_ | refine Zia ?_ | refine Zid ?_ | refine Zgm ?_ | refine Zi8 ?_ | refine Zih ?_ | refine Zi3 ?_ | refine Zi4 ?_ | refine Zi5 ?_ | refine Zi6 ?_ | refine Zi7 ?_ | refine Ziq ?_ | refine Zik ?_ | refine Zim ?_ | refine Zit ?_ | refine Zil ?_ | refine Zgp ?_ | refine Zgq ?_ | refine Zgr ?_ | refine Zgs ?_ | refine Zgt ?_ | refine Zgu ?_ | refine Zgv ?_ | refine Zg8 ?_ | refine Zh8 ?_ | refine Zh7 ?_ | refine Zio ?_ | refine Zin ?_ | refine Zir ?_ | refine Zip ?_ | refine Zh6 ?_ | refine Zhb ?_ | refine Zha ?_ | refine Zis ?_ | refine Zh4 ?_ | refine Zh3 ?_ | refine Zgb ?_ | refine Zga ?_ | refine Zh2 ?_ | refine Zh5 ?_ | refine Zg9 ?_ | refine Zh1 ?_ | refine Zh9 ?_ | refine Zgw ?_ | refine Zgx ?_ | refine Zgy ?_ | refine Zgz ?_ | refine Zh0 ?_ | refine Zgc 0 ?_ | refine Zgc 1 ?_ | refine Zgc 2 ?_ | refine Zgc 3 ?_ | refine Zea 0 ?_ | refine Zea 1 ?_ | refine Zea 2 ?_ | refine Zea 3 ?_ | refine Zi9 ?_ | refine zcD ?_)
 exact h.x) : B := h ⟨x⟩
end Go.Sx
namespace Go.Sx
open Go Go.Proofs
def MRef.kv (r : MRef) : List Value := [.string r.cls, .string r.name, .string r.desc]
instance mrefKey : FKey Tryz.prog 24 MRef.kv [.str, .str, .str] where
 eq := inferInstance
 ck := fun _ => rfl
 inj := fun a b => by
  have h1 : vseq (MRef.kv a) (MRef.kv b) = (beqS a.cls b.cls && (beqS a.name b.name && beqS a.desc b.desc)) := by simp [MRef.kv, vseq, veq, beqS]
  rw [h1, Bool.eq_iff_iff, Bool.and_eq_true, Bool.and_eq_true, beqS_iff, beqS_iff, beqS_iff, decide_eq_true_iff]
  cases a; cases b
  simp
 chk := fun b a w => by
  unfold kagg MRef.kv
  kernel_rfl
 same := fun a => by
  simp [kagg, MRef.kv, Instr.sameBits, Z6f, Z76]
end Go.Sx
namespace Go.Sx
open Go Go.Proofs
theorem Zfy {P : Program} {o : Oper} {T : List (Nat × AV)} {Hn : AHeap} {x y : AV} {On : AHeap} (h : Eff P o T Hn x On) (k : ∀ C v, VR C x v → VR C y v) : Eff P o T Hn y On :=
 fun Z C H a w hw hn hv hi hd hz ro next R hk => h Z C H a w hw hn hv hi hd hz ro next R (fun v w1 C1 hv1 => hk v w1 C1 (k C1 v hv1))
def mkd (v : Value) : MRef := match v with | .agg vs => (match vs.toList with | [.string a, .string b, .string c] => ⟨a, b, c⟩ | _ => ⟨⟨#[]⟩, ⟨#[]⟩, ⟨#[]⟩⟩) | _ => ⟨⟨#[]⟩, ⟨#[]⟩, ⟨#[]⟩⟩
theorem Zce (a : MRef) : mkd (kagg MRef.kv a) = a := rfl
theorem Zgi {C : Ctx} {a : MRef} {v : Value} (h : VR C (.v (kagg MRef.kv a)) v) : VR C a.av v := by
 rw [VR.val h]; exact Zd1 (MRef.kv a)
theorem Zdd (es : List (MRef × AV)) (ho : (es.map Prod.fst).Nodup) (i1 q : Nat) : SeqG Tryz.prog 26 [.ptr i1 1 0 0] [(i1, .rows 35 1 [[.map q]]), (q, .mp (fmp MRef.kv es))] (fun s : MRef => [s.av]) (AdmF (es.map Prod.fst)) (FinF (es.map Prod.fst)) := by
 refine ⟨⟨_, Tryz.func26, rfl, by decide +kernel⟩, ?_⟩
 intro id J Jx hY Hj hJ0
 refine Zw (n := 14) Tryz.func26 rfl (by decide +kernel) rfl rfl ?_
 intro Z C0 H0 wz C a w he hs
 obtain ⟨mb, N, ents, clock, hm, hu, hE, hw1, he1⟩ := Zcc (Z := Z) (k := 1) hs.wr rfl
 have hs1 : SR C ⟨enum [.yld id, .ptr i1 1 0 0] 0, [(i1, .rows 35 1 [[.map q]]), (q, .raw (.map ents clock))] ++ Hj, [], 14⟩ a w := ⟨hw1, hs.sl, hs.df, hs.du, hs.sz⟩
 refine wpIn_mono ((?_ : AWpO Z C ([(i1, .rows 35 1 [[.map q]]), (q, .raw (.map ents clock))] ++ Hj) w Tryz.prog none _ (RetQ Tryz.prog Tryz.f26 (SeqGR (FinF (es.map Prod.fst)) J Jx)) _) C a w (.refl ..) hs1) ?_
 rotate_left
 ·rintro e a' w' ⟨h1, C', s', hq, hs', he'⟩
  exact ⟨h1, C', s', hq, hs', (he.trans he1).trans he'⟩
 refine Z3k ?_
 refine Z35 ?_
 refine Zb6 [(i1, .rows 35 1 [[.map q]])] (.map q) (w0 rfl) rfl (Z1l rfl rfl ⟨_, _, _, List.mem_cons_self, rfl, rfl⟩ Z0t) (fun p hp => by rw [List.mem_singleton.1 hp]; exact List.mem_cons_self) ?_
 refine Z8i 1 (w0 rfl) rfl rfl rfl rfl hm hu (fun it => ?_)
 refine Z4s ?_
 refine Z60 ?_
 refine Zag (α := List MapEntry × AHeap) (fun x => ⟨[(5, .ptr it 1 0 0), (0, .yld id)], [(it, .raw (.mapIter (some mb) clock (bornsA x.1) clock)), (q, .raw (.map ents clock))] ++ x.2, [], 14⟩)
  (fun x => GotF ents x.1 ∧ J (x.1.map fun e => mkd e.key) x.2) (fun x => (leftOf ents (bornsA x.1)).size) ([], Hj) ⟨.start ents, hJ0⟩ ?_ ?_
 ·exact Z8a (F := [_, _, _]) (F' := [_, _]) (Hj := Hj) [0, 2] ⟨rfl, rfl, trivial⟩ rfl rfl rfl (by decide) rfl rfl
 rintro x ⟨hG, hJx⟩
 refine Z3k ?_
 refine Z35 ?_
 refine Zae 0 1 (w0 rfl) rfl rfl rfl rfl rfl hm hu hE.born (Nat.le_refl _) (fun hz => ?_) (fun e hem => ?_)
 ·refine Z8g (w0 rfl) rfl (Zt rfl rfl rfl) ?_
  refine Z4s ?_
  refine Z3k ?_
  refine Z73 rfl nofun (fun _ => ?_)
  refine Z8k (Z05 ?_)
  exact Zr rfl Zu (.cons _ (.cons _ (.refl _))) ⟨⟨_, rfl⟩, .inl ⟨_, _, hG.fin Zce hE ho hz, .refl _, hJx⟩⟩
 ·have hk := hE.keyF Zce (mem_left hem).1
  have hG2 := hG.step hem
  have hA : AdmF (es.map Prod.fst) ((x.1.map fun e => mkd e.key) ++ [mkd e.key]) := by have := hG2.keys Zce hE ho; rw [List.map_append] at this; exact this
  refine Z8g (w0 rfl) rfl (Zt rfl rfl rfl) ?_
  refine Z4s ?_
  refine Z3k ?_
  refine Z73 rfl (fun _ => ?_) nofun
  refine Z8k (Zi ?_)
  refine Z60 ?_
  refine Z3k ?_
  refine Z35 ?_
  refine Z8h 0 1 (w0 rfl) rfl rfl rfl rfl rfl hm hu (mem_left hem).1 hE.nd ?_
  refine Z8g (w0 rfl) rfl (Zfy (y := (mkd e.key).av) (Zt rfl rfl rfl) (fun C v h => by rw [hk.1] at h; exact Zgi h)) ?_
  refine Zd5 ?_
  refine Z1a (w0 rfl) rfl (fun id => Z1f id rfl rfl rfl) (fun id1 => ?_)
  refine Z0r 0 (w0 rfl) rfl rfl rfl rfl rfl rfl rfl rfl rfl ?_
  refine Z3 ?_
  refine Z8k ?_
  refine Z4 ?_
  refine Z0 ?_
  refine Z5 (w0 rfl) rfl (Z7 rfl rfl) ?_
  refine Z0h 0 (w0 rfl) rfl rfl rfl rfl rfl Z3a ?_
  refine Z8f (J := J) (Jx := Jx) (l := (x.1.map fun e => mkd e.key) ++ [mkd e.key]) [_, _, _] x.2 (w0 rfl) rfl rfl rfl rfl rfl (hY _ _ _ hA hJx) (fun bY Hn hyT hyF => ?_)
  refine Z5 (w0 rfl) rfl (Z0m rfl rfl) ?_
  refine Z3 ?_
  refine Ze rfl ?_ ?_
  ·intro hc
   refine Z02 ?_
   exact Zr rfl Zu (.cons _ (.cons _ (.cons _ (.refl _)))) ⟨⟨_, rfl⟩, .inr ⟨_, _, .refl _, hyF (Z8b hc)⟩⟩
  ·intro hc
   refine Zi ?_
   refine ⟨(x.1 ++ [e], Hn), ⟨hG2, by show J ((x.1 ++ [e]).map fun e => mkd e.key) Hn; rw [List.map_append]; exact hyT (Zcj hc)⟩, GotF.dec hem, ?_⟩
   exact Z8a (F := [_, _, _]) (F' := [_, _]) (Hj := Hn) [1, 2] ⟨rfl, rfl, trivial⟩ rfl rfl (by rw [Z4u]) (by decide) rfl rfl
end Go.Sx
namespace Go.Sx
open Go Go.Proofs
def KeysM (q : Nat) (es : List (MRef × AV)) : AEnd → AHeap → Prop := fun e H => ∃ i1, e = .ret (.fn (.func 26) [.ptr i1 1 0 0]) ∧ H = [(i1, .rows 35 1 [[.map q]]), (q, .mp (fmp MRef.kv es))]
theorem Zew (q : Nat) (es : List (MRef × AV)) : ACalls Tryz.prog 10 [.map q] [(q, .mp (fmp MRef.kv es))] (KeysM q es) := by
 refine Zw (n := 4) Tryz.func10 rfl (by decide +kernel) rfl rfl ?_
 refine Z4 ?_
 refine Z0 ?_
 refine Z1a (w0 rfl) rfl (fun id => Z38 id rfl rfl rfl rfl rfl) (fun id1 => ?_)
 refine Z5 (w0 rfl) rfl (Zp rfl rfl) ?_
 refine Z3 ?_
 refine Z4 ?_
 refine Z0 ?_
 refine Z5 (w0 rfl) rfl (Z1v rfl rfl) ?_
 refine Z5 (w0 rfl) rfl (Zp rfl rfl) ?_
 refine Z3 ?_
 refine Z02 ?_
 exact Zr rfl (Zy rfl Zu) (.refl _) ⟨id1, rfl, rfl⟩
theorem Z77 (g : Nat) (caps : List AV) (Hit : AHeap) (Adm Fin : List MRef → Prop) (hx : ∀ l, Adm l → l.length ≤ 1000) (hseq : SeqG Tryz.prog g caps Hit (fun s : MRef => [s.av]) Adm Fin) :
  ACalls Tryz.prog 67 [.v (.slice none 0 0), .fn (.func g) caps] Hit (GP (fun r : Nat × List MRef => .own r.1 3 0 r.2.length) (fun r => [(r.1, .rows 24 3 (r.2.map MRef.cells))]) (fun r => Fin r.2)) := by
 refine Zw (n := 13) Tryz.func67 rfl (by decide +kernel) rfl rfl ?_
 refine Z4 ?_
 refine Z0 ?_
 refine Z1a (w0 rfl) rfl (fun id => Z38 id rfl rfl rfl rfl rfl) (fun id1 => ?_)
 refine Z5 (w0 rfl) rfl (Zp rfl rfl) ?_
 refine Z3 ?_
 refine Z4 ?_
 refine Z4 ?_
 refine Z8j 0 (qe := 24) (qs := 3) rfl (fun idq => ?_)
 refine Z0 ?_
 refine Z5 (w0 rfl) rfl (Z7 rfl rfl) ?_
 refine Z3 ?_
 refine Zn ?_
 refine Z5v (fun s : MRef => [s.av]) Adm Fin Hit [_, _] (fun pre Hb => ∃ q, Hb = [(q, .rows 24 3 (pre.map MRef.cells)), (id1, .rows 25 1 [[.own q 3 0 pre.length]])]) (fun _ _ _ => False) rfl (List.perm_append_comm (l₁ := [_, _])) ⟨idq, rfl⟩ (hseq) (fun _ => rfl) (lts rfl) ?_ ?_ ?_
 ·rintro l pre z Hb hA ⟨q, rfl⟩
  have hlz : pre.length < 1001 := by have := hx _ hA; simp at this; omega
  refine Z0 ?_
  refine Z1a (w0 rfl) rfl (fun id => Z1f id rfl rfl rfl) (fun id5 => ?_)
  refine Z0r 0 (w0 rfl) rfl rfl rfl rfl rfl rfl rfl rfl rfl ?_
  refine Z3 ?_
  refine ⟨rfl, ?_⟩
  refine Zn ?_
  refine Z0 ?_
  refine Z0h 2 (w0 rfl) rfl rfl rfl rfl rfl Z0t ?_
  refine Z0h 0 (w0 rfl) rfl rfl rfl rfl rfl Z3a ?_
  refine Z1a (w0 rfl) rfl (fun id => Z11 id (ps := [(0, .tmp 9)]) rfl rfl rfl rfl rfl rfl rfl rfl) (fun id2 => ?_)
  refine Z34 2 (w0 rfl) rfl rfl rfl rfl (by simp) rfl ⟨rfl, _, _, List.mem_of_getElem? (i := 0) rfl, by simp, rfl⟩ (by first | omega | (simp; omega) | (simp [maxLen]; omega) | (simp; done) | (simp [maxLen]; done)) (by first | omega | (simp; omega) | (simp [maxLen]; omega) | (simp; done) | (simp [maxLen]; done)) (fun id3 => ?_)
  refine Z0r 3 (w0 rfl) rfl rfl rfl rfl rfl rfl rfl rfl rfl ?_
  refine Z3 ?_
  exact ⟨⟨[], [_, _], [], 13⟩, Z8 [2, 3] trivial rfl (by decide) rfl rfl, id3, by show [(_, AObj.rows _ _ _), (_, AObj.rows _ _ _)] = [(_, AObj.rows _ _ _), (_, AObj.rows _ _ _)]; simp [cellsA, MRef.cells]⟩
 ·rintro im ll Hb hfl ⟨q, rfl⟩
  refine Z4 ?_
  refine Z0 ?_
  refine Z0h 1 (w0 rfl) rfl rfl rfl rfl rfl Z0t ?_
  refine Z5 (w0 rfl) rfl (Zp rfl rfl) ?_
  refine Z3 ?_
  refine Z02 ?_
  exact Zgh (F := [_, _]) rfl rfl (Zy rfl Zu) (.cons_cons _ (.cons _ .slnil)) (gp (q, ll) hfl rfl rfl)
 ·intro i c pre Hb h; exact h.elim
theorem Zaj (g : Nat) (caps : List AV) (Hit : AHeap) (Adm Fin : List MRef → Prop) (hx : ∀ l, Adm l → l.length ≤ 1000) (hseq : SeqG Tryz.prog g caps Hit (fun s : MRef => [s.av]) Adm Fin) :
  ACalls Tryz.prog 24 [.fn (.func g) caps] Hit (GP (fun r : Nat × List MRef => .own r.1 3 0 r.2.length) (fun r => [(r.1, .rows 24 3 (r.2.map MRef.cells))]) (fun r => Fin r.2)) := by
 refine Zw (n := 5) Tryz.func24 rfl (by decide +kernel) rfl rfl ?_
 refine Z4 ?_
 refine Z0 ?_
 refine Z5 (w0 rfl) rfl (Zp rfl rfl) ?_
 refine Z3 ?_
 refine Z4 ?_
 refine Z0 ?_
 refine Z5 (w0 rfl) rfl (Z7 rfl rfl) ?_
 refine Zh Hit [] (w0 rfl) rfl rfl rfl rfl (by simp) (Z77 g caps Hit Adm Fin hx hseq) (fun r hr => ?_)
 refine Z5 (w0 rfl) rfl (Zp rfl rfl) ?_
 refine Z3 ?_
 refine Z02 ?_
 exact Zr rfl (Zy rfl Zu) (.refl _) (gp r hr rfl rfl)
end Go.Sx
namespace Go.Sx
open Go
section
variable {P : Program} {ro : Option Nat} {Q : Exit → St → Prop} {ops : Array Oper} {rest : List Oper} {T : List (Nat × AV)} {H : AHeap} {D : List Nat} {n d ty : Nat} {po : String} {af : Array Edge} {op : Op} {x : AV} {H0 : AHeap} {KK : St → Prop} {kk : Nat} {M : List (Nat × (Nat × AObj))}
theorem zE (he : Eff P { dst := some d, op := op, type := ty, pos := po, after := af, guard := none } T [] x []) (h : AOps P ro ops rest Q ⟨(d, x) :: T, H, D, n⟩) (hd : Nat.blt d n = true := by rfl) : AOps P ro ops ({ dst := some d, op := op, type := ty, pos := po, after := af, guard := none } :: rest) Q ⟨T, H, D, n⟩ := Z5 (w0 rfl) hd he h
theorem zcE (he : Eff P { dst := some d, op := op, type := ty, pos := po, after := af, guard := none } T [] x []) (h : Calm P ops H0 KK (kk + 1) rest M ⟨(d, x) :: T, H, D, n⟩) (hd : Nat.blt d n = true := by rfl) : Calm P ops H0 KK kk ({ dst := some d, op := op, type := ty, pos := po, after := af, guard := none } :: rest) M ⟨T, H, D, n⟩ := Za (w0 rfl) hd he h
theorem zCH {fo : Operand} {args : Array Operand} {ats : Array TypeId} {f id : Nat} {ob : AObj} {caps xs : List AV} (j : Nat) (hc : ACalls P f (xs ++ caps) [(id, ob)] (GivesH x [(id, ob)])) (h : AOps P ro ops rest Q ⟨(d, x) :: T, H, D, n⟩) (hfo : ev T fo = some (.fn (.func f) caps) := by rfl) (hxs : evs T args.toList = some xs := by rfl) (hH : H[j]? = some (id, ob) := by rfl) (hd : Nat.blt d n = true := by rfl) : AOps P ro ops ({ dst := some d, op := .call { callee := .value fo, args := args, argTypes := ats }, type := ty, pos := po, after := af, guard := none } :: rest) Q ⟨T, H, D, n⟩ := Zaa j (w0 rfl) hd rfl hfo hxs hH hc h
theorem zCG {fo : Operand} {args : Array Operand} {ats : Array TypeId} {f : Nat} {caps xs : List AV} (hc : ACalls P f (xs ++ caps) [] (Gives x)) (h : AOps P ro ops rest Q ⟨(d, x) :: T, H, D, n⟩) (hfo : ev T fo = some (.fn (.func f) caps) := by rfl) (hxs : evs T args.toList = some xs := by rfl) (hd : Nat.blt d n = true := by rfl) : AOps P ro ops ({ dst := some d, op := .call { callee := .value fo, args := args, argTypes := ats }, type := ty, pos := po, after := af, guard := none } :: rest) Q ⟨T, H, D, n⟩ := Z5 (w0 rfl) hd (Zq [] rfl hfo hxs hc List.nodup_nil) h
theorem zCP {fo : Operand} {args : Array Operand} {ats : Array TypeId} {g : Nat} {caps xs : List AV} {β : Type} {f : β → AV} {Hb : β → AHeap} {φ : β → Prop} (Hf Fr : AHeap) (hp : H.Perm (Hf ++ Fr)) (hc : ACalls P g (xs ++ caps) Hf (GP f Hb φ)) (h : ∀ b, φ b → AOps P ro ops rest Q ⟨(d, f b) :: T, Hb b ++ Fr, D, n⟩) (hfo : ev T fo = some (.fn (.func g) caps) := by rfl) (hxs : evs T args.toList = some xs := by rfl) (hd : Nat.blt d n = true := by rfl) : AOps P ro ops ({ dst := some d, op := .call { callee := .value fo, args := args, argTypes := ats }, type := ty, pos := po, after := af, guard := none } :: rest) Q ⟨T, H, D, n⟩ := Zh Hf Fr (w0 rfl) hd rfl hfo hxs hp hc h
end
end Go.Sx
namespace Go.Sx
open Go Go.Proofs
structure Edg where
 m : MRef
 pc : Int
 t : MRef
deriving DecidableEq, Inhabited
def Edg.cells (e : Edg) : List AV := [sA e.m.cls, sA e.m.name, sA e.m.desc, iA e.pc, sA e.t.cls, sA e.t.name, sA e.t.desc]
abbrev Edg.av (e : Edg) : AV := .agg e.cells
theorem Zbg (a b : MRef) : ceqs a.cells b.cells = decide (a = b) := by
 rw [Bool.eq_iff_iff, Z7b, decide_eq_true_eq]
 cases a; cases b
 simp only [MRef.mk.injEq, Bool.and_eq_true, beqS_iff]
theorem Zhj (e : Edg) (k : Nat) (m : MRef) : ACalls Tryz.prog 13 [e.av, .ptr k 3 0 0] [(k, .rows 24 3 [m.cells])] (GivesH (bA (decide (e.m = m))) [(k, .rows 24 3 [m.cells])]) := by
 refine Zw (n := 8) Tryz.func13 rfl (by decide +kernel) rfl rfl ?_
 refine wk ?_
 refine Zb3 (fun id => ?_)
 refine wk ?_
 exact Zr rfl (Zy rfl Zu) (.cons _ (.refl _)) (gvH (by show AV.v (.bool (ceqs e.m.cells m.cells)) = _; rw [Zbg]))
theorem Zhl (e : Edg) (k : Nat) (m : MRef) : ACalls Tryz.prog 15 [e.av, .ptr k 3 0 0] [(k, .rows 24 3 [m.cells])] (GivesH (bA (decide (e.t = m))) [(k, .rows 24 3 [m.cells])]) := by
 refine Zw (n := 8) Tryz.func15 rfl (by decide +kernel) rfl rfl ?_
 refine wk ?_
 refine Zb3 (fun id => ?_)
 refine wk ?_
 exact Zr rfl (Zy rfl Zu) (.cons _ (.refl _)) (gvH (by show AV.v (.bool (ceqs e.t.cells m.cells)) = _; rw [Zbg]))
theorem Zhk (e : Edg) : ACalls Tryz.prog 14 [e.av] [] (Gives (e.t).av) := by
 refine Zw (n := 5) Tryz.func14 rfl (by decide +kernel) rfl rfl ?_
 refine wk ?_
 refine Zb3 (fun id => ?_)
 refine Zgj (fun id2 => ?_)
 refine wk ?_
 exact Z69 rfl (Za4 0 rfl rfl rfl Z3a Zu) (gvr rfl)
theorem Zhm (e : Edg) : ACalls Tryz.prog 16 [e.av] [] (Gives (e.m).av) := by
 refine Zw (n := 5) Tryz.func16 rfl (by decide +kernel) rfl rfl ?_
 refine wk ?_
 refine Zb3 (fun id => ?_)
 refine Zgj (fun id2 => ?_)
 refine wk ?_
 exact Z69 rfl (Za4 0 rfl rfl rfl Z3a Zu) (gvr rfl)
end Go.Sx
namespace Go.Sx
open Go Go.Proofs
abbrev risM (l : List MRef) : List MRef := risG mLt l
theorem Z7a (es : List (MRef × AV)) (ho : (es.map Prod.fst).Nodup) (hl : es.length ≤ 1000) (i1 q : Nat) : ACalls Tryz.prog 9 [.fn (.func 26) [.ptr i1 1 0 0], .fn (.func 11) []] [(i1, .rows 35 1 [[.map q]]), (q, .mp (fmp MRef.kv es))] (GP (fun r : Nat => .own r 3 0 (risM (es.map Prod.fst)).length) (fun r => [(r, .rows 24 3 ((risM (es.map Prod.fst)).map MRef.cells))]) (fun _ => True)) := by
 refine Zw (n := 12) Tryz.func9 rfl (by decide +kernel) rfl rfl ?_
 refine wk ?_
 have hx : ∀ l, AdmF (es.map Prod.fst) l → l.length ≤ 1000 := fun l h => by have := h.len; rw [List.length_map] at this; omega
 refine zCP _ [] (by rw [List.append_nil]) (Zaj 26 [.ptr i1 1 0 0] _ _ _ hx (Zdd es ho i1 q)) (fun r hr => ?_)
 obtain ⟨q2, m⟩ := r
 have hr : m.Perm (es.map Prod.fst) := hr
 have hml : m.length ≤ 1000 := by rw [hr.length_eq, List.length_map]; exact hl
 refine wk ?_
 refine zCP [(q2, .rows 24 3 (m.map MRef.cells))] [] (.refl _) (Zbf q2 m.length m rfl (by omega)) (fun s hs => ?_)
 refine wk ?_
 have e : s = risM (es.map Prod.fst) := Z97 mLtT (hs.1.nodup_iff.2 (hr.nodup_iff.2 ho)) (by rw [hs.1.length_eq]; exact hs.2) (fun x => (hs.1.mem_iff).trans hr.mem_iff)
 have e2 : m.length = s.length := hs.1.length_eq.symm
 rw [← e]
 exact Zr rfl (Zy rfl Zu) (.refl _) (gp q2 trivial (by show AV.own _ _ _ _ = AV.own _ _ _ _; simp only [e2]) rfl)
theorem Zde (q n : Nat) (l : List MRef) (hn : l.length = n) (hl : n ≤ 100000) : ACalls Tryz.prog 29 [.own q 3 0 n] [(q, .rows 24 3 (l.map MRef.cells))] (GP (fun _ : Unit => .own q 3 0 (risM l).length) (fun _ => [(q, .rows 24 3 ((risM l).map MRef.cells))]) (fun _ => True)) := by
 subst hn
 refine Zw (n := 7) Tryz.func29 rfl (by decide +kernel) rfl rfl ?_
 refine wk ?_
 refine zCP [(q, .rows 24 3 (l.map MRef.cells))] [] (.refl _) (Zbf q l.length l rfl (by omega)) (fun s hs => ?_)
 have e2 : l.length = s.length := hs.1.length_eq.symm
 refine wk ?_
 refine zCP [(q, .rows 24 3 (s.map MRef.cells))] [] (.refl _) (Zak q l.length s e2.symm (by omega)) (fun m hm => ?_)
 have e : m = risM l := by
  rw [hm]
  exact Zbi mLtT hs.1 (by rw [← e2]; exact hs.2)
 rw [e]
 refine wk ?_
 exact Zr rfl (Zy rfl Zu) (.refl _) (gp () trivial rfl rfl)
end Go.Sx
namespace Go.Sx
open Go
inductive Tr (α : Type) where
 | lf
 | nd (l : Tr α) (x : Option α) (r : Tr α)
def Tr.getF {α : Type} : Nat → Tr α → Nat → Option α
 | 0, _, _ => none
 | _ + 1, .lf, _ => none
 | f + 1, .nd l x r, k => match k with
  | 0 => x
  | k + 1 => bif Nat.beq (k % 2) 0 then getF f l (k / 2) else getF f r (k / 2)
def Tr.putF {α : Type} : Nat → Tr α → Nat → Option α → Tr α
 | 0, t, _, _ => t
 | f + 1, .lf, k, v => match k with
  | 0 => .nd .lf v .lf
  | k + 1 => bif Nat.beq (k % 2) 0 then .nd (putF f .lf (k / 2) v) none .lf else .nd .lf none (putF f .lf (k / 2) v)
 | f + 1, .nd l x r, k, v => match k with
  | 0 => .nd l v r
  | k + 1 => bif Nat.beq (k % 2) 0 then .nd (putF f l (k / 2) v) x r else .nd l x (putF f r (k / 2) v)
abbrev Tr.get {α : Type} (t : Tr α) (k : Nat) : Option α := Tr.getF 40 t k
abbrev Tr.put {α : Type} (t : Tr α) (k : Nat) (v : Option α) : Tr α := Tr.putF 40 t k v
theorem Tr.getF_lf {α : Type} (f k : Nat) : Tr.getF f (.lf : Tr α) k = none := by cases f <;> rfl
theorem Tr.half {a b : Nat} (h : a % 2 = b % 2) (k : a / 2 = b / 2) : a = b := by omega
theorem Tr.get_other {α : Type} : ∀ (f : Nat) (t : Tr α) (d k : Nat) (v : Option α), k ≠ d → Tr.getF f (Tr.putF f t d v) k = Tr.getF f t k
 | 0, t, d, k, v, _ => rfl
 | f + 1, .lf, d, k, v, h => by
  cases d with
  | zero =>
   cases k with
   | zero => exact absurd rfl h
   | succ k => simp [Tr.putF, Tr.getF, Tr.getF_lf]
  | succ d =>
   simp only [Tr.putF]
   cases hd : Nat.beq (d % 2) 0 with
   | true =>
    cases k with
    | zero => simp [Tr.getF]
    | succ k =>
     simp only [cond_true, Tr.getF]
     cases hk : Nat.beq (k % 2) 0 with
     | true =>
      have h1 := Nat.eq_of_beq_eq_true hd
      have h2 := Nat.eq_of_beq_eq_true hk
      simp only [cond_true]
      rw [Tr.get_other f .lf (d / 2) (k / 2) v (fun e => h (by rw [Tr.half (h2.trans h1.symm) e])), Tr.getF_lf]
     | false => simp only [cond_false, Tr.getF_lf]
   | false =>
    cases k with
    | zero => simp [Tr.getF]
    | succ k =>
     simp only [cond_false, Tr.getF]
     cases hk : Nat.beq (k % 2) 0 with
     | true => simp only [cond_true, Tr.getF_lf]
     | false =>
      have h1 : d % 2 ≠ 0 := fun e => by rw [e] at hd; cases hd
      have h2 : k % 2 ≠ 0 := fun e => by rw [e] at hk; cases hk
      simp only [cond_false]
      rw [Tr.get_other f .lf (d / 2) (k / 2) v (fun e => h (by rw [Tr.half (a := k) (b := d) (by omega) e])), Tr.getF_lf]
 | f + 1, .nd l x r, d, k, v, h => by
  cases d with
  | zero =>
   cases k with
   | zero => exact absurd rfl h
   | succ k => simp [Tr.putF, Tr.getF]
  | succ d =>
   simp only [Tr.putF]
   cases hd : Nat.beq (d % 2) 0 with
   | true =>
    cases k with
    | zero => simp [Tr.getF]
    | succ k =>
     simp only [cond_true, Tr.getF]
     cases hk : Nat.beq (k % 2) 0 with
     | true =>
      have h1 := Nat.eq_of_beq_eq_true hd
      have h2 := Nat.eq_of_beq_eq_true hk
      simp only [cond_true]
      exact Tr.get_other f l (d / 2) (k / 2) v (fun e => h (by rw [Tr.half (h2.trans h1.symm) e]))
     | false => simp only [cond_false]
   | false =>
    cases k with
    | zero => simp [Tr.getF]
    | succ k =>
     simp only [cond_false, Tr.getF]
     cases hk : Nat.beq (k % 2) 0 with
     | true => simp only [cond_true]
     | false =>
      have h1 : d % 2 ≠ 0 := fun e => by rw [e] at hd; cases hd
      have h2 : k % 2 ≠ 0 := fun e => by rw [e] at hk; cases hk
      simp only [cond_false]
      exact Tr.get_other f r (d / 2) (k / 2) v (fun e => h (by rw [Tr.half (a := k) (b := d) (by omega) e]))
theorem Tr.get_same {α : Type} : ∀ (f : Nat) (t : Tr α) (d : Nat) (v : Option α) (y : α), Tr.getF f (Tr.putF f t d v) d = some y → v = some y
 | 0, t, d, v, y, h => by simp [Tr.getF] at h
 | f + 1, .lf, d, v, y, h => by
  cases d with
  | zero => simpa [Tr.putF, Tr.getF] using h
  | succ d =>
   simp only [Tr.putF] at h
   cases hd : Nat.beq (d % 2) 0 with
   | true => simp only [hd, cond_true, Tr.getF] at h; exact Tr.get_same f .lf (d / 2) v y h
   | false => simp only [hd, cond_false, Tr.getF] at h; exact Tr.get_same f .lf (d / 2) v y h
 | f + 1, .nd l x r, d, v, y, h => by
  cases d with
  | zero => simpa [Tr.putF, Tr.getF] using h
  | succ d =>
   simp only [Tr.putF] at h
   cases hd : Nat.beq (d % 2) 0 with
   | true => simp only [hd, cond_true, Tr.getF] at h; exact Tr.get_same f l (d / 2) v y h
   | false => simp only [hd, cond_false, Tr.getF] at h; exact Tr.get_same f r (d / 2) v y h
theorem Tr.put_get {α : Type} {t : Tr α} {d k : Nat} {v : Option α} {y : α} (h : (t.put d v).get k = some y) : (k = d ∧ v = some y) ∨ (k ≠ d ∧ t.get k = some y) := by
 by_cases e : k = d
 ·subst e; exact .inl ⟨rfl, Tr.get_same 40 t k v y h⟩
 ·exact .inr ⟨e, by rw [← h]; exact (Tr.get_other 40 t d k v e).symm⟩
theorem Tr.get_lt {α : Type} : ∀ (f : Nat) (t : Tr α) (k : Nat) (y : α), Tr.getF f t k = some y → k + 1 < 2 ^ f
 | 0, t, k, y, h => by simp [Tr.getF] at h
 | f + 1, .lf, k, y, h => by simp [Tr.getF] at h
 | f + 1, .nd l x r, k, y, h => by
  cases k with
  | zero => rw [Nat.pow_succ]; have : 1 ≤ 2 ^ f := Nat.one_le_two_pow; omega
  | succ k =>
   simp only [Tr.getF] at h
   rw [Nat.pow_succ]
   cases hd : Nat.beq (k % 2) 0 with
   | true => simp only [hd, cond_true] at h; have := Tr.get_lt f l (k / 2) y h; omega
   | false => simp only [hd, cond_false] at h; have := Tr.get_lt f r (k / 2) y h; omega
def lsOf {α : Type} (f : Nat → Option α) (l : List Nat) : List (Nat × α) := l.filterMap fun t => (f t).map fun x => (t, x)
theorem Zc7 (f : Nat → Option AV) (k : Nat) : ∀ l : List Nat, lk (lsOf f l) k = if k ∈ l then f k else none
 | [] => by simp [lsOf, lk]
 | a :: l => by
  have ih := Zc7 f k l
  unfold lsOf at ih ⊢
  cases hf : f a with
  | none =>
   rw [List.filterMap_cons_none (by rw [hf]; rfl), ih]
   by_cases e : k = a
   ·subst e; simp [hf]
   ·simp [e]
  | some x =>
   rw [List.filterMap_cons_some (by rw [hf]; rfl)]
   simp only [lk]
   by_cases e : k = a
   ·subst e; simp [hf]
   ·have hb : Nat.beq a k = false := by
     cases hb : Nat.beq a k with
     | true => exact absurd (Nat.eq_of_beq_eq_true hb).symm e
     | false => rfl
    rw [hb, cond_false, ih]
    simp [e]
theorem Tr.ex_ls (t : Tr AV) : ∃ T : List (Nat × AV), ∀ k, lk T k = t.get k := by
 refine ⟨lsOf t.get (List.range (2 ^ 40)), fun k => ?_⟩
 rw [Zc7]
 split
 ·rfl
 ·rename_i h
  cases hg : t.get k with
  | none => rfl
  | some x =>
   have := Tr.get_lt 40 t k x hg
   exact absurd (List.mem_range.2 (by omega)) h
noncomputable def Tr.ls (t : Tr AV) : List (Nat × AV) := Classical.choose t.ex_ls
theorem Tr.lk_ls (t : Tr AV) (k : Nat) : lk t.ls k = t.get k := Classical.choose_spec t.ex_ls k
end Go.Sx
namespace Go.Sx
open Go
end Go.Sx
namespace Go.Sx
open Go
def plainOb : AObj → Bool
 | .rows .. => true
 | .mp _ => true
 | .raw _ => true
 | _ => false
structure Hp where
 H : Tr AObj
 R : List (Tr AObj)
def getR : List (Tr AObj) → Nat → Option AObj
 | [], _ => none
 | t :: r, i => match t.get i with
  | some o => bif plainOb o then some o else getR r i
  | none => getR r i
def Hp.get (h : Hp) (i : Nat) : Option AObj := match getR h.R i with
 | some o => some o
 | none => h.H.get i
def Hp.put (h : Hp) (i : Nat) (v : Option AObj) : Hp := ⟨h.H.put i v, h.R⟩
def Hp.own (h : Hp) (i : Nat) : Option AObj := match getR h.R i with
 | some _ => none
 | none => h.H.get i
theorem Hp.own_spec {h : Hp} {i : Nat} {o : AObj} (hg : h.own i = some o) : getR h.R i = none ∧ h.get i = some o := by
 unfold Hp.own at hg
 unfold Hp.get
 cases hr : getR h.R i with
 | some o' => rw [hr] at hg; cases hg
 | none => rw [hr] at hg; exact ⟨rfl, hg⟩
theorem Hp.put_get {h : Hp} {d k : Nat} {v : Option AObj} {y : AObj} (hf : getR h.R d = none) (hg : (h.put d v).get k = some y) : (k = d ∧ v = some y) ∨ (k ≠ d ∧ h.get k = some y) := by
 unfold Hp.get Hp.put at hg
 simp only at hg
 unfold Hp.get
 cases hr : getR h.R k with
 | some o =>
  rw [hr] at hg
  refine .inr ⟨?_, hg⟩
  rintro rfl; rw [hf] at hr; cases hr
 | none => rw [hr] at hg; exact Tr.put_get hg
theorem Hp.erase_get {h : Hp} {d k : Nat} {y : AObj} (hg : (h.put d none).get k = some y) : h.get k = some y := by
 unfold Hp.get Hp.put at hg
 simp only at hg
 unfold Hp.get
 cases hr : getR h.R k with
 | some o => rw [hr] at hg; exact hg
 | none =>
  rw [hr] at hg
  rcases Tr.put_get hg with ⟨_, e⟩ | ⟨_, e⟩
  ·cases e
  ·exact e
def evT (T : Tr AV) : Operand → Option AV
 | .tmp t => T.get t
 | .const c => some (.v c)
 | .func f => some (.fn (.func f) [])
 | .global _ => none
theorem Z0f {T : Tr AV} : ∀ p : Operand, ev T.ls p = evT T p
 | .tmp t => Tr.lk_ls T t
 | .const _ => rfl
 | .func _ => rfl
 | .global _ => rfl
def evTs (T : Tr AV) : List Operand → Option (List AV)
 | [] => some []
 | p :: r => match evT T p, evTs T r with
  | some x, some xs => some (x :: xs)
  | _, _ => none
theorem Z3t {T : Tr AV} : ∀ ps : List Operand, evs T.ls ps = evTs T ps
 | [] => rfl
 | p :: r => by
  rw [evs, evTs, Z0f, Z3t r]
  rfl
def ldA (P : Program) (t : TypeId) (l : List AV) : Option AV := match P.tk t with
 | some (false, _) => l.head?
 | some (true, n) => bif Nat.ble n l.length then some (.agg (l.take n)) else none
 | none => none
theorem Z2v {P : Program} {t : TypeId} {l : List AV} {x : AV} (h : ldA P t l = some x) : Ld P t l x := by
 unfold ldA at h
 split at h
 ·rename_i n hk
  cases l with
  | nil => cases h
  | cons y r => simp at h; subst h; exact .inl ⟨n, r, hk, rfl⟩
 ·rename_i n hk
  cases hb : Nat.ble n l.length with
  | false => rw [hb] at h; cases h
  | true => rw [hb] at h; simp at h; exact .inr ⟨n, hk, Nat.le_of_ble_eq_true hb, h.symm⟩
 ·cases h
section
variable {P : Program} {o : Oper} {T : List (Nat × AV)}
theorem Zdl {t t' : TypeId} {p q : Operand} {k : IntKind} {x y : Int} (ho : o.op = .binOp .quo t p q t') (hp : ev T p = some (.v (.int k x))) (hq : ev T q = some (.v (.int k y))) (hy : y ≠ 0) : Eff P o T [] (.v (.int k (k.wrap (x.tdiv y)))) [] :=
 Z01 (by intro c; rw [ho]; nofun) fun C H a w hw hn hv => by
  have h2 := VR.val (hv p (by rw [ho]; simp [Op.operands]) _ hp)
  have h3 := VR.val (hv q (by rw [ho]; simp [Op.operands]) _ hq)
  refine ⟨_, ?_, .v _⟩
  simp [execOp, ho, h2, h3, eqGuard, binOp, Op.intDiv, hy, Sem.run_bind, Result.andThen]
def intBin (b : BinOp) (k : IntKind) (u v : Int) : Option AV := match b with
 | .quo => if v = 0 then none else some (.v (.int k (k.wrap (u.tdiv v))))
 | .rem => if v = 0 then none else some (.v (.int k (u.tmod v)))
 | .and => some (.v (.int k (bitsI .and k u v)))
 | .or => some (.v (.int k (bitsI .or k u v)))
 | .xor => some (.v (.int k (bitsI .xor k u v)))
 | .andNot => some (.v (.int k (bitsI .andNot k u v)))
 | b => match arith b k u v with
  | some z => some (.v (.int k z))
  | none => match icmp b u v with
   | some z => some (.v (.bool z))
   | none => none
theorem Zau {b : BinOp} {t t' : TypeId} {p q : Operand} {k : IntKind} {u v : Int} {x : AV} (ho : o.op = .binOp b t p q t') (hp : ev T p = some (.v (.int k u))) (hq : ev T q = some (.v (.int k v)))
  (h : intBin b k u v = some x) : Eff P o T [] x [] := by
 have rest : (match arith b k u v with
  | some z => some (AV.v (.int k z))
  | none => match icmp b u v with
   | some z => some (.v (.bool z))
   | none => none) = some x → Eff P o T [] x [] := by
  intro h
  split at h
  ·rename_i z hz; cases h; exact Z6 ho hp hq hz
  ·split at h
   ·rename_i z hz; cases h; exact Zb ho hp hq hz
   ·cases h
 unfold intBin at h
 split at h
 ·split at h
  ·cases h
  ·cases h; exact Zdl ho hp hq (by assumption)
 ·split at h
  ·cases h
  ·cases h; exact Zfd ho hp hq (by assumption)
 ·cases h; exact Z29 ho (.inl rfl) hp hq
 ·cases h; exact Z29 ho (.inr (.inl rfl)) hp hq
 ·cases h; exact Z29 ho (.inr (.inr rfl)) hp hq
 ·cases h; exact Zan ho hp hq
 ·exact rest h
def shBin (b : BinOp) (k : IntKind) (u v : Int) : Option AV := match b with
 | .shl => if 0 ≤ v then some (.v (.int k (k.wrap (u * 2 ^ (min v.toNat k.bits))))) else none
 | .shr => if 0 ≤ v then some (.v (.int k (u.fdiv (2 ^ (min v.toNat k.bits))))) else none
 | _ => none
theorem Zcv {b : BinOp} {t t' : TypeId} {p q : Operand} {k k' : IntKind} {u v : Int} {x : AV} (ho : o.op = .binOp b t p q t') (hp : ev T p = some (.v (.int k u))) (hq : ev T q = some (.v (.int k' v)))
  (h : shBin b k u v = some x) : Eff P o T [] x [] := by
 unfold shBin at h
 split at h
 ·split at h
  ·cases h; exact Z6k ho hp hq (by assumption)
  ·cases h
 ·split at h
  ·cases h; exact Z2a ho hp hq (by assumption)
  ·cases h
 ·cases h
def byEq : List UInt8 → List UInt8 → Bool
 | [], [] => true
 | a :: l, b :: m => bif Nat.beq a.toNat b.toNat then byEq l m else false
 | _, _ => false
theorem Z4v : ∀ a b : List UInt8, byEq a b = (a == b)
 | [], [] => rfl
 | [], _ :: _ => rfl
 | _ :: _, [] => rfl
 | a :: l, b :: m => by
  simp only [byEq, List.cons_beq_cons]
  cases h : Nat.beq a.toNat b.toNat with
  | true =>
   have e : a = b := UInt8.toNat.inj (Nat.eq_of_beq_eq_true h)
   subst e; simp [Z4v l m]
  | false =>
   have e : (a == b) = false := by
    cases h2 : a == b with
    | false => rfl
    | true => have := eq_of_beq h2; subst this; rw [Nat.beq_refl] at h; cases h
   simp [e]
theorem Z5r (x : ByteArray) : x.toList = x.data.toList := ByteArray.toList_eq x
def strBin (b : BinOp) (x y : ByteArray) : Option AV := match b with
 | .add => if x.size + y.size ≤ 9223372036854775807 then some (.v (.string (x ++ y))) else none
 | .eql => some (.v (.bool (byEq x.data.toList y.data.toList)))
 | .neq => some (.v (.bool (!(byEq x.data.toList y.data.toList))))
 | .lss => some (.v (.bool (Op.bytesLess x.data.toList y.data.toList)))
 | .leq => some (.v (.bool (Op.bytesLess x.data.toList y.data.toList || byEq x.data.toList y.data.toList)))
 | .gtr => some (.v (.bool (!(Op.bytesLess x.data.toList y.data.toList || byEq x.data.toList y.data.toList))))
 | .geq => some (.v (.bool (!(Op.bytesLess x.data.toList y.data.toList))))
 | _ => none
theorem Zb1 {b : BinOp} {t t' : TypeId} {p q : Operand} {u v : ByteArray} {x : AV} (ho : o.op = .binOp b t p q t') (hp : ev T p = some (.v (.string u))) (hq : ev T q = some (.v (.string v)))
  (h : strBin b u v = some x) : Eff P o T [] x [] := by
 unfold strBin at h
 split at h
 ·split at h
  ·cases h; exact Z21 ho hp hq (by assumption)
  ·cases h
 all_goals first
  | (cases h; exact Z0v ho hp hq (by simp [scmp, Z5r, Z4v]))
  | cases h
def eqA1 : AV → AV → Bool
 | .v (.int _ a), .v (.int _ b) => a == b
 | .v (.bool a), .v (.bool b) => a == b
 | .v (.string a), .v (.string b) => byEq a.data.toList b.data.toList
 | _, _ => false
theorem Z3n (x y : AV) : eqA1 x y = ceq x y := by
 unfold eqA1 ceq
 split <;> simp [Z4v, Z5r]
def eqAs : List AV → List AV → Bool
 | [], [] => true
 | x :: xs, y :: ys => bif eqA1 x y then eqAs xs ys else false
 | _, _ => false
theorem Z58 : ∀ xs ys : List AV, eqAs xs ys = ceqs xs ys
 | [], [] => rfl
 | [], _ :: _ => rfl
 | [x], [] => rfl
 | _ :: _ :: _, [] => rfl
 | [x], [y] => by simp [eqAs, ceqs, Z3n]
 | [x], y :: z :: r => by simp only [eqAs, ceqs, Z3n]; cases ceq x y <;> simp
 | x :: z :: r, [y] => by simp only [eqAs, ceqs, Z3n]; cases ceq x y <;> simp
 | x :: x2 :: xs, y :: y2 :: ys => by
  have ih := Z58 (x2 :: xs) (y2 :: ys)
  rw [show eqAs (x :: x2 :: xs) (y :: y2 :: ys) = (bif eqA1 x y then eqAs (x2 :: xs) (y2 :: ys) else false) from rfl, ih, Z3n]
  rw [show ceqs (x :: x2 :: xs) (y :: y2 :: ys) = (ceq x y && ceqs (x2 :: xs) (y2 :: ys)) from rfl]
  cases ceq x y <;> rfl
def ckEq : CK → CK → Bool
 | .int _, .int _ => true
 | .bool, .bool => true
 | .str, .str => true
 | _, _ => false
def eqT (P : Program) (t : TypeId) : Option (List CK) := match P.underlying t with
 | some (.struct _) => match ckOf P 20 t with
  | some ks => bif P.eqGuardType P.depth t then none else some ks
  | none => none
 | _ => none
theorem Zdo {t : TypeId} {ks : List CK} (h : eqT P t = some ks) : EQ P t ks := by
 unfold eqT at h
 split at h
 ·rename_i fs hu
  split at h
  ·rename_i ks' hk
   cases hg : P.eqGuardType P.depth t with
   | true => rw [hg] at h; cases h
   | false => rw [hg] at h; cases h; exact ⟨hk, hg, fs, hu⟩
  ·cases h
 ·cases h
def kOk : AV → CK → Bool
 | .v (.int k _), .int k' => decide (k = k')
 | .v (.bool _), .bool => true
 | .v (.string _), .str => true
 | _, _ => false
theorem Zdz {x : AV} {k : CK} (h : kOk x k = true) : ckA x = some k := by
 unfold kOk at h
 split at h
 ·have := of_decide_eq_true h; subst this; rfl
 ·rfl
 ·rfl
 ·cases h
def kindsOk : List AV → List CK → Bool
 | [], [] => true
 | x :: xs, k :: ks => bif kOk x k then kindsOk xs ks else false
 | _, _ => false
theorem Z1g : ∀ (xs : List AV) (ks : List CK), kindsOk xs ks = true → xs.map ckA = ks.map some
 | [], [], _ => rfl
 | [], _ :: _, h => by simp [kindsOk] at h
 | _ :: _, [], h => by simp [kindsOk] at h
 | x :: xs, k :: ks, h => by
  simp only [kindsOk] at h
  cases hk : kOk x k with
  | false => rw [hk] at h; cases h
  | true => rw [hk] at h; simp [Zdz hk, Z1g xs ks h]
def evAgg (P : Program) (b : BinOp) (t : TypeId) (us vs : List AV) : Option AV := match eqT P t with
 | some ks => bif kindsOk us ks then (bif kindsOk vs ks then (match b with | .eql => some (.v (.bool (eqAs us vs))) | .neq => some (.v (.bool (!(eqAs us vs)))) | _ => none) else none) else none
 | none => none
theorem Zbs {b : BinOp} {t t' : TypeId} {p q : Operand} {us vs : List AV} {z : AV} (ho : o.op = .binOp b t p q t') (hp : ev T p = some (.agg us)) (hq : ev T q = some (.agg vs)) (h : evAgg P b t us vs = some z) : Eff P o T [] z [] := by
 unfold evAgg at h
 split at h
 ·rename_i ks hk
  have := Zdo hk
  cases h1 : kindsOk us ks with
  | false => rw [h1] at h; cases h
  | true =>
   cases h2 : kindsOk vs ks with
   | false => rw [h1, h2] at h; cases h
   | true =>
    rw [h1, h2] at h
    simp only [cond_true] at h
    split at h
    ·cases h; rw [Z58]; exact Z13 ho hp hq (Z1g _ _ h1) (Z1g _ _ h2)
    ·cases h; rw [Z58]; exact Z49 ho hp hq (Z1g _ _ h1) (Z1g _ _ h2)
    ·cases h
 ·cases h
theorem Zdm {b : BinOp} {t t' e : TypeId} {p q : Operand} {x : AV} {z u : Bool} [hu : UD P t (.slice e)] (ho : o.op = .binOp b t p q t') (hp : ev T p = some x) (hq : ev T q = some (.v (.slice none 0 0)))
  (hx : ∀ C v, VR C x v → ∃ (ad : Option Addr) (n c : Nat), v = .slice ad n c ∧ ad.isNone = z) (hb : pcmp b z = some u) : Eff P o T [] (.v (.bool u)) [] :=
 Z01 (by intro c; rw [ho]; nofun) fun C H a w hw hn hv => by
  obtain ⟨ad, n, c, hy, hyn⟩ := hx C _ (hv p (by rw [ho]; simp [Op.operands]) _ hp)
  have h3 := VR.val (hv q (by rw [ho]; simp [Op.operands]) _ hq)
  refine ⟨.bool u, ?_, .v _⟩
  cases b <;> simp only [pcmp, Option.some.injEq, reduceCtorEq] at hb <;> subst hb
  ·simp [execOp, ho, hy, h3, eqGuard, binOp, Op.equal, Op.maxDepth, Lib.run_equalIn_slice_nil w 9999 t e ad n c 0 0 hu.ud, hyn, Sem.run_bind, Result.andThen]
  ·simp [execOp, ho, hy, h3, eqGuard, binOp, Op.equal, Op.maxDepth, Lib.run_equalIn_slice_nil w 9999 t e ad n c 0 0 hu.ud, hyn, Sem.run_bind, Result.andThen]
theorem Zdk {b : BinOp} {t t' e f : TypeId} {p q : Operand} {x : AV} {z u : Bool} [hu : UD P t (.map e f)] (ho : o.op = .binOp b t p q t') (hp : ev T p = some x) (hq : ev T q = some (.v (.map none)))
  (hx : ∀ C v, VR C x v → ∃ r : Option Nat, v = .map r ∧ r.isNone = z) (hb : pcmp b z = some u) : Eff P o T [] (.v (.bool u)) [] :=
 Z01 (by intro c; rw [ho]; nofun) fun C H a w hw hn hv => by
  obtain ⟨r, hy, hyn⟩ := hx C _ (hv p (by rw [ho]; simp [Op.operands]) _ hp)
  have h3 := VR.val (hv q (by rw [ho]; simp [Op.operands]) _ hq)
  refine ⟨.bool u, ?_, .v _⟩
  have hr : ∀ (d : Nat) (w : World), (Op.equalIn (d + 1) t (.map r) (.map none)).run P w = .ok r.isNone w := fun d w => by cases r <;> simp [Op.equalIn, Go.run_underlying hu.ud, Sem.run_bind, Result.andThen]
  cases b <;> simp only [pcmp, Option.some.injEq, reduceCtorEq] at hb <;> subst hb
  ·simp [execOp, ho, hy, h3, eqGuard, binOp, Op.equal, Op.maxDepth, hr 9999 w, hyn, Sem.run_bind, Result.andThen]
  ·simp [execOp, ho, hy, h3, eqGuard, binOp, Op.equal, Op.maxDepth, hr 9999 w, hyn, Sem.run_bind, Result.andThen]
def mnil : AV → Option Bool
 | .v (.map none) => some true
 | .map _ => some false
 | _ => none
theorem Zcf {x : AV} {z : Bool} (h : mnil x = some z) (C : Ctx) (v : Value) (hv : VR C x v) : ∃ r : Option Nat, v = .map r ∧ r.isNone = z := by
 unfold mnil at h
 split at h
 ·cases h; exact ⟨none, VR.val hv, rfl⟩
 ·cases h
  cases hv with
  | map => exact ⟨_, rfl, rfl⟩
 ·cases h
def snil : AV → Option Bool
 | .v (.slice none 0 0) => some true
 | .own _ _ _ (_ + 1) => some false
 | .lst (_ :: _) => some false
 | _ => none
theorem Zcw {x : AV} {z : Bool} (h : snil x = some z) (C : Ctx) (v : Value) (hv : VR C x v) : ∃ (ad : Option Addr) (n c : Nat), v = .slice ad n c ∧ ad.isNone = z := by
 unfold snil at h
 split at h
 ·cases h; exact ⟨none, 0, 0, VR.val hv, rfl⟩
 ·cases h
  cases hv with
  | own => exact ⟨_, _, _, rfl, rfl⟩
 ·cases h
  cases hv with
  | lst => exact ⟨_, _, _, rfl, rfl⟩
 ·cases h
def evBin (P : Program) (b : BinOp) (t : TypeId) (x y : AV) : Option AV := match x, y with
 | .v (.int k u), .v (.int k' v) => match shBin b k u v with
  | some z => some z
  | none => if k = k' then intBin b k u v else none
 | .v (.string u), .v (.string v) => strBin b u v
 | .v (.bool u), .v (.bool v) => match P.underlying t with
  | some .bool => (match b with | .eql => some (.v (.bool (u == v))) | .neq => some (.v (.bool (!(u == v)))) | _ => none)
  | _ => none
 | .agg us, .agg vs => evAgg P b t us vs
 | .v (.pointer none), .v (.pointer none) => match P.underlying t with
  | some (.pointer _) => (match pcmp b true with | some z => some (.v (.bool z)) | none => none)
  | _ => none
 | .ptr _ _ _ _, .v (.pointer none) => match P.underlying t with
  | some (.pointer _) => (match pcmp b false with | some z => some (.v (.bool z)) | none => none)
  | _ => none
 | x, .v (.slice none 0 0) => match P.underlying t, snil x with
  | some (.slice _), some z => (match pcmp b z with | some u => some (.v (.bool u)) | none => none)
  | _, _ => none
 | x, .v (.map none) => match P.underlying t, mnil x with
  | some (.map _ _), some z => (match pcmp b z with | some u => some (.v (.bool u)) | none => none)
  | _, _ => none
 | _, _ => none
theorem Zbt {b : BinOp} {t t' : TypeId} {p q : Operand} {x y z : AV} (ho : o.op = .binOp b t p q t') (hp : ev T p = some x) (hq : ev T q = some y) (h : evBin P b t x y = some z) : Eff P o T [] z [] := by
 unfold evBin at h
 split at h
 ·split at h
  ·rename_i hz; cases h; exact Zcv ho hp hq hz
  ·split at h
   ·rename_i e; subst e; exact Zau ho hp hq h
   ·cases h
 ·exact Zb1 ho hp hq h
 ·split at h
  ·rename_i hu
   have : UD P t .bool := ⟨hu⟩
   split at h <;> first | (cases h; exact Zf8 ho hp hq rfl) | cases h
  ·cases h
 ·exact Zbs ho hp hq h
 ·split at h
  ·rename_i e hu
   have : UD P t (.pointer e) := ⟨hu⟩
   split at h
   ·rename_i z hz; cases h; exact Z7h ho hp hq hz
   ·cases h
  ·cases h
 ·split at h
  ·rename_i e hu
   have : UD P t (.pointer e) := ⟨hu⟩
   split at h
   ·rename_i z hz; cases h; exact Z7i ho hp hq hz
   ·cases h
  ·cases h
 ·split at h
  ·rename_i e z hu hz
   have : UD P t (.slice e) := ⟨hu⟩
   split at h
   ·rename_i u hb; cases h; exact Zdm ho hp hq (Zcw hz) hb
   ·cases h
  ·cases h
 ·split at h
  ·rename_i e f z hu hz
   have : UD P t (.map e f) := ⟨hu⟩
   split at h
   ·rename_i u hb; cases h; exact Zdk ho hp hq (Zcf hz) hb
   ·cases h
  ·cases h
 ·cases h
theorem Zbn {s t : TypeId} {p : Operand} {x : ByteArray} {d : TypeDesc} [h : UD P s d] [h' : UD P t .string] (ho : o.op = .convert s t p) (hp : ev T p = some (.v (.string x))) : Eff P o T [] (.v (.string x)) [] :=
 Z01 (by intro c; rw [ho]; nofun) fun C H a w hw hn hv => by
  have h2 := VR.val (hv p (by rw [ho]; simp [Op.operands]) _ hp)
  refine ⟨.string x, ?_, .v _⟩
  cases d <;> simp [execOp, ho, h2, convert, run_underlying (t := s), run_underlying (t := t) (d := .string), Sem.run_bind, Result.andThen]
def evConv (P : Program) (s t : TypeId) (x : AV) : Option AV := match x with
 | .v (.int k u) => match P.underlying s, P.underlying t with
  | some _, some (.int k') => some (.v (.int k' (k'.wrap u)))
  | _, _ => none
 | .v (.string u) => match P.underlying s, P.underlying t with
  | some _, some .string => some (.v (.string u))
  | _, _ => none
 | _ => none
theorem Zaq {s t : TypeId} {p : Operand} {x z : AV} (ho : o.op = .convert s t p) (hp : ev T p = some x) (h : evConv P s t x = some z) : Eff P o T [] z [] := by
 unfold evConv at h
 split at h
 ·split at h
  ·rename_i d k' h1 h2
   have : UD P s d := ⟨h1⟩
   have : UD P t (.int k') := ⟨h2⟩
   cases h; exact Z00 ho hp
  ·cases h
 ·split at h
  ·rename_i d h1 h2
   have : UD P s d := ⟨h1⟩
   have : UD P t .string := ⟨h2⟩
   cases h; exact Zbn ho hp
  ·cases h
 ·cases h
def evB (T : Tr AV) (d : Nat) : Option Operand → Option Nat
 | none => some d
 | some q => match evT T q with
  | some (.v (.int _ i)) => if 0 ≤ i then some i.toNat else none
  | _ => none
def BndOk (d l : Nat) (x : Option Value) : Prop := (x = none ∧ l = d) ∨ ∃ k, x = some (.int k (l : Int))
theorem Z2r {Tr0 : Tr AV} {C : Ctx} {a : Act} {d l : Nat} {lo : Option Operand} (h : evB Tr0 d lo = some l) (hv : ∀ p, p ∈ lo.toList → ∀ y, ev Tr0.ls p = some y → VR C y (a.eval p)) : BndOk d l (lo.map a.eval) := by
 cases lo with
 | none => simp only [evB, Option.some.injEq] at h; exact .inl ⟨rfl, h.symm⟩
 | some q =>
  simp only [evB] at h
  split at h
  ·rename_i k i hq
   split at h
   ·rename_i h0
    simp only [Option.some.injEq] at h
    have := VR.val (hv q (by simp) _ (by rw [Z0f]; exact hq))
    exact .inr ⟨k, by simp [this]; omega⟩
   ·cases h
  ·cases h
theorem Z4c {P : Program} {b : Bool} {len cap l h : Nat} {lo hi : Option Value} (hlo : BndOk 0 l lo) (hhi : BndOk len h hi) (h1 : l ≤ h) (h2 : h ≤ len) (h3 : len ≤ cap) (w : World) :
  (Instr.sliceBounds b len cap lo hi none).run P w = .ok (l, h, cap) w := by
 have q1 : ∀ k code, (Instr.sliceBound (.int k (h : Int)) cap code).run P w = .ok h w := fun k code => by rw [Z1s (k := k) (i := (h : Int)) rfl (by omega) (by omega)]; simp
 have q2 : ∀ k code, (Instr.sliceBound (.int k (l : Int)) h code).run P w = .ok l w := fun k code => by rw [Z1s (k := k) (i := (l : Int)) rfl (by omega) (by omega)]; simp
 rcases hlo with ⟨rfl, rfl⟩ | ⟨k, rfl⟩ <;> rcases hhi with ⟨rfl, rfl⟩ | ⟨k', rfl⟩ <;>
  simp [Instr.sliceBounds, q1, q2, Sem.run_bind, Sem.run_pure, Result.andThen]
def cutOwn (id sz off l h : Nat) : AV := match l with
 | 0 => .own id sz off h
 | l' + 1 => bif Nat.blt (l' + 1) h then .own id sz (off + (l' + 1)) (h - (l' + 1)) else .lst []
theorem Z7j {Tr0 : Tr AV} {t e n : Nat} {b : Bool} {p : Operand} {lo hi : Option Operand} {id off len l h : Nat} [hu : UD P t (.slice e)] [k1 : TK P e b n] (ho : o.op = .slice t p lo hi none)
  (hp : ev Tr0.ls p = some (.own id n off len)) (hlo : evB Tr0 0 lo = some l) (hhi : evB Tr0 len hi = some h) (h1 : l ≤ h) (h2 : h ≤ len) : Eff P o Tr0.ls [] (cutOwn id n off l h) [] :=
 Z01 (by intro c; rw [ho]; nofun) fun C H a w hw hn hv => by
  have hmem : ∀ q, q ∈ lo.toList ∨ q ∈ hi.toList → q ∈ o.op.operands := by
   intro q hq; rw [ho]; simp only [Op.operands]
   rcases hq with hq | hq
   ·cases lo with
    | none => simp at hq
    | some x => simp at hq; subst hq; simp
   ·cases hi with
    | none => simp at hq
    | some x => simp at hq; subst hq; simp
  have hpv := hv p (by rw [ho]; simp [Op.operands]) _ hp
  have b1 := Z2r (C := C) (a := a) hlo (fun q hq y hy => hv q (hmem q (.inl hq)) y hy)
  have b2 := Z2r (C := C) (a := a) hhi (fun q hq y hy => hv q (hmem q (.inr hq)) y hy)
  generalize hpe : a.eval p = u at hpv
  have key : ∀ (ad : Option Addr) (cap : Nat), u = .slice ad len cap → len ≤ cap → (execOp a.eval o).run P w = .ok (.value (.slice (if cap = l then ad else ad.map (·.add (l * n))) (h - l) (cap - l))) w := by
   rintro ad cap rfl hc
   simp [execOp, ho, Instr.sliceAt, Instr.slice, hpe, Go.run_underlying hu.ud, Z4c b1 b2 h1 h2 hc, Z0g k1.tk, Sem.run_bind, Sem.run_pure, Result.andThen]
  cases hpv with
  | own _ _ _ _ bb N cap hid hun hcap hlen hml =>
   refine ⟨_, key _ cap rfl hlen, ?_⟩
   cases l with
   | zero =>
    have e1 : (if cap = 0 then some (⟨bb, off * n, none⟩ : Addr) else (some (⟨bb, off * n, none⟩ : Addr)).map (·.add (0 * n))) = some ⟨bb, off * n, none⟩ := by
     split
     ·rfl
     ·simp [Addr.add]
    rw [e1]
    exact .own id n off h bb N cap hid hun hcap (by omega) hml
   | succ l =>
    simp only [cutOwn]
    cases hb : Nat.blt (l + 1) h with
    | true =>
     have hlt : l + 1 < h := by rw [Nat.blt_eq] at hb; exact hb
     rw [if_neg (by omega), cond_true]
     have e1 : ((some (⟨bb, off * n, none⟩ : Addr)).map (·.add ((l + 1) * n))) = some ⟨bb, (off + (l + 1)) * n, none⟩ := by
      rw [Option.map_some, Z3i, ← Nat.add_mul]
     rw [e1]
     exact .own id n (off + (l + 1)) (h - (l + 1)) bb N (cap - (l + 1)) hid hun (by rw [show off + (l + 1) + (cap - (l + 1)) = off + cap from by omega]; exact hcap) (by omega) (by omega)
    | false =>
     have hge : ¬ l + 1 < h := fun hx => by rw [← Nat.blt_eq] at hx; rw [hx] at hb; cases hb
     have e0 : h - (l + 1) = 0 := by omega
     rw [cond_false, e0]
     have e1 : ∃ ad, (if cap = l + 1 then some (⟨bb, off * n, none⟩ : Addr) else (some (⟨bb, off * n, none⟩ : Addr)).map (·.add ((l + 1) * n))) = some ad := by split <;> exact ⟨_, rfl⟩
     obtain ⟨ad, e1⟩ := e1
     rw [e1]
     exact VR.lst [] ad n (cap - (l + 1)) #[] 0 (0, 0) (fun _ _ => undef) (fun h => absurd rfl h) (fun h => absurd rfl h) nofun (fun i e j c hx => by simp at hx) (fun i e j c hx => by simp at hx) (fun i e j c hx => by simp at hx) (Nat.zero_le _)
  | ownNil _ _ hid hun =>
   have hl0 : l = 0 := by omega
   have hh0 : h = 0 := by omega
   subst hl0; subst hh0
   exact ⟨_, key none 0 rfl (Nat.le_refl _), by simpa [cutOwn] using VR.ownNil (C := C) id n hid hun⟩
theorem Z7k {Tr0 : Tr AV} {t : Nat} {p : Operand} {lo hi : Option Operand} {x : ByteArray} {l h : Nat} [hu : UD P t .string] (ho : o.op = .slice t p lo hi none)
  (hp : ev Tr0.ls p = some (.v (.string x))) (hlo : evB Tr0 0 lo = some l) (hhi : evB Tr0 x.size hi = some h) (h1 : l ≤ h) (h2 : h ≤ x.size) : Eff P o Tr0.ls [] (.v (.string (x.extract l h))) [] :=
 Z01 (by intro c; rw [ho]; nofun) fun C H a w hw hn hv => by
  have hmem : ∀ q, q ∈ lo.toList ∨ q ∈ hi.toList → q ∈ o.op.operands := by
   intro q hq; rw [ho]; simp only [Op.operands]
   rcases hq with hq | hq
   ·cases lo with
    | none => simp at hq
    | some x => simp at hq; subst hq; simp
   ·cases hi with
    | none => simp at hq
    | some x => simp at hq; subst hq; simp
  have hpv := VR.val (hv p (by rw [ho]; simp [Op.operands]) _ hp)
  have b1 := Z2r (C := C) (a := a) hlo (fun q hq y hy => hv q (hmem q (.inl hq)) y hy)
  have b2 := Z2r (C := C) (a := a) hhi (fun q hq y hy => hv q (hmem q (.inr hq)) y hy)
  refine ⟨_, ?_, .v _⟩
  simp [execOp, ho, Instr.sliceAt, Instr.slice, hpv, Go.run_underlying hu.ud, Z4c b1 b2 h1 h2 (Nat.le_refl _), Sem.run_bind, Sem.run_pure, Result.andThen]
theorem Z6l {Tr0 : Tr AV} {t e n : Nat} {b : Bool} {p : Operand} {lo hi : Option Operand} [hu : UD P t (.slice e)] [k1 : TK P e b n] (ho : o.op = .slice t p lo hi none)
  (hp : ev Tr0.ls p = some (.v (.slice none 0 0))) (hlo : evB Tr0 0 lo = some 0) (hhi : evB Tr0 0 hi = some 0) : Eff P o Tr0.ls [] (.v (.slice none 0 0)) [] :=
 Z01 (by intro c; rw [ho]; nofun) fun C H a w hw hn hv => by
  have hmem : ∀ q, q ∈ lo.toList ∨ q ∈ hi.toList → q ∈ o.op.operands := by
   intro q hq; rw [ho]; simp only [Op.operands]
   rcases hq with hq | hq
   ·cases lo with
    | none => simp at hq
    | some x => simp at hq; subst hq; simp
   ·cases hi with
    | none => simp at hq
    | some x => simp at hq; subst hq; simp
  have hpv := VR.val (hv p (by rw [ho]; simp [Op.operands]) _ hp)
  have b1 := Z2r (C := C) (a := a) hlo (fun q hq y hy => hv q (hmem q (.inl hq)) y hy)
  have b2 := Z2r (C := C) (a := a) hhi (fun q hq y hy => hv q (hmem q (.inr hq)) y hy)
  refine ⟨_, ?_, .v _⟩
  simp [execOp, ho, Instr.sliceAt, Instr.slice, hpv, Go.run_underlying hu.ud, Z4c b1 b2 (Nat.le_refl _) (Nat.le_refl _) (Nat.le_refl _), Z0g k1.tk, Sem.run_bind, Sem.run_pure, Result.andThen]
def evSlice (P : Program) (T : Tr AV) (t : TypeId) (x : AV) (lo hi : Option Operand) : Option AV := match x with
 | .own id sz off len => match P.underlying t with
  | some (.slice e) => match P.tk e with
   | some (_, n) => match evB T 0 lo, evB T len hi with
    | some l, some h => if n = sz ∧ l ≤ h ∧ h ≤ len then some (cutOwn id sz off l h) else none
    | _, _ => none
   | none => none
  | _ => none
 | .v (.string s) => match P.underlying t with
  | some .string => match evB T 0 lo, evB T s.size hi with
   | some l, some h => if l ≤ h ∧ h ≤ s.size then some (.v (.string (s.extract l h))) else none
   | _, _ => none
  | _ => none
 | .v (.slice none 0 0) => match P.underlying t with
  | some (.slice e) => match P.tk e with
   | some (_, n) => match evB T 0 lo, evB T 0 hi with
    | some 0, some 0 => some (.v (.slice none 0 0))
    | _, _ => none
   | none => none
  | _ => none
 | _ => none
theorem Z8x {Tr0 : Tr AV} {t : TypeId} {p : Operand} {lo hi : Option Operand} {x z : AV} (ho : o.op = .slice t p lo hi none) (hp : ev Tr0.ls p = some x) (h : evSlice P Tr0 t x lo hi = some z) : Eff P o Tr0.ls [] z [] := by
 unfold evSlice at h
 split at h
 ·split at h
  ·rename_i e hu
   have : UD P t (.slice e) := ⟨hu⟩
   split at h
   ·rename_i b n hk
    have : TK P e b n := ⟨hk⟩
    split at h
    ·rename_i l hh hl hh2
     split at h
     ·rename_i hc
      obtain ⟨rfl, h1, h2⟩ := hc
      cases h
      exact Z7j ho hp hl hh2 h1 h2
     ·cases h
    ·cases h
   ·cases h
  ·cases h
 ·split at h
  ·rename_i hu
   have : UD P t .string := ⟨hu⟩
   split at h
   ·rename_i l hh hl hh2
    split at h
    ·rename_i hc; cases h; exact Z7k ho hp hl hh2 hc.1 hc.2
    ·cases h
   ·cases h
  ·cases h
 ·split at h
  ·rename_i e hu
   have : UD P t (.slice e) := ⟨hu⟩
   split at h
   ·rename_i b n hk
    have : TK P e b n := ⟨hk⟩
    split at h
    ·rename_i hl hh2; cases h; exact Z6l ho hp hl hh2
    ·cases h
   ·cases h
  ·cases h
 ·cases h
def evIdxA (P : Program) (t : TypeId) (x : AV) (k : Int) : Option AV := match x with
 | .own id sz off len => match P.underlying t with
  | some (.slice e) => match P.tk e with
   | some (_, n) => if n = sz ∧ 0 ≤ k ∧ k < len then some (.ptr id sz (off + k.toNat) 0) else none
   | none => none
  | _ => none
 | .lst es => match P.underlying t with
  | some (.slice e) => match P.tk e with
   | some (_, n) => bif es.all (fun l => Nat.beq l.length n) then (if 0 ≤ k ∧ k < es.length then some (.elt es k.toNat 0) else none) else none
   | none => none
  | _ => none
 | y => match P.underlying t with
  | some (.array m e) => match P.tk e with
   | some (_, n) => if 0 ≤ k ∧ k < m then plus y (k.toNat * n) else none
   | none => none
  | _ => none
theorem Zar {t : TypeId} {p q : Operand} {x z : AV} {kd : IntKind} {k : Int} (ho : o.op = .indexAddr t p q) (hp : ev T p = some x) (hq : ev T q = some (.v (.int kd k))) (h : evIdxA P t x k = some z) : Eff P o T [] z [] := by
 unfold evIdxA at h
 split at h
 ·split at h
  ·rename_i e hu
   have : UD P t (.slice e) := ⟨hu⟩
   split at h
   ·rename_i b n hk
    have : TK P e b n := ⟨hk⟩
    split at h
    ·rename_i hc; obtain ⟨rfl, h1, h2⟩ := hc; cases h; exact Z22 ho hp hq h1 h2
    ·cases h
   ·cases h
  ·cases h
 ·rename_i es
  split at h
  ·rename_i e hu
   have : UD P t (.slice e) := ⟨hu⟩
   split at h
   ·rename_i b n hk
    have : TK P e b n := ⟨hk⟩
    cases ha : es.all (fun l => Nat.beq l.length n) with
    | false => rw [ha] at h; cases h
    | true =>
     rw [ha, cond_true] at h
     split at h
     ·rename_i hc; cases h; exact Z0u ho hp hq (fun l' hl => Nat.eq_of_beq_eq_true (List.all_eq_true.1 ha l' hl)) hc.1 hc.2
     ·cases h
   ·cases h
  ·cases h
 ·split at h
  ·rename_i m e hu
   have : UD P t (.array m e) := ⟨hu⟩
   split at h
   ·rename_i b n hk
    have : TK P e b n := ⟨hk⟩
    split at h
    ·rename_i hc; exact Z47 ho hp hq hc.1 hc.2 h
    ·cases h
   ·cases h
  ·cases h
def evBuilt (P : Program) (b : Builtin) (xs : List AV) (ts : List TypeId) : Option AV := match b, xs, ts with
 | .len, [x], [t] => match P.underlying t, lenA x with
  | some d, some n => bif lenT x d then some (.v (.int .i64 n)) else none
  | _, _ => none
 | .min, [.v (.int k x), .v (.int k' y)], _ => if k = k' then some (.v (.int k (if y < x then y else x))) else none
 | _, _, _ => none
theorem Zhh {α : Type} {a : Array α} {x : α} (h : a.toList = [x]) : a = #[x] := by apply Array.ext'; simpa using h
theorem Zeu {α : Type} {a : Array α} {x y : α} (h : a.toList = [x, y]) : a = #[x, y] := by apply Array.ext'; simpa using h
theorem Zhi {ps : List Operand} {x : AV} (h : evs T ps = some [x]) : ∃ p, ps = [p] ∧ ev T p = some x := by
 match ps with
 | [] => simp [evs] at h
 | [p] =>
  simp only [evs] at h
  split at h
  ·rename_i y ys h1 h2; simp at h2; subst h2; simp at h; subst h; exact ⟨p, rfl, h1⟩
  ·cases h
 | p :: q :: r =>
  simp only [evs] at h
  split at h
  ·rename_i y ys h1 h2
   split at h2
   ·simp at h2; subst h2; simp at h
   ·cases h2
  ·cases h
theorem Zho {ps : List Operand} {x y : AV} (h : evs T ps = some [x, y]) : ∃ p q, ps = [p, q] ∧ ev T p = some x ∧ ev T q = some y := by
 match ps with
 | [] => simp [evs] at h
 | p :: r =>
  simp only [evs] at h
  split at h
  ·rename_i z zs h1 h2
   simp only [Option.some.injEq, List.cons.injEq] at h
   obtain ⟨rfl, rfl⟩ := h
   obtain ⟨q, rfl, hq⟩ := Zhi h2
   exact ⟨p, q, rfl, h1, hq⟩
  ·cases h
theorem Z8v {b : Builtin} {args : Array Operand} {ats : Array TypeId} {xs : List AV} {z : AV} (ho : o.op = .call { callee := .builtin b, args := args, argTypes := ats }) (hp : evs T args.toList = some xs) (h : evBuilt P b xs ats.toList = some z) : Eff P o T [] z [] := by
 unfold evBuilt at h
 split at h
 ·rename_i x t hts
  obtain ⟨p, h1, h2⟩ := Zhi hp
  have e1 := Zhh h1
  have e2 := Zhh hts
  subst e1; subst e2
  split at h
  ·rename_i d n hu hl
   have : UD P t d := ⟨hu⟩
   cases hd : lenT x d with
   | false => rw [hd] at h; cases h
   | true => rw [hd] at h; cases h; exact Z1p ho h2 hl hd
  ·cases h
 ·rename_i k x k' y _
  obtain ⟨p, q, h1, h2, h3⟩ := Zho hp
  have e1 := Zeu h1
  subst e1
  split at h
  ·rename_i e; subst e; cases h; exact Zfb ho h2 h3
  ·cases h
 ·cases h
def evLoad (P : Program) (H : Hp) (t : TypeId) (x : AV) : Option AV := match x with
 | .ptr id sz i c => match H.get id with
  | some (.rows _ sz' es) => if sz = sz' then (match es[i]? with | some e => ldA P t (e.drop c) | none => none) else none
  | _ => none
 | .elt es i c => match es[i]? with | some e => ldA P t (e.drop c) | none => none
 | _ => none
def evBuild (P : Program) (t : TypeId) (is : List Nat) (xs : List AV) : Option AV := match P.places t, P.zc t with
 | some pl, some zs => match fillA (pl[·]?) (zs.map .v) (is.zip xs) with
  | some cs => some (.agg cs)
  | none => none
 | _, _ => none
def evExt (P : Program) (f : Nat) (xs : List AV) : Option AV := match P.funcs[f]? with
 | some fn => bif fn.body.isNone && fn.origin == "" then (match xs with
  | [.v (.string s), .v (.int .u8 c)] => bif fn.name == "internal/bytealg.IndexByteString" then some (.v (.int .i64 (Lib.indexByte s.data.toList c.toNat.toUInt8))) else none
  | [.v (.string s), .v (.string t)] => bif fn.name == "internal/bytealg.abigen_runtime_cmpstring" then some (.v (.int .i64 (Lib.compareBytes s.data.toList t.data.toList))) else none
  | _ => none) else none
 | none => none
theorem Z9o {fn : Func} {nm : String} {e : Array Value → Sem Value} (h1 : (fn.name == nm) = true) (h2 : (fn.origin == "") = true) (k1 : Extern.allGenericRows.lookup nm = none) (k2 : Extern.allTypedRows.lookup nm = none) (k3 : Extern.allRows.lookup nm = some e)
  (k4 : Extern.allNextRows.lookup nm = none) (k5 : Extern.allNextRows.lookup "" = none) : Extern.findNext fn = none ∧ Extern.find fn = some e := by
 have e1 := eq_of_beq h1
 have e2 := eq_of_beq h2
 constructor
 ·simp [Extern.findNext, e1, e2, k4, k5]
 ·simp [Extern.find, e1, k1, k2, k3]
theorem Zeg {T : List (Nat × AV)} : ∀ (ps : List Operand) (xs : List AV), evs T ps = some xs → ps.length = xs.length
 | [], xs, h => by simp only [evs, Option.some.injEq] at h; subst h; rfl
 | p :: r, xs, h => by
  simp only [evs] at h
  split at h
  ·rename_i y ys e1 e2
   cases h
   simp [Zeg r ys e2]
  ·cases h
theorem Zby {f : Nat} {args : Array Operand} {ats : Array TypeId} {T : List (Nat × AV)} {xs : List AV} {x : AV} (ho : o.op = .call ⟨.value (.func f), args, ats⟩) (h1 : evs T args.toList = some xs) (h : evExt P f xs = some x) : Eff P o T [] x [] := by
 unfold evExt at h
 split at h
 ·rename_i fn hf
  cases hb : (fn.body.isNone && fn.origin == "") with
  | false => rw [hb] at h; cases h
  | true =>
   rw [hb, cond_true] at h
   rw [Bool.and_eq_true] at hb
   have main : ∀ (nm : String) (e : Array Value → Sem Value) (v a1 a2 : Value), xs = [.v a1, .v a2] → (fn.name == nm) = true → (nm == "runtime.NumGoroutine") = false → Extern.findNext fn = none ∧ Extern.find fn = some e → (∀ w, (e #[a1, a2]).run P w = .ok v w) → Eff P o T [] (.v v) [] := by
    rintro nm e v a1 a2 rfl hn hg hx hrun
    obtain ⟨p, q, hpq, hp, hq⟩ : ∃ p q, args.toList = [p, q] ∧ ev T p = some (.v a1) ∧ ev T q = some (.v a2) := by
     match hl : args.toList with
     | [] => rw [hl] at h1; simp [evs] at h1
     | [p] =>
      rw [hl] at h1
      simp only [evs] at h1
      split at h1 <;> simp_all
     | [p, q] =>
      rw [hl] at h1
      refine ⟨p, q, rfl, ?_⟩
      simp only [evs] at h1
      split at h1
      ·rename_i y ys e1 e2
       split at e2
       ·rename_i z zs e3 e4
        simp_all
       ·cases e2
      ·cases h1
     | p :: q :: r :: l =>
      have := Zeg _ _ h1
      rw [hl] at this
      simp at this
    have hargs : args = #[p, q] := by apply Array.ext'; simpa using hpq
    subst hargs
    refine Z01 (by intro c; rw [ho]; nofun) fun C H a w hw hH hv => ?_
    have g1 := VR.val (hv p (by rw [ho]; simp [Op.operands, Call.operands]) _ hp)
    have g2 := VR.val (hv q (by rw [ho]; simp [Op.operands, Call.operands]) _ hq)
    have key := run_callFunc_extern hf (by rw [eq_of_beq hn]; exact hg) hb.1 hx.1 hx.2 #[a1, a2] w
    rw [hrun w] at key
    refine ⟨v, ?_, .v _⟩
    simp only [execOp, ho, Sem.run_bind, resolve, Deferred.ofValue, Sem.run_pure, Result.andThen, invoke, Act.eval]
    simpa [g1, g2, Result.andThen] using key
   split at h
   ·rename_i s c
    cases hn : (fn.name == "internal/bytealg.IndexByteString") with
    | false => rw [hn] at h; cases h
    | true =>
     rw [hn] at h
     cases h
     exact main _ Extern.BytealgIndexByte.indexByte _ _ _ rfl hn (by kernel_rfl) (Z9o hn hb.2 (by kernel_rfl) (by kernel_rfl) (by kernel_rfl) (by kernel_rfl) (by kernel_rfl)) fun w => Lib.run_indexByteString s c w
   ·rename_i s t
    cases hn : (fn.name == "internal/bytealg.abigen_runtime_cmpstring") with
    | false => rw [hn] at h; cases h
    | true =>
     rw [hn] at h
     cases h
     exact main _ Extern.BytealgCompare.compare _ _ _ rfl hn (by kernel_rfl) (Z9o hn hb.2 (by kernel_rfl) (by kernel_rfl) (by kernel_rfl) (by kernel_rfl) (by kernel_rfl)) fun w => Lib.run_compareString s t w
   ·cases h
 ·cases h
def evPure (P : Program) (T : Tr AV) (H : Hp) (op : Op) : Option AV := match op with
 | .move p => evT T p
 | .assign p => evT T p
 | .pick c p q => match evT T c, evT T p, evT T q with
  | some (.v (.bool b)), some x, some y => some (if b then x else y)
  | _, _, _ => none
 | .nilCheck p => match evT T p with
  | some x => bif isPtr x then some x else none
  | none => none
 | .load t p => match evT T p with
  | some x => evLoad P H t x
  | none => none
 | .binOp b t p q _ => match evT T p, evT T q with
  | some x, some y => evBin P b t x y
  | _, _ => none
 | .unOp .not _ p => match evT T p with
  | some (.v (.bool x)) => some (.v (.bool (!x)))
  | _ => none
 | .convert s t p => match evT T p with
  | some x => evConv P s t x
  | none => none
 | .makeFunc f first caps => match first.toList, evTs T caps.toList with
  | [], some xs => some (.fn f xs)
  | _, _ => none
 | .slice t p lo hi none => match evT T p with
  | some x => evSlice P T t x lo hi
  | none => none
 | .fieldAddr s p f => match P.fo s f, evT T p with
  | some (off, _), some y => plus y off
  | _, _ => none
 | .field s p f => match P.fo s f, evT T p with
  | some (off, ft), some (.agg cs) => match P.tk ft with
   | some (b, n) => partA b n off cs
   | none => none
  | _, _ => none
 | .indexAddr t p q => match evT T p, evT T q with
  | some x, some (.v (.int _ k)) => evIdxA P t x k
  | _, _ => none
 | .index t p q => match evT T p, evT T q with
  | some (.v (.string u)), some (.v (.int _ i)) => match P.underlying t with
   | some .string => if 0 ≤ i ∧ i < u.size then some (.v (.int .u8 (byteAt u i))) else none
   | _ => none
  | _, _ => none
 | .extract p i => match evT T p with
  | some (.tup cs) => cs[i]?
  | _ => none
 | .build t ps => match evTs T (ps.toList.map Prod.snd) with
  | some xs => evBuild P t (ps.toList.map Prod.fst) xs
  | none => none
 | .call ⟨.builtin b, args, ats⟩ => match evTs T args.toList with
  | some xs => evBuilt P b xs ats.toList
  | none => none
 | .call ⟨.value (.func f), args, _⟩ => match evTs T args.toList with
  | some xs => evExt P f xs
  | none => none
 | _ => none
def SubH (H : Hp) (Hl : AHeap) : Prop := ∀ i ob, H.get i = some ob → (i, ob) ∈ Hl
theorem Z2s {T : Tr AV} {H : Hp} {x : AV} (h : evPure P T H o.op = some x) : ∃ Hn : AHeap, Eff P o T.ls Hn x [] ∧ ∀ p, p ∈ Hn → H.get p.1 = some p.2 := by
 have simple : Eff P o T.ls [] x [] → ∃ Hn : AHeap, Eff P o T.ls Hn x [] ∧ ∀ p, p ∈ Hn → H.get p.1 = some p.2 := fun h => ⟨[], h, nofun⟩
 unfold evPure at h
 split at h
 ·rename_i p ho; exact simple (Z7 ho (by rw [Z0f]; exact h))
 ·rename_i p ho; exact simple (Zp ho (by rw [Z0f]; exact h))
 ·rename_i c p q ho
  split at h
  ·rename_i b x y h1 h2 h3; cases h; exact simple (Z17 ho (by rw [Z0f]; exact h1) (by rw [Z0f]; exact h2) (by rw [Z0f]; exact h3))
  ·cases h
 ·rename_i p ho
  split at h
  ·rename_i y hy
   cases hp : isPtr y with
   | false => rw [hp] at h; cases h
   | true => rw [hp] at h; cases h; exact simple (Z0c ho (by rw [Z0f]; exact hy) hp)
  ·cases h
 ·rename_i t p ho
  split at h
  ·rename_i y hy
   unfold evLoad at h
   split at h
   ·rename_i id sz i c
    split at h
    ·rename_i el sz' es hg
     split at h
     ·rename_i e; subst e
      split at h
      ·rename_i e he
       exact ⟨[(id, .rows el sz es)], Z1l (y := .ptr id sz i c) (l := e.drop c) ho (by rw [Z0f]; exact hy) ⟨el, es, e, List.mem_cons_self, he, rfl⟩ (Z2v h), fun p hp => by rw [List.mem_singleton.1 hp]; exact hg⟩
      ·cases h
     ·cases h
    ·cases h
   ·rename_i es i c
    split at h
    ·rename_i e he
     exact simple (Z1l (y := .elt es i c) (l := e.drop c) ho (by rw [Z0f]; exact hy) ⟨e, he, rfl⟩ (Z2v h))
    ·cases h
   ·cases h
  ·cases h
 ·rename_i b t p q t' ho
  split at h
  ·rename_i x y h1 h2; exact simple (Zbt ho (by rw [Z0f]; exact h1) (by rw [Z0f]; exact h2) h)
  ·cases h
 ·rename_i t p ho
  split at h
  ·rename_i x h1; cases h; exact simple (Z0m ho (by rw [Z0f]; exact h1))
  ·cases h
 ·rename_i s t p ho
  split at h
  ·rename_i x h1; exact simple (Zaq ho (by rw [Z0f]; exact h1) h)
  ·cases h
 ·rename_i f first caps ho
  split at h
  ·rename_i xs h1 h2
   cases h
   have e : first = #[] := by apply Array.ext'; simpa using h1
   subst e
   exact simple (Z1v ho (by rw [Z3t]; exact h2))
  ·cases h
 ·rename_i t p lo hi ho
  split at h
  ·rename_i x h1; exact simple (Z8x ho (by rw [Z0f]; exact h1) h)
  ·cases h
 ·rename_i s p f ho
  split at h
  ·rename_i off ft y h1 h2
   have : FO P s f off ft := ⟨h1⟩
   exact simple (Z0j ho (by rw [Z0f]; exact h2) h)
  ·cases h
 ·rename_i s p f ho
  split at h
  ·rename_i off ft cs h1 h2
   have : FO P s f off ft := ⟨h1⟩
   split at h
   ·rename_i b n hk
    have : TK P ft b n := ⟨hk⟩
    exact simple (Zbp ho (by rw [Z0f]; exact h2) h)
   ·cases h
  ·cases h
 ·rename_i t p q ho
  split at h
  ·rename_i x kd k h1 h2; exact simple (Zar ho (by rw [Z0f]; exact h1) (by rw [Z0f]; exact h2) h)
  ·cases h
 ·rename_i t p q ho
  split at h
  ·rename_i u kd i h1 h2
   split at h
   ·rename_i hu
    have : UD P t .string := ⟨hu⟩
    split at h
    ·rename_i hc; cases h; exact simple (Z0w ho (by rw [Z0f]; exact h1) (by rw [Z0f]; exact h2) hc.1 hc.2)
    ·cases h
   ·cases h
  ·cases h
 ·rename_i p i ho
  split at h
  ·rename_i cs h1; exact simple (Zt ho (by rw [Z0f]; exact h1) h)
  ·cases h
 ·rename_i t ps ho
  split at h
  ·rename_i xs h1
   unfold evBuild at h
   split at h
   ·rename_i pl zs h2 h3
    have : PL P t pl := ⟨h2⟩
    have : ZC P t zs := ⟨h3⟩
    split at h
    ·rename_i cs hc; cases h; exact simple (Z03 ho (by rw [Z3t]; exact h1) hc)
    ·cases h
   ·cases h
  ·cases h
 ·rename_i b args ats ho
  split at h
  ·rename_i xs h1; exact simple (Z8v ho (by rw [Z3t]; exact h1) h)
  ·cases h
 ·rename_i f args ats ho
  split at h
  ·rename_i xs h1; exact simple (Zby ho (by rw [Z3t]; exact h1) h)
  ·cases h
 ·cases h
end
end Go.Sx
namespace Go.Sx
open Go
def MM : Nat := 1099511627776
def Fr (k : Nat) (C : Ctx) : Prop := ∀ z, k ≤ z → z < MM → z ∉ C.U
theorem Zg0 (k k' : Nat) : ∃ l : List Nat, ∀ z, z ∈ l ↔ z < MM ∧ (z < k ∨ k' ≤ z) :=
 ⟨(List.range MM).filter fun z => Nat.blt z k || Nat.ble k' z, fun z => by rw [List.mem_filter, List.mem_range, Bool.or_eq_true, Nat.ble_eq, Nat.blt_eq]⟩
noncomputable def Zx (k k' : Nat) : List Nat := Classical.choose (Zg0 k k')
theorem mem_Zx {k k' z : Nat} : z ∈ Zx k k' ↔ z < MM ∧ (z < k ∨ k' ≤ z) := Classical.choose_spec (Zg0 k k') z
structure EX (k : Nat) (C : Ctx) (H : AHeap) (w : World) (k' : Nat) (C' : Ctx) (H' : AHeap) (w' : World) : Prop where
 x : Ext [] C H w C' H' w'
 nx : ∀ z, z < MM → z ∈ C'.U → z ∈ C.U ∨ (k ≤ z ∧ z < k')
 kle : k ≤ k'
theorem EX.le {k k' : Nat} {C C' : Ctx} {H H' : AHeap} {w w' : World} (h : EX k C H w k' C' H' w') : C.Le C' := h.x.le
theorem EX.refl (k : Nat) (C : Ctx) (H : AHeap) (w : World) : EX k C H w k C H w := ⟨.refl .., fun _ _ h => .inl h, Nat.le_refl _⟩
theorem EX.trans {k k1 k2 : Nat} {C C1 C2 : Ctx} {H H1 H2 : AHeap} {w w1 w2 : World} (h : EX k C H w k1 C1 H1 w1) (g : EX k1 C1 H1 w1 k2 C2 H2 w2) : EX k C H w k2 C2 H2 w2 :=
 ⟨h.x.trans g.x, fun z hz hm => by
  rcases g.nx z hz hm with h1 | h1
  ·rcases h.nx z hz h1 with h2 | h2
   ·exact .inl h2
   ·exact .inr ⟨h2.1, Nat.lt_of_lt_of_le h2.2 g.kle⟩
  ·exact .inr ⟨Nat.le_trans h.kle h1.1, h1.2⟩, Nat.le_trans h.kle g.kle⟩
theorem EX.fr {k k' : Nat} {C C' : Ctx} {H H' : AHeap} {w w' : World} (h : EX k C H w k' C' H' w') (hf : Fr k C) : Fr k' C' := fun z h1 h2 hm => by
 rcases h.nx z h2 hm with h3 | h3
 ·exact hf z (Nat.le_trans h.kle h1) h2 h3
 ·omega
theorem Ext.ex {k k' : Nat} {C C' : Ctx} {H H' : AHeap} {w w' : World} (he : Ext (Zx k k') C H w C' H' w') (hk : k ≤ k') : EX k C H w k' C' H' w' :=
 ⟨he.subZ nofun, fun z hz hm => by
  by_cases h1 : k ≤ z ∧ z < k'
  ·exact .inr h1
  ·refine .inl ?_
   by_cases h2 : z ∈ C.U
   ·exact h2
   ·exact absurd hm (he.av z (mem_Zx.2 ⟨hz, by omega⟩) h2), hk⟩
theorem Ext.same {k : Nat} {C : Ctx} {H H' : AHeap} {w w' : World} (he : Ext [] C H w C H' w') : EX k C H w k C H' w' := ⟨he, fun _ _ h => .inl h, Nat.le_refl _⟩
structure ES where
 T : Tr AV
 H : Hp
 D : List Nat
 k : Nat
structure SE (C : Ctx) (Hl : AHeap) (e : ES) (n : Nat) (a : Act) (w : World) : Prop where
 sr : SR C ⟨e.T.ls, Hl, e.D, n⟩ a w
 hs : SubH e.H Hl
 fr : Fr e.k C
def OpOk (P : Program) (o : Oper) (e : ES) (x : AV) (H' : Hp) (k' : Nat) : Prop :=
 H'.R = e.H.R ∧ ∀ C Hl n a w, SE C Hl e n a w → ∀ ro next R, (∀ v w1 C1 Hl1, VR C1 x v → WR C1 Hl1 w1 → SubH H' Hl1 → Fr k' C1 → EX e.k C Hl w k' C1 Hl1 w1 → next (a.put o.dst v) w1) → o.uponIn (Wd ro) 0 P a next R ((o.semAt ro a.eval).run P w)
section
variable {P : Program} {o : Oper} {e : ES}
theorem Z2d {Hn : AHeap} {x : AV} (he : Eff P o e.T.ls Hn x []) (hn : ∀ p, p ∈ Hn → e.H.get p.1 = some p.2) : OpOk P o e x e.H e.k := by
 refine ⟨rfl, ?_⟩
 intro C Hl n a w hs ro next R hk
 refine he (Zx e.k e.k) C Hl a w hs.sr.wr (fun p hp => hs.hs p.1 p.2 (hn p hp)) (fun p _ y hy => hs.sr.ev hy) nofun List.nodup_nil (fun _ _ => List.not_mem_nil) ro next R ?_
 intro v w1 C1 hv hw1 he1
 have hx := he1.ex (Nat.le_refl _)
 exact hk v w1 C1 Hl hv hw1 hs.hs (hx.fr hs.fr) hx
theorem SubH.put {H : Hp} {Hl Hl' : AHeap} {k : Nat} {ob : AObj} (h : SubH H Hl) (hf : getR H.R k = none) (h1 : (k, ob) ∈ Hl') (h2 : ∀ i o, i ≠ k → (i, o) ∈ Hl → (i, o) ∈ Hl') : SubH (H.put k (some ob)) Hl' := by
 intro i o hg
 rcases Hp.put_get hf hg with ⟨rfl, e⟩ | ⟨hne, e⟩
 ·cases e; exact h1
 ·exact h2 i o hne (h i o e)
theorem SubH.erase {H : Hp} {Hl : AHeap} {k : Nat} (h : SubH H Hl) : SubH (H.put k none) Hl := fun i o hg => h i o (Hp.erase_get hg)
theorem Z7u {H : Hp} {k i : Nat} {ob : AObj} (hf : getR H.R k = none) (h : (H.put k none).get i = some ob) : i ≠ k ∧ H.get i = some ob := by
 rcases Hp.put_get hf h with ⟨_, e⟩ | ⟨hne, e⟩
 ·cases e
 ·exact ⟨hne, e⟩
theorem SubH.free {C : Ctx} {H : Hp} {Hl : AHeap} {w : World} {i k : Nat} (h : SubH H Hl) (hw : WR C Hl w) (hf : Fr k C) (hi : k ≤ i) (hm : i < MM) : getR H.R i = none := by
 cases hr : getR H.R i with
 | none => rfl
 | some o =>
  have hg : H.get i = some o := by unfold Hp.get; rw [hr]
  exact absurd (hw.ids i o (h i o hg)).1 (hf i hi hm)
theorem Ze6 {x : AV} {ob : AObj} (hk : Nat.blt e.k MM = true) (he : Eff P o e.T.ls [] x [(e.k, ob)]) : OpOk P o e x (e.H.put e.k (some ob)) (e.k + 1) := by
 refine ⟨rfl, ?_⟩
 intro C Hl n a w hs ro next R hc
 have hk : e.k < MM := by rwa [Nat.blt_eq] at hk
 refine he (Zx e.k (e.k + 1)) C Hl a w hs.sr.wr nofun (fun p _ y hy => hs.sr.ev hy) ?_ (List.nodup_cons.2 ⟨List.not_mem_nil, List.nodup_nil⟩) ?_ ro next R ?_
 ·intro p hp; rw [List.mem_singleton.1 hp]; exact hs.fr e.k (Nat.le_refl _) hk
 ·intro z hz hm; have h1 := (mem_Zx.1 hz).2; have h2 : z = e.k := List.mem_singleton.1 hm; omega
 intro v w1 C1 hv hw1 he1
 have hx := he1.ex (Nat.le_succ _)
 exact hc v w1 C1 _ hv hw1 (hs.hs.put (hs.hs.free hs.sr.wr hs.fr (Nat.le_refl _) hk) List.mem_cons_self (fun i o' _ h => List.mem_cons_of_mem _ h)) (hx.fr hs.fr) hx
theorem Z1k {Hl : AHeap} {i : Nat} {ob : AObj} (h : (i, ob) ∈ Hl) : ∃ j : Nat, Hl[j]? = some (i, ob) := List.mem_iff_getElem?.1 h
theorem Z3b {C : Ctx} {Hl : AHeap} {w : World} (hw : WR C Hl w) {j m i i' : Nat} {ob ob' : AObj} (h1 : Hl[j]? = some (i, ob)) (h2 : Hl[m]? = some (i', ob')) (hne : i' ≠ i) : m ≠ j := by
 rintro rfl; rw [h1] at h2; cases h2; exact hne rfl
theorem Z1b {Hl : AHeap} {j m : Nat} {p q : Nat × AObj} (h : Hl[m]? = some q) (hne : m ≠ j) : q ∈ Hl.set j p := by
 refine List.mem_iff_getElem?.2 ⟨m, ?_⟩
 rw [List.getElem?_set_ne (Ne.symm hne)]; exact h
theorem Z1n {Hl : AHeap} {j : Nat} {p q : Nat × AObj} (h : Hl[j]? = some q) : p ∈ Hl.set j p := by
 have hlt := Z08 h
 exact List.mem_iff_getElem?.2 ⟨j, by simp [hlt]⟩
theorem Zck {id : Nat} {ob ob' : AObj} (hg0 : e.H.own id = some ob) (he : ∀ Hl j, SubH e.H Hl → Hl[j]? = some (id, ob) → EffW P o e.T.ls Hl (Hl.set j (id, ob'))) : OpOk P o e (.v undef) (e.H.put id (some ob')) e.k := by
 obtain ⟨hfree, hg⟩ := Hp.own_spec hg0
 refine ⟨rfl, ?_⟩
 intro C Hl n a w hs ro next R hc
 obtain ⟨j, hj⟩ := Z1k (hs.hs id ob hg)
 refine he Hl j hs.hs hj (Zx e.k e.k) C a w hs.sr.wr (fun p _ y hy => hs.sr.ev hy) ro next R ?_
 intro v w1 C1 hv hw1 he1
 have hx := he1.ex (Nat.le_refl _)
 refine hc v w1 C1 _ hv hw1 (hs.hs.put hfree (Z1n hj) ?_) (hx.fr hs.fr) hx
 intro i o' hne hm
 obtain ⟨m, hm⟩ := Z1k hm
 exact Z1b hm (Z3b hs.sr.wr hj hm hne)
theorem Zek {id : Nat} {ob ob' : AObj} {x : AV} (hk : Nat.blt e.k MM = true) (hg0 : e.H.own id = some ob) (he : ∀ Hl j, SubH e.H Hl → Hl[j]? = some (id, ob) → EffA P o e.T.ls Hl x (Hl.set j (e.k, ob')) e.k) : OpOk P o e x ((e.H.put id none).put e.k (some ob')) (e.k + 1) := by
 obtain ⟨hfree, hg⟩ := Hp.own_spec hg0
 refine ⟨rfl, ?_⟩
 intro C Hl n a w hs ro next R hc
 have hk : e.k < MM := by rwa [Nat.blt_eq] at hk
 obtain ⟨j, hj⟩ := Z1k (hs.hs id ob hg)
 refine he Hl j hs.hs hj (Zx e.k (e.k + 1)) C a w hs.sr.wr (fun p _ y hy => hs.sr.ev hy) (hs.fr e.k (Nat.le_refl _) hk) (fun h => by have := (mem_Zx.1 h).2; omega) ro next R ?_
 intro v w1 C1 hv hw1 he1
 have hx := he1.ex (Nat.le_succ _)
 refine hc v w1 C1 _ hv hw1 ?_ (hx.fr hs.fr) hx
 intro i o' hg'
 rcases Hp.put_get (h := e.H.put id none) (hs.hs.free hs.sr.wr hs.fr (Nat.le_refl _) hk) hg' with ⟨rfl, e1⟩ | ⟨_, e1⟩
 ·cases e1; exact Z1n hj
 ·obtain ⟨hne, e2⟩ := Z7u hfree e1
  obtain ⟨m, hm⟩ := Z1k (hs.hs i o' e2)
  exact Z1b hm (Z3b hs.sr.wr hj hm hne)
theorem Z6j (id n : Nat) {T : List (Nat × AV)} {t el size bytes : Nat} {p q : Operand} {zs : List Value} [hu : UD P t (.slice el)] [ha : AP P el size bytes] [hz : ZC P el zs] (ho : o.op = .makeSlice t p q)
  (hp : ev T p = some (.v (.int .i64 n))) (hq : ev T q = some (.v (.int .i64 n))) (h1 : bytes * n ≤ 140737488355328) (hm : n ≤ maxLen) (h2 : (zs.map AV.v).all one = true) :
  Eff P o T [] (.own id size 0 n) [(id, .rows el size (List.replicate n (zs.map .v)))] :=
 Z56 (N := n * size) (by intro c; rw [ho]; nofun) fun C H a w hw _ hv hid => by
  have e1 := VR.val (hv p (by rw [ho]; simp [Op.operands]) _ hp)
  have e2 := VR.val (hv q (by rw [ho]; simp [Op.operands]) _ hq)
  obtain ⟨i, zv, hi, hzv, hsz, hby, hzs, hpos⟩ := AP.open ha.ap
  have hz2 : zv.cells.toList = zs := by
   have := hz.zc
   unfold Program.zc at this
   rw [hi] at this
   simpa only [hzv, Option.map_some, Option.some.injEq] using this
  have hzl : zs.length = size := by rw [← hz2, Array.length_toList, hzs]
  have hm' : n ≤ 9223372036854775807 := hm
  have hw2 : IntKind.i64.wrap (n : Int) = n := Z0s (by omega)
  have hb1 : ¬ (281474976710656 < (bytes : Int) * n) := by
   have : ((bytes * n : Nat) : Int) ≤ 140737488355328 := Int.ofNat_le.2 h1
   rw [Int.natCast_mul] at this; omega
  let z0 : Array Value := if n * size = 0 then #[] else zv.cells
  refine ⟨.slice (some ⟨w.heap.size, 0, none⟩) n n, .cells ((Array.range (n * size)).map (z0[· % z0.size]!)) el, ?_, ?_, ?_⟩
  ·have e3 : (asInt (.int .i64 (n : Int))).run P w = .ok (n : Int) w := by simp [asInt, asIntOf, Sem.run_bind, Result.andThen]
   have h00 : ¬ ((n : Int) < 0) := by omega
   have hc1 : ¬ ((bytes : Int) * n > 2 ^ 48) := hb1
   have hc0 : (decide ((n : Int) < 0) || decide ((bytes : Int) * n > 2 ^ 48)) = false := by rw [decide_eq_false h00, decide_eq_false hc1]; rfl
   have hn0 : ((n : Int)).toNat = n := by omega
   have hrun : (Instr.makeSlice t (.int .i64 n) (.int .i64 n)).run P w = .ok (.slice (some ⟨w.heap.size, 0, none⟩) n n) (w.alloc (.cells ((Array.range (n * size)).map (z0[· % z0.size]!)) el)) := by
    unfold Instr.makeSlice
    simp only [Sem.run_bind, Go.run_underlying hu.ud, Result.andThen, e3, typeInfo, hi, hby, hw2, hc0, h00, Int.lt_irrefl, decide_false, Bool.or_false, Bool.false_or, Bool.false_eq_true, if_false, run_askRoom, hn0, sizeOf, hsz, Sem.run_pure]
    by_cases h0 : n * size = 0
    ·have hz0 : z0 = #[] := if_pos h0
     rw [hz0]
     simp [h0, hi, hby, hsz, hb1, newRow, run_newObj_alloc, Sem.run_bind, Result.andThen]
    ·have hz0 : z0 = zv.cells := if_neg h0
     rw [hz0]
     simp [h0, hi, hby, hsz, hb1, hzv, zeroValue, typeInfo, newRow, run_newObj_alloc, Sem.run_bind, Result.andThen, -getElem!_pos]
   have e4 : execOp a.eval o = (do pure (.value (← Instr.makeSlice t (a.eval p) (a.eval q)))) := by simp only [execOp, ho]
   rw [e4, e1, e2, Sem.run_bind, hrun]
   rfl
  ·have := VR.own (C := C.bind id w.heap.size (n * size)) id size 0 n w.heap.size (n * size) n (Ctx.bind_m ..) List.mem_cons_self (by simp) (Nat.le_refl _) hm
   simpa using this
  ·refine ⟨by intro l hl; rw [List.eq_of_mem_replicate hl]; simpa using hzl, .inr ⟨w.heap.size, n * size, _, Ctx.bind_m .., heap_alloc_new w _, by simp, by simp, ?_⟩⟩
   intro i' l j c hl hc
   have hlt := Z08 hl
   rw [List.length_replicate] at hlt
   have hl2 : l = zs.map .v := List.eq_of_mem_replicate (List.mem_of_getElem? hl)
   subst hl2
   have hj := Z08 hc
   rw [List.length_map, hzl] at hj
   have hbig : i' * size + j < n * size := by
    have : (i' + 1) * size ≤ n * size := Nat.mul_le_mul_right _ hlt
    rw [Nat.add_mul] at this; omega
   have hz0 : z0 = zv.cells := if_neg (by omega)
   rw [List.getElem?_map] at hc
   cases hzj : zs[j]? with
   | none => rw [hzj] at hc; cases hc
   | some u =>
    rw [hzj] at hc
    simp only [Option.map_some, Option.some.injEq] at hc
    subst hc
    have hu1 : one (.v u) = true := List.all_eq_true.1 h2 (.v u) (List.mem_map.2 ⟨u, List.mem_of_getElem? hzj, rfl⟩)
    have hcell : zv.cells[j]? = some u := by rw [← Array.getElem?_toList, hz2]; exact hzj
    refine ⟨u, ?_, .v u, Z6r (C := C) (.v u) hu1⟩
    rw [hz0]
    have hmod : (i' * size + j) % zv.cells.size = j := by rw [hzs, Nat.mul_comm, Nat.mul_add_mod, Nat.mod_eq_of_lt hj]
    have hjs : j < zv.cells.size := by rw [hzs]; exact hj
    have hcj : zv.cells[j] = u := by
     have := Array.getElem?_eq_getElem hjs
     rw [hcell] at this; exact (Option.some.inj this).symm
    rw [Array.getElem?_map, Array.getElem?_range, if_pos hbig]
    simp only [Option.map_some, hmod]
    rw [getElem!_pos zv.cells j hjs, hcj]
def evNew (P : Program) (T : Tr AV) (k : Nat) (op : Op) : Option (AV × AObj) := match op with
 | .box t p => match P.tk t, evT T p with
  | some (_, n), some x => bif Nat.beq (cellsA x).length n then (bif (cellsA x).all one then some (.ptr k n 0 0, .rows t n [cellsA x]) else none) else none
  | _, _ => none
 | .alloc t => match P.tk t, P.zc t with
  | some (_, n), some zs => bif Nat.beq zs.length n then (bif (zs.map AV.v).all one then some (.ptr k n 0 0, .rows t n [zs.map .v]) else none) else none
  | _, _ => none
 | .buildSlice t len ps => match P.underlying t with
  | some (.slice el) => match P.ap el, evTs T (ps.toList.map Prod.snd) with
   | some (size, _), some xs => bif inOrder 0 ps.toList && Nat.beq ps.toList.length len && (xs.map cellsA).all (fun l => Nat.beq l.length size) && (xs.map cellsA).all (fun l => l.all one) && Nat.ble (len * size) 16777216
    then some (.own k size 0 len, .rows el size (xs.map cellsA)) else none
   | _, _ => none
  | _ => none
 | .makeMap _ none => some (.map k, .mp [])
 | .makeSlice t p q => match P.underlying t with
  | some (.slice el) => match P.ap el, P.zc el, evT T p, evT T q with
   | some (size, bytes), some zs, some (.v (.int .i64 n)), some (.v (.int .i64 m)) =>
    if n = m ∧ 0 ≤ n ∧ bytes * n.toNat ≤ 140737488355328 ∧ n.toNat ≤ maxLen then (bif (zs.map AV.v).all one then some (.own k size 0 n.toNat, .rows el size (List.replicate n.toNat (zs.map .v))) else none) else none
   | _, _, _, _ => none
  | _ => none
 | _ => none
theorem Z7n {T : Tr AV} {k : Nat} {x : AV} {ob : AObj} (h : evNew P T k o.op = some (x, ob)) : Eff P o T.ls [] x [(k, ob)] := by
 unfold evNew at h
 split at h
 ·rename_i t p ho
  split at h
  ·rename_i b n y hk hy
   have : TK P t b n := ⟨hk⟩
   cases h1 : Nat.beq (cellsA y).length n with
   | false => rw [h1] at h; cases h
   | true =>
    cases h2 : (cellsA y).all one with
    | false => rw [h1, h2] at h; cases h
    | true => rw [h1, h2] at h; cases h; exact Z38 k ho (by rw [Z0f]; exact hy) rfl (Nat.eq_of_beq_eq_true h1) h2
  ·cases h
 ·rename_i t ho
  split at h
  ·rename_i b n zs hk hz
   have : TK P t b n := ⟨hk⟩
   have : ZC P t zs := ⟨hz⟩
   cases h1 : Nat.beq zs.length n with
   | false => rw [h1] at h; cases h
   | true =>
    cases h2 : (zs.map AV.v).all one with
    | false => rw [h1, h2] at h; cases h
    | true => rw [h1, h2] at h; cases h; exact Z1f k ho (Nat.eq_of_beq_eq_true h1) h2
  ·cases h
 ·rename_i t len ps ho
  split at h
  ·rename_i el hu
   have : UD P t (.slice el) := ⟨hu⟩
   split at h
   ·rename_i size bytes xs ha hx
    have : AP P el size bytes := ⟨ha⟩
    cases hc : (inOrder 0 ps.toList && Nat.beq ps.toList.length len && (xs.map cellsA).all (fun l => Nat.beq l.length size) && (xs.map cellsA).all (fun l => l.all one) && Nat.ble (len * size) 16777216) with
    | false => rw [hc] at h; cases h
    | true =>
     rw [hc] at h
     simp only [Bool.and_eq_true] at hc
     obtain ⟨⟨⟨⟨c1, c2⟩, c3⟩, c4⟩, c5⟩ := hc
     cases h
     exact Z11 k (ps := ps.toList) (by rw [ho]) c1 (Nat.eq_of_beq_eq_true c2) (by rw [Z3t]; exact hx) rfl c3 c4 c5
   ·cases h
  ·cases h
 ·rename_i t ho; cases h; exact Z55 k ho
 ·rename_i t p q ho
  split at h
  ·rename_i el hu
   have : UD P t (.slice el) := ⟨hu⟩
   split at h
   ·rename_i size bytes zs n m ha hz hp hq
    have : AP P el size bytes := ⟨ha⟩
    have : ZC P el zs := ⟨hz⟩
    split at h
    ·rename_i hc
     obtain ⟨rfl, h0, h1, h2⟩ := hc
     cases h3 : (zs.map AV.v).all one with
     | false => rw [h3] at h; cases h
     | true =>
      rw [h3] at h; cases h
      have hn : (n.toNat : Int) = n := by omega
      exact Z6j k n.toNat ho (by rw [Z0f, hp, hn]) (by rw [Z0f, hq, hn]) h1 h2 h3
    ·cases h
   ·cases h
  ·cases h
 ·cases h
end
end Go.Sx
namespace Go.Sx
open Go
section
variable {P : Program}
def aggT (P : Program) (t : TypeId) : Bool := match P.underlying t with | some (.struct _) => true | _ => false
mutual
theorem Zcq (w : World) (b : Bool) : ∀ (d : Nat) (t : TypeId) (ks : List CK) (D : Nat) (xs : List Value), ckOf P d t = some ks → d ≤ D → xs.map ck1 = ks.map some →
  (Instr.checkKey b D t (asV (aggT P t) xs)).run P w = .ok () w
 | 0, t, ks, D, xs, h, _, _ => by simp [ckOf] at h
 | d + 1, t, ks, D, xs, h, hD, hx => by
  obtain ⟨D, rfl⟩ : ∃ D', D = D' + 1 := ⟨D - 1, by omega⟩
  simp only [ckOf] at h
  have one : ∀ k, xs.map ck1 = [some k] → ∃ x, xs = [x] ∧ ck1 x = some k := by
   intro k hx
   cases xs with
   | nil => simp at hx
   | cons x r => cases r with | nil => exact ⟨x, rfl, by simpa using hx⟩ | cons => simp at hx
  split at h
  ·rename_i k hu
   simp only [Option.some.injEq] at h; subst h
   obtain ⟨x, rfl, hxk⟩ := one _ (by simpa using hx)
   obtain ⟨_, rfl⟩ := Z50 hxk
   simp [Instr.checkKey, Go.run_underlying hu, aggT, hu, asV, Result.andThen, Sem.run_bind]
  ·rename_i hu
   simp only [Option.some.injEq] at h; subst h
   obtain ⟨x, rfl, hxk⟩ := one _ (by simpa using hx)
   obtain ⟨_, rfl⟩ := Z37 hxk
   simp [Instr.checkKey, Go.run_underlying hu, aggT, hu, asV, Result.andThen, Sem.run_bind]
  ·rename_i hu
   simp only [Option.some.injEq] at h; subst h
   obtain ⟨x, rfl, hxk⟩ := one _ (by simpa using hx)
   obtain ⟨_, rfl⟩ := Z51 hxk
   simp [Instr.checkKey, Go.run_underlying hu, aggT, hu, asV, Result.andThen, Sem.run_bind]
  ·rename_i fs hu
   split at h
   ·cases h
   ·have := Z42 w b d fs.toList 0 ks D xs [] h (by omega) hx rfl
    simp only [List.nil_append] at this
    simp only [Instr.checkKey, Sem.run_bind, Go.run_underlying hu, Result.andThen, aggT, hu, asV, if_true]
    rw [← Array.forIn_toList]
    simp only [this, Sem.run_pure]
  ·cases h
theorem Z42 (w : World) (b : Bool) : ∀ (d : Nat) (fs : List Field) (off : Nat) (ks : List CK) (D : Nat) (xs px : List Value), ckFields P d fs off = some ks → d ≤ D → xs.map ck1 = ks.map some → px.length = off →
  (forIn (m := Sem) fs PUnit.unit (fun f r => if f.name ≠ "_" then do
    let __do_lift ← part f.type (px ++ xs).toArray f.offset
    Instr.checkKey b D f.type __do_lift
    pure (ForInStep.yield PUnit.unit)
   else pure (ForInStep.yield PUnit.unit))).run P w = .ok () w
 | d, [], off, ks, D, xs, px, h, _, hx, _ => by simp [Sem.run_pure]
 | 0, _ :: _, off, ks, D, xs, px, h, _, _, _ => by simp [ckFields] at h
 | d + 1, f :: fs, off, ks, D, xs, px, h, hD, hx, hpx => by
  simp only [ckFields] at h
  split at h
  ·rename_i hc
   split at h
   ·rename_i ks1 hk1
    split at h
    ·rename_i hsz
     split at h
     ·rename_i r hr
      simp only [Option.some.injEq] at h
      subst h
      rw [List.map_append] at hx
      have hxl : xs.length = ks1.length + r.length := by have := congrArg List.length hx; simpa using this
      have hx1 : (xs.take ks1.length).map ck1 = ks1.map some := by have := congrArg (List.take ks1.length) hx; simpa using this
      have hx2 : (xs.drop ks1.length).map ck1 = r.map some := by have := congrArg (List.drop ks1.length) hx; simpa using this
      have hn : f.name ≠ "_" := by simpa using hc.1
      have he := Zcq w b d f.type ks1 D (xs.take ks1.length) hk1 (by omega) hx1
      have ih := Z42 w b d fs (off + ks1.length) r D (xs.drop ks1.length) (px ++ xs.take ks1.length) hr (by omega) hx2 (by simp; omega)
      rw [List.append_assoc, List.take_append_drop] at ih
      have hu : ∃ dd, P.underlying f.type = some dd := by
       cases d with
       | zero => simp [ckOf] at hk1
       | succ d =>
        simp only [ckOf] at hk1
        cases hz : P.underlying f.type with
        | some dd => exact ⟨dd, rfl⟩
        | none => rw [hz] at hk1; cases hk1
      obtain ⟨dd, hu⟩ := hu
      have htk := Zg7 hu hsz
      have hpart : ∀ (p l : List Value), p.length = off → ks1.length ≤ l.length → (ks1.length = 1 ∨ (∃ fs, dd = .struct fs)) → (∀ fs' : Nat × TypeId, dd ≠ .array fs'.1 fs'.2) →
        (part f.type (p ++ l).toArray f.offset).run P w = .ok (asV (aggT P f.type) (l.take ks1.length)) w := by
       intro p l hp hl hone hna
       unfold part
       rw [Sem.run_bind, Z27 htk]
       simp only [Result.andThen, aggT]
       rcases hone with hone | ⟨fs', rfl⟩
       ·cases dd with
        | struct fs' =>
         simp only [hu, aggD, if_true, Sem.run_bind, Z0g htk, Result.andThen, Sem.run_pure, asV]
         congr 2
         apply Array.ext'
         simp [hc.2, ← hp]
        | array a b => exact absurd rfl (hna (a, b))
        | _ =>
         simp only [hu, aggD, Bool.false_eq_true, if_false, asV]
         obtain ⟨v, l', rfl⟩ : ∃ v l', l = v :: l' := by cases l with | nil => simp [hone] at hl | cons v l' => exact ⟨v, l', rfl⟩
         have : (p ++ v :: l').toArray[f.offset]? = some v := by rw [List.getElem?_toArray, hc.2, ← hp]; simp
         rw [this, hone]
         simp
       ·simp only [hu, aggD, if_true, Sem.run_bind, Z0g htk, Result.andThen, Sem.run_pure, asV]
        congr 2
        apply Array.ext'
        simp [hc.2, ← hp]
      have hshape : (ks1.length = 1 ∨ (∃ fs, dd = .struct fs)) ∧ (∀ fs' : Nat × TypeId, dd ≠ .array fs'.1 fs'.2) := by
       cases d with
       | zero => simp [ckOf] at hk1
       | succ d =>
        simp only [ckOf, hu] at hk1
        cases dd <;> simp at hk1 <;> first | (subst hk1; exact ⟨.inl rfl, by intro _; nofun⟩) | exact ⟨.inr ⟨_, rfl⟩, by intro _; nofun⟩
      rw [List.forIn_cons]
      simp only [if_pos hn, Sem.run_bind, hpart px xs hpx (by omega) hshape.1 hshape.2, Result.andThen, he, Sem.run_pure]
      exact ih
     ·cases h
    ·cases h
   ·cases h
  ·cases h
end
def vcells : Value → List Value
 | .agg cs => cs.toList
 | v => [v]
def isAggV : Value → Bool
 | .agg _ => true
 | _ => false
theorem Zaf {v : Value} : asV (isAggV v) (vcells v) = v := by cases v <;> simp [asV, isAggV, vcells]
def vOk : Value → CK → Bool
 | .int k _, .int k' => decide (k = k')
 | .bool _, .bool => true
 | .string _, .str => true
 | _, _ => false
theorem Ze9 {x : Value} {k : CK} (h : vOk x k = true) : ck1 x = some k := by
 unfold vOk at h
 split at h
 ·have := of_decide_eq_true h; subst this; rfl
 ·rfl
 ·rfl
 ·cases h
def vsOk : List Value → List CK → Bool
 | [], [] => true
 | x :: xs, k :: ks => bif vOk x k then vsOk xs ks else false
 | _, _ => false
theorem Z89 : ∀ (xs : List Value) (ks : List CK), vsOk xs ks = true → xs.map ck1 = ks.map some
 | [], [], _ => rfl
 | [], _ :: _, h => by simp [vsOk] at h
 | _ :: _, [], h => by simp [vsOk] at h
 | x :: xs, k :: ks, h => by
  simp only [vsOk] at h
  cases hk : vOk x k with
  | false => rw [hk] at h; cases h
  | true => rw [hk] at h; simp [Ze9 hk, Z89 xs ks h]
def keyOk (agg : Bool) (ks : List CK) (v : Value) : Bool := bif Nat.beq agg.toNat (isAggV v).toNat then vsOk (vcells v) ks else false
theorem Z15 {agg : Bool} {ks : List CK} {v : Value} (h : keyOk agg ks v = true) : (vcells v).map ck1 = ks.map some ∧ asV agg (vcells v) = v := by
 unfold keyOk at h
 cases hb : Nat.beq agg.toNat (isAggV v).toNat with
 | false => rw [hb] at h; cases h
 | true =>
  rw [hb] at h
  have e : agg = isAggV v := by
   have := Nat.eq_of_beq_eq_true hb
   revert this
   cases agg <;> cases isAggV v <;> simp
  exact ⟨Z89 _ _ h, by rw [e]; exact Zaf⟩
def beqL : List UInt8 → List UInt8 → Bool
 | [], [] => true
 | a :: l, b :: m => bif Nat.beq a.toNat b.toNat then beqL l m else false
 | _, _ => false
theorem Z75 : ∀ a b : List UInt8, beqL a b = (a == b)
 | [], [] => rfl
 | [], _ :: _ => rfl
 | _ :: _, [] => rfl
 | a :: l, b :: m => by
  simp only [beqL, List.cons_beq_cons]
  cases h : Nat.beq a.toNat b.toNat with
  | true =>
   have e : a = b := UInt8.toNat.inj (Nat.eq_of_beq_eq_true h)
   subst e; simp [Z75 l m]
  | false =>
   have e : (a == b) = false := by
    cases h2 : a == b with
    | false => rfl
    | true => have := eq_of_beq h2; subst this; rw [Nat.beq_refl] at h; cases h
   simp [e]
def veqF : Value → Value → Bool
 | .int _ a, .int _ b => a == b
 | .bool a, .bool b => a == b
 | .string a, .string b => beqL a.data.toList b.data.toList
 | _, _ => false
theorem Zd0 (x y : Value) : veqF x y = veq x y := by
 unfold veqF veq
 split <;> simp [Z75, ByteArray.toList_eq]
def vseqF : List Value → List Value → Bool
 | [], [] => true
 | x :: xs, y :: ys => bif veqF x y then vseqF xs ys else false
 | _, _ => false
theorem Z6c : ∀ xs ys : List Value, vseqF xs ys = vseq xs ys
 | [], [] => rfl
 | [], _ :: _ => rfl
 | _ :: _, [] => rfl
 | x :: xs, y :: ys => by
  simp only [vseqF, vseq, Zd0, Z6c xs ys]
  cases veq x y <;> rfl
def mfind (agg : Bool) (ks : List CK) (key : Value) : List (Value × AV) → Nat → Option (Option (Nat × AV))
 | [], _ => some none
 | (kk, x) :: r, n => bif keyOk agg ks kk then (bif vseqF (vcells key) (vcells kk) then some (some (n, x)) else mfind agg ks key r (n + 1)) else none
theorem Z67 {xs : List Value} {k : CK} (hx : xs.map ck1 = [some k]) : ∃ x, xs = [x] ∧ ck1 x = some k := by
 cases xs with
 | nil => simp at hx
 | cons x r => cases r with | nil => exact ⟨x, rfl, by simpa using hx⟩ | cons => simp at hx
theorem Zct {kt : TypeId} {ks : List CK} {a b : Value} (hck : ckOf P 20 kt = some ks) (ha : keyOk (aggT P kt) ks a = true) (hb : keyOk (aggT P kt) ks b = true) (w : World) : (Op.equal kt a b).run P w = .ok (vseq (vcells a) (vcells b)) w := by
 obtain ⟨a1, a2⟩ := Z15 ha
 obtain ⟨b1, b2⟩ := Z15 hb
 have h : (Op.equalIn 10000 kt (asV (aggT P kt) (vcells a)) (asV (aggT P kt) (vcells b))).run P w = .ok (vseq (vcells a) (vcells b)) w := Za6 (P := P) w 20 kt ks 10000 (vcells a) (vcells b) hck (by omega) a1 b1
 rw [a2, b2] at h
 exact h
theorem Zaz {kt : TypeId} {ks : List CK} {a b : Value} {d : TypeDesc} (hu : P.underlying kt = some d) (hck : ckOf P 20 kt = some ks) (ha : keyOk (aggT P kt) ks a = true) (hb : keyOk (aggT P kt) ks b = true) :
  (aggT P kt = true ∧ Instr.sameNow d a b = none) ∨ (aggT P kt = false ∧ Instr.sameNow d a b = some (vseq (vcells a) (vcells b))) := by
 obtain ⟨a1, a2⟩ := Z15 ha
 obtain ⟨b1, b2⟩ := Z15 hb
 simp only [ckOf, hu] at hck
 split at hck
 ·rename_i k hk
  cases hk
  simp only [Option.some.injEq] at hck; subst hck
  obtain ⟨x, hx, hxk⟩ := Z67 (by simpa using a1)
  obtain ⟨y, hy, hyk⟩ := Z67 (by simpa using b1)
  obtain ⟨n, rfl⟩ := Z50 hxk
  obtain ⟨m, rfl⟩ := Z50 hyk
  rw [hx] at a2 ⊢; rw [hy] at b2 ⊢
  refine .inr ⟨by simp [aggT, hu], ?_⟩
  simp only [aggT, hu, asV, Bool.false_eq_true, if_false, List.headD] at a2 b2
  rw [← a2, ← b2]
  simp [Instr.sameNow, vseq, veq]
 ·rename_i hk
  cases hk
  simp only [Option.some.injEq] at hck; subst hck
  obtain ⟨x, hx, hxk⟩ := Z67 (by simpa using a1)
  obtain ⟨y, hy, hyk⟩ := Z67 (by simpa using b1)
  obtain ⟨n, rfl⟩ := Z37 hxk
  obtain ⟨m, rfl⟩ := Z37 hyk
  rw [hx] at a2 ⊢; rw [hy] at b2 ⊢
  refine .inr ⟨by simp [aggT, hu], ?_⟩
  simp only [aggT, hu, asV, Bool.false_eq_true, if_false, List.headD] at a2 b2
  rw [← a2, ← b2]
  simp [Instr.sameNow, vseq, veq]
 ·rename_i hk
  cases hk
  simp only [Option.some.injEq] at hck; subst hck
  obtain ⟨x, hx, hxk⟩ := Z67 (by simpa using a1)
  obtain ⟨y, hy, hyk⟩ := Z67 (by simpa using b1)
  obtain ⟨n, rfl⟩ := Z51 hxk
  obtain ⟨m, rfl⟩ := Z51 hyk
  rw [hx] at a2 ⊢; rw [hy] at b2 ⊢
  refine .inr ⟨by simp [aggT, hu], ?_⟩
  simp only [aggT, hu, asV, Bool.false_eq_true, if_false, List.headD] at a2 b2
  rw [← a2, ← b2]
  simp [Instr.sameNow, vseq, veq, Z6f, beqS]
 ·rename_i fs hk
  cases hk
  exact .inl ⟨by simp [aggT, hu], by unfold Instr.sameNow; rfl⟩
 ·cases hck
def FindOk (C : Ctx) (key : Value) (es : List (Value × AV)) (n : Nat) (r : Option (Nat × AV)) (r' : Option (Nat × Value)) : Prop :=
 match r, r' with
 | none, none => True
 | some (i, x), some (i', v) => i' = i ∧ n ≤ i ∧ VR C x v ∧ (∃ kk, es[i - n]? = some (kk, x) ∧ vseq (vcells key) (vcells kk) = true)
 | _, _ => False
theorem FindOk.up {C : Ctx} {key : Value} {p : Value × AV} {es : List (Value × AV)} {n : Nat} {r : Option (Nat × AV)} {r' : Option (Nat × Value)} (h : FindOk C key es (n + 1) r r') : FindOk C key (p :: es) n r r' := by
 unfold FindOk at h ⊢
 split at h
 ·trivial
 ·obtain ⟨h1, h2, h3, kk, h4, h5⟩ := h
  refine ⟨h1, by omega, h3, kk, ?_, h5⟩
  rename_i i x _ _
  rw [show i - n = (i - (n + 1)) + 1 from by omega, List.getElem?_cons_succ]
  exact h4
 ·exact h.elim
theorem Z84 {C : Ctx} {kt : TypeId} {ks : List CK} {key : Value} {d : TypeDesc} (hu : P.underlying kt = some d) (hck : ckOf P 20 kt = some ks) (ha : keyOk (aggT P kt) ks key = true) (w : World) :
  ∀ (es : List (Value × AV)) (ents : List MapEntry) (n : Nat) (r : Option (Nat × AV)), es.length = ents.length →
   (∀ (i : Nat) (kk : Value) (x : AV), es[i]? = some (kk, x) → ∃ e : MapEntry, ents[i]? = some e ∧ e.key = kk ∧ VR C x e.val) → mfind (aggT P kt) ks key es n = some r →
   ∃ r', FindOk C key es n r r' ∧ (Instr.findAsking kt key ents n).run P w = .ok r' w ∧ (aggT P kt = false → Instr.findNow d key ents n = some r') ∧ (aggT P kt = true → ents ≠ [] → Instr.findNow d key ents n = none)
 | [], [], n, r, _, _, h => by
  simp only [mfind, Option.some.injEq] at h
  subst h
  exact ⟨none, trivial, by simp [Instr.findAsking, Sem.run_pure], fun _ => rfl, fun _ h => absurd rfl h⟩
 | [], _ :: _, _, _, h, _, _ => by simp at h
 | _ :: _, [], _, _, h, _, _ => by simp at h
 | (kk, x) :: es, e :: ents, n, r, hl, hes, h => by
  obtain ⟨e', he, hk', hv⟩ := hes 0 kk x rfl
  simp only [List.getElem?_cons_zero, Option.some.injEq] at he
  subst he
  simp only [mfind] at h
  cases hko : keyOk (aggT P kt) ks kk with
  | false => rw [hko] at h; cases h
  | true =>
   rw [hko, cond_true, Z6c] at h
   have heq := Zct (P := P) hck ha hko w
   have hsn := Zaz hu hck ha hko
   cases hb : vseq (vcells key) (vcells kk) with
   | true =>
    rw [hb] at h heq
    simp only [cond_true, Option.some.injEq] at h
    subst h
    refine ⟨some (n, e.val), ⟨rfl, Nat.le_refl _, hv, kk, by simp, hb⟩, ?_, ?_, ?_⟩
    ·simp [Instr.findAsking, hk', heq, Sem.run_bind, Result.andThen]
    ·intro hag
     rcases hsn with ⟨h1, _⟩ | ⟨_, h2⟩
     ·rw [hag] at h1; cases h1
     ·simp [Instr.findNow, hk', h2, hb]
    ·intro hag _
     rcases hsn with ⟨_, h2⟩ | ⟨h1, _⟩
     ·simp [Instr.findNow, hk', h2]
     ·rw [hag] at h1; cases h1
   | false =>
    rw [hb] at h heq
    simp only [cond_false] at h
    obtain ⟨r', g1, g2, g3, g4⟩ := Z84 (C := C) hu hck ha w es ents (n + 1) r (by simpa using hl) (fun i a b c => hes (i + 1) a b (by simpa using c)) h
    refine ⟨r', g1.up, ?_, ?_, ?_⟩
    ·simp [Instr.findAsking, hk', heq, g2, Sem.run_bind, Result.andThen]
    ·intro hag
     rcases hsn with ⟨h1, _⟩ | ⟨_, h2⟩
     ·rw [hag] at h1; cases h1
     ·simp [Instr.findNow, hk', h2, hb, g3 hag]
    ·intro hag _
     rcases hsn with ⟨_, h2⟩ | ⟨h1, _⟩
     ·simp [Instr.findNow, hk', h2]
     ·rw [hag] at h1; cases h1
theorem Z1w {C : Ctx} {kt : TypeId} {ks : List CK} {key : Value} (hck : ckOf P 20 kt = some ks) (ha : keyOk (aggT P kt) ks key = true) (w : World) {es : List (Value × AV)} {ents : List MapEntry} {r : Option (Nat × AV)}
  (hl : es.length = ents.length) (hes : ∀ (i : Nat) (kk : Value) (x : AV), es[i]? = some (kk, x) → ∃ e : MapEntry, ents[i]? = some e ∧ e.key = kk ∧ VR C x e.val) (h : mfind (aggT P kt) ks key es 0 = some r) :
  ∃ r', FindOk C key es 0 r r' ∧ (Instr.findKey kt key ents).run P w = .ok r' w := by
 have hu : ∃ d, P.underlying kt = some d := by
  simp only [ckOf] at hck
  cases hz : P.underlying kt with
  | some d => exact ⟨d, rfl⟩
  | none => rw [hz] at hck; cases hck
 obtain ⟨d, hu⟩ := hu
 obtain ⟨r', h1, h2, h3, h4⟩ := Z84 (C := C) hu hck ha w es ents 0 r hl hes h
 refine ⟨r', h1, ?_⟩
 cases hag : aggT P kt with
 | false => simp [Instr.findKey, Go.run_underlying hu, h3 hag, Result.andThen, Sem.run_bind]
 | true =>
  cases ents with
  | nil =>
   have : r' = none := by
    have := h2
    simp only [Instr.findAsking, Sem.run_pure, Result.ok.injEq, and_true] at this
    exact this.symm
   subst this
   simp [Instr.findKey, Go.run_underlying hu, Instr.findNow, Result.andThen, Sem.run_bind]
  | cons e ents => simp [Instr.findKey, Go.run_underlying hu, h4 hag (by simp), h2, Result.andThen, Sem.run_bind]
theorem Z2y {kt : TypeId} {ks : List CK} {key : Value} (hck : ckOf P 20 kt = some ks) (ha : keyOk (aggT P kt) ks key = true) (b : Bool) (w : World) : (Instr.checkKey b 10000 kt key).run P w = .ok () w := by
 obtain ⟨a1, a2⟩ := Z15 ha
 have := Zcq (P := P) w b 20 kt ks 10000 (vcells key) hck (by omega) a1
 rwa [a2] at this
theorem Z98 {agg : Bool} {ks : List CK} {key kk : Value} (ha : keyOk agg ks key = true) (hb : keyOk agg ks kk = true) (h : vseq (vcells key) (vcells kk) = true) : kk = key := by
 obtain ⟨a1, a2⟩ := Z15 ha
 obtain ⟨b1, b2⟩ := Z15 hb
 have : ∀ (xs ys : List Value) (ks : List CK), xs.map ck1 = ks.map some → ys.map ck1 = ks.map some → vseq xs ys = true → ys = xs := by
  intro xs
  induction xs with
  | nil => intro ys ks h1 h2 h3; cases ys with | nil => rfl | cons => simp [vseq] at h3
  | cons x xs ih =>
   intro ys ks h1 h2 h3
   cases ys with
   | nil => simp [vseq] at h3
   | cons y ys =>
    cases ks with
    | nil => simp at h1
    | cons k ks =>
     simp only [List.map_cons, List.cons.injEq] at h1 h2
     simp only [vseq, Bool.and_eq_true] at h3
     have e := ih ys ks h1.2 h2.2 h3.2
     subst e
     congr 1
     have h4 := h3.1
     cases k with
     | int kk =>
      obtain ⟨n, rfl⟩ := Z50 h1.1
      obtain ⟨m, rfl⟩ := Z50 h2.1
      simp only [veq, beq_iff_eq] at h4; rw [h4]
     | bool =>
      obtain ⟨n, rfl⟩ := Z37 h1.1
      obtain ⟨m, rfl⟩ := Z37 h2.1
      simp only [veq, beq_iff_eq] at h4; rw [h4]
     | str =>
      obtain ⟨n, rfl⟩ := Z51 h1.1
      obtain ⟨m, rfl⟩ := Z51 h2.1
      have : beqS n m = true := h4
      rw [beqS_iff.1 this]
 rw [← a2, ← b2, this _ _ ks a1 b1 h]
theorem Z85 : ∀ {agg : Bool} {ks : List CK} {key : Value}, keyOk agg ks key = true → Instr.sameBits 10000 key key = true := by
 intro agg ks key ha
 obtain ⟨a1, a2⟩ := Z15 ha
 have h1 : ∀ (x : Value) (k : CK) (n : Nat), ck1 x = some k → Instr.sameBits n x x = true := by
  intro x k n h
  cases x <;> simp [ck1] at h <;> simp [Instr.sameBits, Z6f, Z76]
 cases key with
 | agg cs =>
  simp only [vcells] at a1
  simp only [Instr.sameBits, beq_self_eq_true, Bool.true_and, List.all_eq_true]
  intro p hp
  obtain ⟨i, hi⟩ := List.mem_iff_getElem?.1 hp
  rw [List.getElem?_zip_eq_some] at hi
  have e : p.1 = p.2 := by have := hi.1.symm.trans hi.2; exact Option.some.inj this
  have hm := congrArg (·[i]?) a1
  simp only [List.getElem?_map, hi.1, Option.map_some] at hm
  cases hk : ks[i]? with
  | none => rw [hk] at hm; cases hm
  | some k =>
   rw [hk] at hm
   simp only [Option.map_some, Option.some.injEq] at hm
   rw [← e]; exact h1 _ k _ hm
 | _ =>
  simp only [vcells] at a1
  cases ks with
  | nil => simp at a1
  | cons k ks => simp only [List.map_cons, List.cons.injEq] at a1; exact h1 _ k _ a1.1
end
end Go.Sx
namespace Go.Sx
open Go
def avOf : Value → AV
 | .agg cs => .agg (cs.toList.map .v)
 | v => .v v
theorem Z2f {C : Ctx} (v : Value) : VR C (avOf v) v := by
 cases v with
 | agg cs => exact Zd1 cs.toList
 | _ => exact .v _
def allV : List AV → Option (List Value)
 | [] => some []
 | .v x :: r => match allV r with | some l => some (x :: l) | none => none
 | _ => none
theorem Z70 : ∀ (l : List AV) (vs : List Value), allV l = some vs → l = vs.map .v
 | [], vs, h => by simp only [allV, Option.some.injEq] at h; subst h; rfl
 | x :: r, vs, h => by
  unfold allV at h
  split at h
  ·rename_i heq; cases heq
  ·rename_i heq
   cases heq
   split at h
   ·rename_i l hl
    simp only [Option.some.injEq] at h
    subst h
    simp [Z70 r l hl]
   ·cases h
  ·cases h
def keyA : AV → Option Value
 | .agg cs => match allV cs with | some l => some (.agg l.toArray) | none => none
 | .v v => some v
 | _ => none
theorem Z25 {C : Ctx} {x : AV} {k v : Value} (h : keyA x = some k) (hv : VR C x v) : v = k := by
 unfold keyA at h
 split at h
 ·rename_i cs
  split at h
  ·rename_i l hl
   simp only [Option.some.injEq] at h
   subst h
   rw [Z70 cs l hl] at hv
   exact hv.aggV
  ·cases h
 ·cases h; exact VR.val hv
 ·cases h
def mres (ok : Bool) (z : Value) (r : Option (Nat × AV)) : AV := match r with
 | some (_, x) => if ok then .tup [x, .v (.bool true)] else x
 | none => if ok then .tup [avOf z, .v (.bool false)] else avOf z
def mupd (es : List (Value × AV)) (r : Option (Nat × AV)) (key : Value) (x : AV) : List (Value × AV) := match r with
 | some (i, _) => es.set i (key, x)
 | none => es ++ [(key, x)]
def mdel (es : List (Value × AV)) (r : Option (Nat × AV)) : List (Value × AV) := match r with
 | some (i, _) => es.eraseIdx i
 | none => es
section
variable {P : Program} {o : Oper} {T : List (Nat × AV)}
theorem Z8u {t kt et id : Nat} {p q : Operand} {key : Value} {kx : AV} {es : List (Value × AV)} {r : Option (Nat × AV)} {z : Value} {ks : List CK} {ok : Bool} [hu : UD P t (.map kt et)] (hck : ckOf P 20 kt = some ks) (hz : P.zv et = some z)
  (ho : o.op = .lookup t p q ok) (hp : ev T p = some (.map id)) (hq : ev T q = some kx) (hkx : keyA kx = some key) (ha : keyOk (aggT P kt) ks key = true) (hf : mfind (aggT P kt) ks key es 0 = some r) :
  Eff P o T [(id, .mp es)] (mres ok z r) [] :=
 Z01 (by intro c; rw [ho]; nofun) fun C H a w hw hn hv => by
  have hpv := hv p (by rw [ho]; simp [Op.operands]) _ hp
  have hqv := Z25 hkx (hv q (by rw [ho]; simp [Op.operands]) _ hq)
  obtain ⟨_, b, N, ents, clock, hm, hh, hl, _, _, hrow⟩ := hw.ids _ _ (hn _ List.mem_cons_self)
  have hpe : a.eval p = .map (some b) := by
   generalize a.eval p = u at hpv
   cases hpv with
   | map _ b' N' hid _ => rw [hm] at hid; cases hid; rfl
  have hget : (getObj b).run P w = .ok (.map ents clock) w := by simp [getObj, Sem.run, hh]
  have hchk := fun b => Z2y (P := P) hck ha b w
  obtain ⟨r', h1, h2⟩ := Z1w (P := P) (C := C) (ents := ents.toList) hck ha w (by simpa using hl.symm) (fun i a b c => by rw [Array.getElem?_toList]; exact hrow i a b c) hf
  unfold FindOk at h1
  split at h1
  ·refine ⟨if ok then .tuple #[z, .bool false] else z, ?_, ?_⟩
   ·cases ok <;> simp [execOp, ho, Instr.lookup, hpe, hqv, Go.run_underlying hu.ud, hget, hchk, h2, Z2z hz, Result.andThen, Sem.run_bind]
   ·cases ok
    ·exact Z2f z
    ·exact Z2m (Z2f z) (.v _)
  ·rename_i i x i' v
   obtain ⟨_, _, h3, _⟩ := h1
   refine ⟨if ok then .tuple #[v, .bool true] else v, ?_, ?_⟩
   ·cases ok <;> simp [execOp, ho, Instr.lookup, hpe, hqv, Go.run_underlying hu.ud, hget, hchk, h2, Result.andThen, Sem.run_bind]
   ·cases ok
    ·exact h3
    ·exact Z2m h3 (.v _)
  ·exact h1.elim
theorem Z54 {t kt et : Nat} {p q : Operand} {key : Value} {kx : AV} {z : Value} {ks : List CK} {ok : Bool} [hu : UD P t (.map kt et)] (hck : ckOf P 20 kt = some ks) (hz : P.zv et = some z)
  (ho : o.op = .lookup t p q ok) (hp : ev T p = some (.v (.map none))) (hq : ev T q = some kx) (hkx : keyA kx = some key) (ha : keyOk (aggT P kt) ks key = true) :
  Eff P o T [] (mres ok z none) [] :=
 Z01 (by intro c; rw [ho]; nofun) fun C H a w hw hn hv => by
  have hpe := VR.val (hv p (by rw [ho]; simp [Op.operands]) _ hp)
  have hqv := Z25 hkx (hv q (by rw [ho]; simp [Op.operands]) _ hq)
  have hchk := fun b => Z2y (P := P) hck ha b w
  obtain ⟨r', h1, h2⟩ := Z1w (P := P) (C := C) (es := []) (ents := []) (r := none) hck ha w rfl (fun i a b c => by simp at c) rfl
  cases r' with
  | some => exact h1.elim
  | none =>
   refine ⟨if ok then .tuple #[z, .bool false] else z, ?_, ?_⟩
   ·cases ok <;> simp [execOp, ho, Instr.lookup, hpe, hqv, Go.run_underlying hu.ud, hchk, h2, Z2z hz, Result.andThen, Sem.run_bind]
   ·cases ok
    ·exact Z2f z
    ·exact Z2m (Z2f z) (.v _)
theorem Zbm {t kt et id : Nat} {p q q2 : Operand} {key : Value} {kx x : AV} {es : List (Value × AV)} {r : Option (Nat × AV)} {ks : List CK} {H : AHeap} (k : Nat) [hu : UD P t (.map kt et)] (hck : ckOf P 20 kt = some ks)
  (ho : o.op = .mapUpdate t p q q2 ∨ o.op = .insert t p q q2) (hp : ev T p = some (.map id)) (hH : H[k]? = some (id, .mp es)) (hq : ev T q = some kx) (hkx : keyA kx = some key) (hr : ev T q2 = some x) (ha : keyOk (aggT P kt) ks key = true) (hf : mfind (aggT P kt) ks key es 0 = some r) :
  EffW P o T H (H.set k (id, .mp (mupd es r key x))) := by
 intro Z C a w hswr hv ro next R hnext
 have hmem := List.mem_of_getElem? hH
 obtain ⟨hu', b, N, ents, clock, hm, hh, hl, hborn, hinj, hrow⟩ := hswr.ids _ _ hmem
 have m1 : p ∈ o.op.operands := by rcases ho with ho | ho <;> (rw [ho]; simp [Op.operands])
 have m2 : q ∈ o.op.operands := by rcases ho with ho | ho <;> (rw [ho]; simp [Op.operands])
 have m3 : q2 ∈ o.op.operands := by rcases ho with ho | ho <;> (rw [ho]; simp [Op.operands])
 have hpv := hv p m1 _ hp
 have hqv := Z25 hkx (hv q m2 _ hq)
 have hrv := hv q2 m3 _ hr
 have hsem : o.semAt ro a.eval = (do Instr.mapUpdate t (a.eval p) (a.eval q) (a.eval q2); pure .skip) := by
  rw [Oper.semAt_eq _ _ _ (by intro c; rcases ho with ho | ho <;> (rw [ho]; nofun))]
  rcases ho with ho | ho <;> simp only [execOp, ho]
 have hpe : a.eval p = .map (some b) := by
  generalize a.eval p = u at hpv
  cases hpv with
  | map _ b' N' hid _ => rw [hm] at hid; cases hid; rfl
 have hget : (getObj b).run P w = .ok (.map ents clock) w := by simp [getObj, Sem.run, hh]
 have hsetr : ∀ o', (setObj b o').run P w = .ok () (w.putObj b o') := fun o' => by simp [setObj, Sem.run, hh, World.putObj]
 have hlt : b < w.heap.size := (Array.getElem?_eq_some_iff.1 hh).1
 have hchk := fun b => Z2y (P := P) hck ha b w
 obtain ⟨r', h1, h2⟩ := Z1w (P := P) (C := C) (ents := ents.toList) hck ha w (by simpa using hl.symm) (fun i a b c => by rw [Array.getElem?_toList]; exact hrow i a b c) hf
 have fin : ∀ (ents' : Array MapEntry) (clock' : Nat) (es' : List (Value × AV)), (o.semAt ro a.eval).run P w = .ok .skip (w.putObj b (.map ents' clock')) →
   OR C id (w.putObj b (.map ents' clock')) (.mp es') → es' = mupd es r key x →
   o.uponIn (Wd ro) 0 P a next R ((o.semAt ro a.eval).run P w) := by
  intro ents' clock' es' hrun hor he
  subst he
  rw [hrun]
  obtain ⟨hw1, he1⟩ := Z0p (Z := Z) (C' := C) (id' := id) (o' := .mp (mupd es r key x)) (w' := w.putObj b (.map ents' clock')) hswr hH (.refl C) rfl (.inl rfl) hu' (fun _ _ h => h) rfl rfl rfl (by simp)
   (fun b N' hm' => .inl ⟨N', hm'⟩) (fun b2 hb2 hne => World.putObj_heap_other (by rintro rfl; exact hne N hm)) hor
  exact hnext undef _ C (.v undef) hw1 he1
 have hnew : ∀ o', (w.putObj b o').heap[b]? = some o' := fun o' => World.putObj_heap_same hlt
 unfold FindOk at h1
 split at h1
 ·refine fin (ents.push { key := key, val := a.eval q2, born := clock }) (clock + 1) (es ++ [(key, x)]) ?_ ?_ rfl
  ·rw [hsem]
   simp [Instr.mapUpdate, hpe, hqv, Go.run_underlying hu.ud, hget, hchk, h2, hsetr, Result.andThen, Sem.run_bind]
  ·refine ⟨b, N, _, _, hm, hnew _, by simp [hl], ?_, ?_, ?_⟩
   ·intro i e he
    rw [Array.getElem?_push] at he
    split at he
    ·cases he; simp
    ·have := hborn i e he; omega
   ·intro i j e e' he he' hb
    rw [Array.getElem?_push] at he he'
    split at he <;> split at he'
    ·omega
    ·cases he
     have := hborn j e' he'
     simp only at hb; omega
    ·cases he'
     have := hborn i e he
     simp only at hb; omega
    ·exact hinj i j e e' he he' hb
   ·intro i kk z hz
    rw [List.getElem?_append] at hz
    split at hz
    ·rename_i hlt2
     obtain ⟨e, h7, h8⟩ := hrow i kk z hz
     exact ⟨e, by rw [Array.getElem?_push, if_neg (by omega)]; exact h7, h8⟩
    ·rename_i hge
     have hi : i = es.length := by
      have := Z08 hz; simp at this; omega
     subst hi
     simp at hz
     obtain ⟨rfl, rfl⟩ := hz
     exact ⟨{ key := key, val := a.eval q2, born := clock }, by rw [Array.getElem?_push, if_pos hl.symm], rfl, hrv⟩
 ·rename_i i y i' v
  obtain ⟨rfl, _, h3, kk, h5, h6⟩ := h1
  rw [Nat.sub_zero] at h5
  obtain ⟨e0, he0, hk0, _⟩ := hrow i' _ _ h5
  have hko : kk = key := by
   -- the entry's key was looked at
   have hkk : keyOk (aggT P kt) ks kk = true := by
    have : ∀ (l : List (Value × AV)) (n : Nat), mfind (aggT P kt) ks key l n = some (some (i', y)) → l[i' - n]? = some (kk, y) → n ≤ i' → keyOk (aggT P kt) ks kk = true := by
     intro l
     induction l with
     | nil => intro n h; simp [mfind] at h
     | cons p l ih =>
      intro n h hg hn
      obtain ⟨pk, px⟩ := p
      simp only [mfind] at h
      cases hko : keyOk (aggT P kt) ks pk with
      | false => rw [hko] at h; cases h
      | true =>
       rw [hko, cond_true] at h
       cases hb : vseqF (vcells key) (vcells pk) with
       | true =>
        rw [hb] at h
        simp only [cond_true, Option.some.injEq, Prod.mk.injEq] at h
        obtain ⟨rfl, rfl⟩ := h
        simp at hg
        rw [← hg]; exact hko
       | false =>
        rw [hb, cond_false] at h
        have hge : ∀ (l : List (Value × AV)) (n i : Nat) (z : AV), mfind (aggT P kt) ks key l n = some (some (i, z)) → n ≤ i := by
         intro l
         induction l with
         | nil => intro n i z h; simp [mfind] at h
         | cons p l ih =>
          intro n i z h
          obtain ⟨pk, px⟩ := p
          simp only [mfind] at h
          cases hko : keyOk (aggT P kt) ks pk with
          | false => rw [hko] at h; cases h
          | true =>
           rw [hko, cond_true] at h
           cases hb : vseqF (vcells key) (vcells pk) with
           | true => rw [hb] at h; simp only [cond_true, Option.some.injEq, Prod.mk.injEq] at h; omega
           | false => rw [hb, cond_false] at h; have := ih (n + 1) i z h; omega
        have h7 := hge l (n + 1) i' y h
        refine ih (n + 1) h ?_ h7
        rw [show i' - n = (i' - (n + 1)) + 1 from by omega, List.getElem?_cons_succ] at hg
        exact hg
    exact this es 0 hf h5 (Nat.zero_le _)
   exact Z98 ha hkk h6
  subst hko
  have hki : (((ents[i']?).map (·.key)).getD kk) = kk := by rw [he0]; simp [hk0]
  have hks : ∀ w, (Instr.keyThatStays kk kk).run P w = .ok kk w := by
   intro w; simp [Instr.keyThatStays, Z85 ha]
  refine fin (ents.modify i' fun e => { e with key := kk, val := a.eval q2 }) clock (es.set i' (kk, x)) ?_ ?_ rfl
  ·rw [hsem]
   simp only [Instr.mapUpdate, hpe, hqv, Sem.run_bind, Go.run_underlying hu.ud, hget, hchk, h2, Result.andThen, Sem.run_pure, hki, hks, hsetr]
  ·have hmod : ∀ (j : Nat) (e : MapEntry), (ents.modify i' fun e => { e with key := kk, val := a.eval q2 })[j]? = some e → ∃ e' : MapEntry, ents[j]? = some e' ∧ e.born = e'.born := by
    intro j e he
    rw [Array.getElem?_modify] at he
    split at he
    ·cases hj : ents[j]? with
     | none => rw [hj] at he; cases he
     | some e' => rw [hj] at he; simp at he; subst he; exact ⟨e', rfl, rfl⟩
    ·exact ⟨e, he, rfl⟩
   refine ⟨b, N, _, _, hm, hnew _, by simp [hl], ?_, ?_, ?_⟩
   ·intro j e he
    obtain ⟨e', h8, h9⟩ := hmod j e he
    rw [h9]; exact hborn j e' h8
   ·intro j m e e' he he' hbb
    obtain ⟨e1, h8, h9⟩ := hmod j e he
    obtain ⟨e2, h10, h11⟩ := hmod m e' he'
    exact hinj j m e1 e2 h8 h10 (by rw [← h9, ← h11]; exact hbb)
   ·intro j kx' z hz
    rw [List.getElem?_set] at hz
    split at hz
    ·rename_i hj
     subst hj
     split at hz
     ·cases hz
      exact ⟨{ e0 with key := kk, val := a.eval q2 }, by rw [Array.getElem?_modify, if_pos rfl, he0]; rfl, rfl, hrv⟩
     ·cases hz
    ·rename_i hj
     obtain ⟨e, h8, h9⟩ := hrow j kx' z hz
     exact ⟨e, by rw [Array.getElem?_modify, if_neg hj]; exact h8, h9⟩
 ·exact h1.elim
theorem Zbl {t tk kt et id : Nat} {p q : Operand} {key : Value} {kx : AV} {es : List (Value × AV)} {r : Option (Nat × AV)} {ks : List CK} {H : AHeap} (k : Nat) [hu : UD P t (.map kt et)] (hck : ckOf P 20 kt = some ks)
  (ho : o.op = .call { callee := .builtin .delete, args := #[p, q], argTypes := #[t, tk] }) (hp : ev T p = some (.map id)) (hH : H[k]? = some (id, .mp es)) (hq : ev T q = some kx) (hkx : keyA kx = some key) (ha : keyOk (aggT P kt) ks key = true) (hf : mfind (aggT P kt) ks key es 0 = some r) :
  EffW P o T H (H.set k (id, .mp (mdel es r))) := by
 intro Z C a w hswr hv ro next R hnext
 have hmem := List.mem_of_getElem? hH
 obtain ⟨hu', b, N, ents, clock, hm, hh, hl, hborn, hinj, hrow⟩ := hswr.ids _ _ hmem
 have hpv := hv p (by rw [ho]; simp [Op.operands, Call.operands]) _ hp
 have hqv := Z25 hkx (hv q (by rw [ho]; simp [Op.operands, Call.operands]) _ hq)
 have hpe : a.eval p = .map (some b) := by
  generalize a.eval p = u at hpv
  cases hpv with
  | map _ b' N' hid _ => rw [hm] at hid; cases hid; rfl
 have hget : (getObj b).run P w = .ok (.map ents clock) w := by simp [getObj, Sem.run, hh]
 have hsetr : ∀ o', (setObj b o').run P w = .ok () (w.putObj b o') := fun o' => by simp [setObj, Sem.run, hh, World.putObj]
 have hlt : b < w.heap.size := (Array.getElem?_eq_some_iff.1 hh).1
 have hchk := fun b => Z2y (P := P) hck ha b w
 obtain ⟨r', h1, h2⟩ := Z1w (P := P) (C := C) (ents := ents.toList) hck ha w (by simpa using hl.symm) (fun i a b c => by rw [Array.getElem?_toList]; exact hrow i a b c) hf
 have hnew : ∀ o', (w.putObj b o').heap[b]? = some o' := fun o' => World.putObj_heap_same hlt
 have fin : ∀ (ents' : Array MapEntry) (es' : List (Value × AV)), (o.semAt ro a.eval).run P w = .ok (.value (.tuple #[])) (w.putObj b (.map ents' clock)) →
   OR C id (w.putObj b (.map ents' clock)) (.mp es') → es' = mdel es r →
   o.uponIn (Wd ro) 0 P a next R ((o.semAt ro a.eval).run P w) := by
  intro ents' es' hrun hor he
  subst he
  rw [hrun]
  obtain ⟨hw1, he1⟩ := Z0p (Z := Z) (C' := C) (id' := id) (o' := .mp (mdel es r)) (w' := w.putObj b (.map ents' clock)) hswr hH (.refl C) rfl (.inl rfl) hu' (fun _ _ h => h) rfl rfl rfl (by simp)
   (fun b N' hm' => .inl ⟨N', hm'⟩) (fun b2 hb2 hne => World.putObj_heap_other (by rintro rfl; exact hne N hm)) hor
  exact hnext (.tuple #[]) _ C (.v undef) hw1 he1
 unfold FindOk at h1
 split at h1
 ·refine fin ents es ?_ ⟨b, N, _, _, hm, hnew _, hl, hborn, hinj, hrow⟩ rfl
  rw [Oper.semAt_eq _ _ _ (by intro c; rw [ho]; nofun)]
  simp [execOp, ho, resolve, invoke, builtin, Builtin.delete_, hpe, hqv, Go.run_underlying hu.ud, hget, hchk, h2, hsetr, Result.andThen, Sem.run_bind]
 ·rename_i i y i' v
  obtain ⟨rfl, _, h3, kk, h5, h6⟩ := h1
  rw [Nat.sub_zero] at h5
  obtain ⟨e0, he0, hk0, _⟩ := hrow i' _ _ h5
  have hlt2 : i' < ents.size := (Array.getElem?_eq_some_iff.1 he0).1
  have hall : ∀ j, (ents.eraseIdxIfInBounds i')[j]? = ents[if j < i' then j else j + 1]? := by
   intro j
   rw [Array.eraseIdxIfInBounds_eq, dif_pos hlt2, ← Array.getElem?_toList, ← Array.getElem?_toList, Array.toList_eraseIdx, List.getElem?_eraseIdx]
   split <;> rfl
  refine fin (ents.eraseIdxIfInBounds i') (es.eraseIdx i') ?_ ?_ rfl
  ·rw [Oper.semAt_eq _ _ _ (by intro c; rw [ho]; nofun)]
   simp [execOp, ho, resolve, invoke, builtin, Builtin.delete_, hpe, hqv, Go.run_underlying hu.ud, hget, hchk, h2, hsetr, Result.andThen, Sem.run_bind]
  ·have hli : i' < es.length := by omega
   refine ⟨b, N, _, _, hm, hnew _, ?_, ?_, ?_, ?_⟩
   ·rw [Array.eraseIdxIfInBounds_eq, dif_pos hlt2, Array.size_eraseIdx, List.length_eraseIdx, if_pos hli, hl]
   ·intro j e he
    rw [hall] at he
    exact hborn _ e he
   ·intro j m e e' he he' hbb
    rw [hall] at he he'
    have := hinj _ _ e e' he he' hbb
    split at this <;> split at this <;> omega
   ·intro j kx' z hz
    rw [List.getElem?_eraseIdx] at hz
    rw [hall]
    split at hz
    ·rename_i hj; rw [if_pos hj]; exact hrow j kx' z hz
    ·rename_i hj; rw [if_neg hj]; exact hrow (j + 1) kx' z hz
 ·exact h1.elim
end
end Go.Sx
