/- YtmnbbhcdjgofeaaGreatRaB2: texts of this claim, one behind the other. -/
import Derived.Deep.AppendSrc
import Derived.Laws.CopyRow
import Derived.WalkSpells
import Derived.Lib.Strings
import Derived.Test.YtmnbbhcdjgofeaaGreatRaB1
set_option linter.unusedVariables false
set_option linter.unusedSimpArgs false
set_option linter.unusedSectionVars false
set_option linter.unnecessarySimpa false
namespace Go.Sx
open Go Go.Proofs
theorem Zdb (x y : Str) : ACalls Tryz.prog 70 [sA x, sA y] [] (Gives (iA (cmpT x y))) := by
 refine Zw (n := 8) Tryz.func70 rfl (by decide +kernel) rfl rfl ?_
 refine Z4 ?_
 refine Z0 ?_
 refine Z5 (w0 rfl) rfl (Zp rfl rfl) ?_
 refine Z3 ?_
 refine Z4 ?_
 refine Z0 ?_
 refine Z5 (w0 rfl) rfl (Z7 rfl rfl) ?_
 refine Z5 (w0 rfl) rfl (Z7 rfl rfl) ?_
 refine Z5 (w0 rfl) rfl (Zdi rfl Tryz.func138 rfl rfl rfl rfl rfl rfl) ?_
 refine Z5 (w0 rfl) rfl (Zp rfl rfl) ?_
 refine Z3 ?_
 refine Z02 ?_
 exact Z69 rfl (Zy rfl Zu) (gi rfl)
theorem Zev (x y : Str) : ACalls Tryz.prog 28 [sA x, sA y] [] (Gives (iA (cmpT x y))) := by
 refine Zw (n := 8) Tryz.func28 rfl (by decide +kernel) rfl rfl ?_
 refine Z4 ?_
 refine Z0 ?_
 refine Z5 (w0 rfl) rfl (Zp rfl rfl) ?_
 refine Z3 ?_
 refine Z4 ?_
 refine Z0 ?_
 refine Z5 (w0 rfl) rfl (Z7 rfl rfl) ?_
 refine Z5 (w0 rfl) rfl (Z7 rfl rfl) ?_
 refine Z5 (w0 rfl) rfl (Zq [] rfl rfl rfl (Zdb _ _) List.nodup_nil) ?_
 refine Z5 (w0 rfl) rfl (Zp rfl rfl) ?_
 refine Z3 ?_
 refine Z02 ?_
 exact Z69 rfl (Zy rfl Zu) (gi rfl)
theorem Zhn (l : List Int) (hl : small l.length) : ACalls Tryz.prog 27 [row1 iA l] [] (Gives (iA (orL l))) := by
 simp only [small] at hl
 unfold row1
 refine Zw (n := 18) Tryz.func27 rfl (by decide +kernel) rfl rfl ?_
 refine Z4 ?_
 refine Z0 ?_
 refine Z5 (w0 rfl) rfl (Zp rfl rfl) ?_
 refine Z3 ?_
 refine Z4 ?_
 refine Z0 ?_
 refine Z5 (w0 rfl) rfl (Zp rfl rfl) ?_
 refine Z3 ?_
 refine Z4 ?_
 refine Z4 ?_
 refine Z0 ?_
 refine Z5 (w0 rfl) rfl (Z7 rfl rfl) ?_
 refine Z5 (w0 rfl) rfl (Z1p rfl rfl rfl rfl) ?_
 refine Z5 (w0 rfl) rfl (Z7 rfl rfl) ?_
 refine Z3 ?_
 refine Zn ?_
 refine Z06 (α := Nat) (fun i => ⟨[(8, iA i), (6, .lst (l.map fun x => [iA x])), (7, iA l.length), (3, iA 0)], [], [], 18⟩) (fun i => i ≤ l.length ∧ orL (l.drop i) = orL l) (fun i => l.length - i) 0 ⟨Nat.zero_le _, rfl⟩ ?_ ?_
 ·exact Z8 [] ⟨rfl, rfl, (by show some (iA _) = some (iA _); simp), rfl, trivial⟩ rfl (by decide) rfl rfl
 rintro i hJ
 refine Z4 ?_
 refine Z0 ?_
 refine Z5 (w0 rfl) rfl (Zb rfl rfl rfl rfl) ?_
 refine Z3 ?_
 refine Z4 ?_
 refine Ze rfl ?_ ?_
 ·intro hc
  have hi : i < l.length := by simpa using hc
  refine Zi ?_
  refine Z4 ?_
  refine Zn ?_
  refine Z4 ?_
  refine Z0 ?_
  refine Z5 (w0 rfl) rfl (Z0u rfl rfl rfl (Zc6 (fun _ => rfl)) (by first | omega | (simp only [List.length_map]; omega) | (simp only [List.length_map, List.length_drop]; omega)) (by first | omega | (simp only [List.length_map]; omega) | (simp only [List.length_map, List.length_drop]; omega))) ?_
  refine Z5 (w0 rfl) rfl (Z53 rfl rfl (Zcd (by first | assumption | omega | (simp only [List.length_drop]; omega))) Z0t) ?_
  refine Z5 (w0 rfl) rfl (Zp rfl rfl) ?_
  refine Z3 ?_
  refine Z4 ?_
  refine Z0 ?_
  refine Z5 (w0 rfl) rfl (Z7 rfl rfl) ?_
  refine Z5 (w0 rfl) rfl (Z7 rfl rfl) ?_
  refine Z5 (w0 rfl) rfl (Zb rfl rfl rfl rfl) ?_
  refine Z3 ?_
  refine Ze rfl ?_ ?_
  ·intro hc
   have hq : l.getD i default ≠ 0 := by simpa [List.getD, hi] using hc
   refine Z4 ?_
   refine Z0 ?_
   refine Z5 (w0 rfl) rfl (Z7 rfl rfl) ?_
   refine Z5 (w0 rfl) rfl (Zp rfl rfl) ?_
   refine Z3 ?_
   refine Z02 ?_
   exact Z69 rfl (Zy rfl Zu) (gi (by rw [← hJ.2, Za2 hi, orI, if_neg hq]; simp [List.getD, hi]))
  ·intro hc
   have hq : l.getD i default = 0 := by simpa [List.getD, hi] using hc
   refine Zi ?_
   refine Z0 ?_
   refine Z5 (w0 rfl) rfl (Z6 rfl rfl rfl (Z9 (by first | omega | (simp only [List.length_map]; omega)))) ?_
   refine Z5 (w0 rfl) rfl (Z7 rfl rfl) ?_
   refine Z3 ?_
   refine ⟨i + 1, ⟨hi, by rw [← hJ.2, Za2 hi, hq, orI, if_pos rfl]⟩, (by omega), ?_⟩
   exact Z8 [] ⟨rfl, rfl, rfl, rfl, trivial⟩ rfl (by decide) rfl rfl
 ·intro hc
  have hi : ¬ i < l.length := by simpa using hc
  refine Z05 ?_
  refine Z4 ?_
  refine Z0 ?_
  refine Z5 (w0 rfl) rfl (Z7 rfl rfl) ?_
  refine Z5 (w0 rfl) rfl (Zp rfl rfl) ?_
  refine Z3 ?_
  refine Z02 ?_
  exact Z69 rfl (Zy rfl Zu) (gi (by rw [← hJ.2, Z9i hi]; rfl))
theorem Z0a (a b : MRef) : ACalls Tryz.prog 11 [a.av, b.av] [] (Gives (iA (cmpR a b))) := by
 refine Zw (n := 22) Tryz.func11 rfl (by decide +kernel) rfl rfl ?_
 refine Z4 ?_
 refine Z0 ?_
 refine Z1a (w0 rfl) rfl (fun id => Z38 id rfl rfl rfl rfl rfl) (fun id1 => ?_)
 refine Z1a (w0 rfl) rfl (fun id => Z38 id rfl rfl rfl rfl rfl) (fun id2 => ?_)
 refine Z5 (w0 rfl) rfl (Zp rfl rfl) ?_
 refine Z3 ?_
 refine Z4 ?_
 refine Z0d [0, 1, 0, 4, 15, 0, 32, 0, 128, 511, 0, 1024, 0, 4096, 16383, 32767, 65535, 131071] 18 rfl (by kernel_rfl) ?_
 refine Za (w0 rfl) rfl (Z0j rfl rfl rfl) ?_
 refine Zm 1 (w0 rfl) rfl rfl rfl rfl rfl Z0t ?_
 refine Za (w0 rfl) rfl (Z0j rfl rfl rfl) ?_
 refine Zm 0 (w0 rfl) rfl rfl rfl rfl rfl Z0t ?_
 refine Za (w0 rfl) rfl (Zq [] rfl rfl rfl (Zev _ _) List.nodup_nil) ?_
 refine Za (w0 rfl) rfl (Z0j rfl rfl rfl) ?_
 refine Zm 1 (w0 rfl) rfl rfl rfl rfl rfl Z0t ?_
 refine Za (w0 rfl) rfl (Z0j rfl rfl rfl) ?_
 refine Zm 0 (w0 rfl) rfl rfl rfl rfl rfl Z0t ?_
 refine Za (w0 rfl) rfl (Zq [] rfl rfl rfl (Zev _ _) List.nodup_nil) ?_
 refine Za (w0 rfl) rfl (Z0j rfl rfl rfl) ?_
 refine Zm 1 (w0 rfl) rfl rfl rfl rfl rfl Z0t ?_
 refine Za (w0 rfl) rfl (Z0j rfl rfl rfl) ?_
 refine Zm 0 (w0 rfl) rfl rfl rfl rfl rfl Z0t ?_
 refine Za (w0 rfl) rfl (Zq [] rfl rfl rfl (Zev _ _) List.nodup_nil) ?_
 refine Za (w0 rfl) rfl (Zf9 (es := [[iA (cmpT a.cls b.cls)], [iA (cmpT a.name b.name)], [iA (cmpT a.desc b.desc)]]) (fun id => Z11 id (ps := [(0, .tmp 9), (1, .tmp 14), (2, .tmp 19)]) rfl rfl rfl rfl rfl rfl rfl rfl) rfl) ?_
 refine Za (w0 rfl) rfl (Zq [] rfl rfl rfl (Zhn [(cmpT a.cls b.cls), (cmpT a.name b.name), (cmpT a.desc b.desc)] (by unfold small; simp)) List.nodup_nil) ?_
 refine Za (w0 rfl) rfl (Zp rfl rfl) ?_
 refine .done ?_
 refine Z3 ?_
 refine Z02 ?_
 exact Z69 rfl (Zy rfl Zu) (gi (by simp only [orL, Zgg]; rfl))
end Go.Sx
namespace Go.Sx
open Go
section
variable {P : Program} {ro : Option Nat} {Q : Exit → St → Prop} {s : St} {ops : Array Oper} {o : Oper} {rest : List Oper} {H0 : AHeap} {K : St → Prop} {k : Nat} {M : List (Nat × (Nat × AObj))} {ws rs : List Nat} {p : Operand} {x : AV}
theorem aM (hg : o.guard = none) (hd : dok o.dst s.n = true) (ho : o.op = .move p) (hp : ev s.T p = some x) (h : AOps P ro ops rest Q { s with T := put s.T o.dst x }) : AOps P ro ops (o :: rest) Q s := Z5 (w0 hg) hd (Z7 ho hp) h
theorem aA (hg : o.guard = none) (hd : dok o.dst s.n = true) (ho : o.op = .assign p) (hp : ev s.T p = some x) (h : AOps P ro ops rest Q { s with T := put s.T o.dst x }) : AOps P ro ops (o :: rest) Q s := Z5 (w0 hg) hd (Zp ho hp) h
theorem cM (hg : o.guard = none) (hd : dok o.dst s.n = true) (ho : o.op = .move p) (hp : ev s.T p = some x) (h : Calm P ops H0 K (k + 1) rest M { s with T := put s.T o.dst x }) : Calm P ops H0 K k (o :: rest) M s := Za (w0 hg) hd (Z7 ho hp) h
theorem wM (hg : o.guard = none) (hd : dok o.dst s.n = true) (ho : o.op = .move p) (hp : ev s.T p = some x) (hk : ws.contains k = false) (h : WCalm P ops H0 ws rs K (k + 1) rest { s with T := put s.T o.dst x }) : WCalm P ops H0 ws rs K k (o :: rest) s := Zg (w0 hg) hd (Z7 ho hp) hk h
end
end Go.Sx
namespace Go.Sx
open Go Go.Proofs
theorem Zal (q n : Nat) (l : List MRef) (hn : l.length = n) (hN : n ≤ 140737488355328) (a b : Nat) (ha : a ≤ b) (hb : b ≤ n) : ACalls Tryz.prog 128 [.own q 3 0 n, iA a, iA b, .fn (.func 11) []] [(q, .rows 24 3 (l.map MRef.cells))] (GP (fun _ : List MRef => mkRes []) (fun m => [(q, .rows 24 3 (m.map MRef.cells))]) (fun m => Sw a b l m ∧ SAdj mLt a b m)) := by
 refine Zw (n := 53) Tryz.func128 rfl (by decide +kernel) rfl rfl ?_
 refine Z4 ?_
 refine Z0 ?_
 refine aM rfl rfl rfl rfl ?_
 refine Z5 (w0 rfl) rfl (Z6 rfl rfl rfl (Z9 (by omega))) ?_
 refine aA rfl rfl rfl rfl ?_
 refine Z3 ?_
 refine Zn ?_
 refine Z06 (α := List MRef × Nat) (fun x => ⟨[(8, iA x.2), (0, .own q 3 0 n), (1, iA a), (2, iA b), (3, .fn (.func 11) [])], [(q, .rows 24 3 (x.1.map MRef.cells))], [], 53⟩) (fun x => Sw a b l x.1 ∧ a + 1 ≤ x.2 ∧ SAdj mLt a x.2 x.1) (fun x => b - x.2) (l, a + 1) ⟨.refl, Nat.le_refl _, SAdj.refl1 (Nat.le_refl _)⟩ ?_ ?_
 ·exact Z8 [0] ⟨rfl, rfl, rfl, rfl, rfl, trivial⟩ rfl (by decide) rfl rfl
 rintro x hJ
 have hm := hJ.1.len
 refine Z4 ?_
 refine Z4 ?_
 refine Z0 ?_
 refine aM rfl rfl rfl rfl ?_
 refine aM rfl rfl rfl rfl ?_
 refine Z5 (w0 rfl) rfl (Zb rfl rfl rfl rfl) ?_
 refine Z3 ?_
 refine Ze rfl ?_ ?_
 ·intro hc
  have hx : x.2 < b := by simpa using hc
  refine Zi ?_
  refine Z4 ?_
  refine Zn ?_
  refine Z4 ?_
  refine Z0 ?_
  refine aM rfl rfl rfl rfl ?_
  refine aA rfl rfl rfl rfl ?_
  refine Z3 ?_
  refine Zn ?_
  refine Z06 (α := List MRef × Nat) (fun z => ⟨[(9, iA z.2), (8, iA x.2), (0, .own q 3 0 n), (1, iA a), (2, iA b), (3, .fn (.func 11) [])], [(q, .rows 24 3 (z.1.map MRef.cells))], [], 53⟩) (fun z => Sw a b l z.1 ∧ a ≤ z.2 ∧ z.2 ≤ x.2 ∧ Ins mLt a z.2 x.2 z.1) (fun z => z.2) (x.1, x.2) ⟨hJ.1, (by (try simp only) <;> omega), Nat.le_refl _, Ins.start hJ.2.2⟩ ?_ ?_
  ·exact Z8 [0] ⟨rfl, rfl, rfl, rfl, rfl, rfl, trivial⟩ rfl (by decide) rfl rfl
  rintro z hJ2
  have hm2 := hJ2.1.len
  refine Z4 ?_
  refine Z4 ?_
  refine Z0d [0, 0, 3, 7, 15, 15, 15, 111, 239, 15, 15, 1039, 3599, 7695, 16383, 32767, 65535] 17 rfl (by kernel_rfl) ?_
  refine cM rfl rfl rfl rfl ?_
  refine cM rfl rfl rfl rfl ?_
  refine Za (w0 rfl) rfl (Zb rfl rfl rfl rfl) ?_
  refine cM rfl rfl rfl rfl ?_
  refine Zc (wT rfl rfl rfl rfl) rfl (fun hg => (Z7 rfl rfl)) ?_
  refine Zc (wT rfl rfl rfl rfl) rfl (fun hg => (Z7 rfl rfl)) ?_
  refine Zc (wT rfl rfl rfl rfl) rfl (fun hg => (Z7 rfl rfl)) ?_
  refine Zc (wT rfl rfl rfl rfl) rfl (fun hg => (Z2 z.2 rfl (Z04 hg rfl) (Z04 hg rfl) (by (try simp at hg) <;> omega) (by (try simp at hg) <;> omega) (by omega))) ?_
  refine Zs (f := MRef.cells) 0 (wT rfl rfl rfl rfl) rfl rfl (fun hg => (Z04 hg rfl)) rfl (fun hg => by (try simp at hg) <;> omega) (fun _ => Zk rfl) ?_
  refine Zc (wT rfl rfl rfl rfl) rfl (fun hg => (Z7 rfl rfl)) ?_
  refine Zc (wT rfl rfl rfl rfl) rfl (fun hg => (Z7 rfl rfl)) ?_
  refine Zc (wT rfl rfl rfl rfl) rfl (fun hg => (Z6 rfl (Z04 hg rfl) rfl (Zd (by omega)))) ?_
  refine Zc (wT rfl rfl rfl rfl) rfl (fun hg => (Z2 (z.2 - 1) rfl (Z04 hg rfl) (Z04 hg rfl) (by (try simp at hg) <;> omega) (by (try simp at hg) <;> omega) (by omega))) ?_
  refine Zs (f := MRef.cells) 0 (wT rfl rfl rfl rfl) rfl rfl (fun hg => (Z04 hg rfl)) rfl (fun hg => by (try simp at hg) <;> omega) (fun _ => Zk rfl) ?_
  refine Zc (wT rfl rfl rfl rfl) rfl (fun hg => (Zq [] rfl (Z04 hg rfl) (Zj (Z04 hg rfl) (Zj (Z04 hg rfl) Z0e)) (Z0a _ _) List.nodup_nil)) ?_
  refine Zc (wT rfl rfl rfl rfl) rfl (fun hg => (Zb rfl (Z04 hg rfl) rfl rfl)) ?_
  refine Za (w0 rfl) rfl (Z0l rfl rfl rfl (fun h => h)) ?_
  refine .done ?_
  refine Z3 ?_
  refine Ze rfl ?_ ?_
  ·intro hc
   have hk : a < z.2 := by have := Z71 hc; simpa using this
   have hlt : mLt (z.1.getD z.2 default) (z.1.getD (z.2 - 1) default) = true := Z72 hc
   refine Zi ?_
   refine Z4 ?_
   refine Zn ?_
   refine Z0i [0, 0, 0, 0, 8, 0, 0, 64, 224, 480, 0, 0, 3072, 7168, 16355, 32739, 65535, 131071] [15, 17] [9, 13] rfl (by kernel_rfl) ?_
   refine wM rfl rfl rfl rfl rfl ?_
   refine wM rfl rfl rfl rfl rfl ?_
   refine wM rfl rfl rfl rfl rfl ?_
   refine wM rfl rfl rfl rfl rfl ?_
   refine Zg (w0 rfl) rfl (Z6 rfl rfl rfl (Zd (by omega))) rfl ?_
   refine wM rfl rfl rfl rfl rfl ?_
   refine wM rfl rfl rfl rfl rfl ?_
   refine Zg (w0 rfl) rfl (Z6 rfl rfl rfl (Zd (by omega))) rfl ?_
   refine Zg (w0 rfl) rfl (Z2 (z.2 - 1) rfl rfl rfl (by omega) (by omega) (by omega)) rfl ?_
   refine Zf 0 (w0 rfl) rfl rfl rfl rfl (Zo (by omega)) (Zk rfl) rfl rfl ?_
   refine wM rfl rfl rfl rfl rfl ?_
   refine wM rfl rfl rfl rfl rfl ?_
   refine Zg (w0 rfl) rfl (Z2 z.2 rfl rfl rfl (by omega) (by omega) (by omega)) rfl ?_
   refine Zf 0 (w0 rfl) rfl rfl rfl rfl (Zo (by omega)) (Zk rfl) rfl rfl ?_
   refine Zg (w0 rfl) rfl (Z2 z.2 rfl rfl rfl (by omega) (by omega) (by omega)) rfl ?_
   refine Zl (f := MRef.cells) 0 (fun _ => rfl) (fun _ => rfl) (w0 rfl) rfl rfl rfl rfl (by first | omega | (simp; omega)) rfl rfl ?_
   refine Zg (w0 rfl) rfl (Z2 (z.2 - 1) rfl rfl rfl (by omega) (by omega) (by omega)) rfl ?_
   refine Zl (f := MRef.cells) 0 (fun _ => rfl) (fun _ => rfl) (w0 rfl) rfl rfl rfl rfl (by first | omega | (simp; omega)) rfl rfl ?_
   refine .done ?_
   refine Z0 ?_
   refine aM rfl rfl rfl rfl ?_
   refine Z5 (w0 rfl) rfl (Z6 rfl rfl rfl (Zd (by omega))) ?_
   refine aA rfl rfl rfl rfl ?_
   refine Z3 ?_
   refine ⟨(swp z.1 z.2 (z.2 - 1), z.2 - 1), ⟨.step _ _ hJ2.1 (by (try simp only) <;> omega) (by (try simp only) <;> omega) (by (try simp only) <;> omega), (by (try simp only) <;> omega), (by (try simp only) <;> omega), hJ2.2.2.2.step mLtT.ok hk (by (try simp only) <;> omega) (by (try simp only) <;> omega) hlt⟩, (by (try simp only) <;> omega), ?_⟩
   exact Z8 [0] ⟨(congrArg (fun n => some (iA n)) (by (try simp only) <;> omega)), rfl, rfl, rfl, rfl, rfl, trivial⟩ rfl (by decide) rfl rfl
  ·intro hc
   have hst : z.2 ≤ a ∨ mLt (z.1.getD z.2 default) (z.1.getD (z.2 - 1) default) = false := by rcases Bool.and_eq_false_iff.1 hc with h | h; exact .inl (by simpa using h); exact .inr h
   have hdn := hJ2.2.2.2.done hst
   refine Z05 ?_
   refine Z0 ?_
   refine aM rfl rfl rfl rfl ?_
   refine Z5 (w0 rfl) rfl (Z6 rfl rfl rfl (Z9 (by omega))) ?_
   refine aA rfl rfl rfl rfl ?_
   refine Z3 ?_
   refine ⟨(z.1, x.2 + 1), ⟨hJ2.1, (by (try simp only) <;> omega), hdn⟩, (by (try simp only) <;> omega), ?_⟩
   exact Z8 [0] ⟨rfl, rfl, rfl, rfl, rfl, trivial⟩ rfl (by decide) rfl rfl
 ·intro hc
  have hx : ¬ x.2 < b := by simpa using hc
  refine Z05 ?_
  exact Zr rfl Zu (.cons_cons _ .slnil) (gp x.1 ⟨hJ.1, fun k h1 h2 => hJ.2.2 k h1 (by omega)⟩ rfl rfl)
theorem Zbe (q n : Nat) (l : List MRef) (hn : l.length = n) (hN : n ≤ 140737488355328) (lo hi f : Nat) (hf : f + hi ≤ n) (hlo : lo ≤ n) (hh : Heap mLt (lo + 1) hi f l) : ACalls Tryz.prog 208 [.own q 3 0 n, iA lo, iA hi, iA f, .fn (.func 11) []] [(q, .rows 24 3 (l.map MRef.cells))] (GP (fun _ : List MRef => mkRes []) (fun m => [(q, .rows 24 3 (m.map MRef.cells))]) (fun m => Sw f (f + hi) l m ∧ Heap mLt lo hi f m)) := by
 refine Zw (n := 82) Tryz.func208 rfl (by decide +kernel) rfl rfl ?_
 refine Z4 ?_
 refine Z0 ?_
 refine aM rfl rfl rfl rfl ?_
 refine aA rfl rfl rfl rfl ?_
 refine Z3 ?_
 refine Zn ?_
 refine Z06 (α := List MRef × Nat) (fun z => ⟨[(10, iA z.2), (0, .own q 3 0 n), (2, iA hi), (3, iA f), (4, .fn (.func 11) [])], [(q, .rows 24 3 (z.1.map MRef.cells))], [], 82⟩) (fun z => Sw f (f + hi) l z.1 ∧ lo ≤ z.2 ∧ (z.2 < hi ∨ z.2 = lo) ∧ Sift mLt lo hi f z.2 z.1) (fun z => hi - z.2) (l, lo) ⟨.refl, Nat.le_refl _, .inr rfl, Sift.start hh⟩ ?_ ?_
 ·exact Z8 [0] ⟨rfl, rfl, rfl, rfl, rfl, trivial⟩ rfl (by decide) rfl rfl
 rintro z hJ
 have hm := hJ.1.len
 have hz := hJ.2.2.1
 refine Zn ?_
 refine Z4 ?_
 refine Z0 ?_
 refine aM rfl rfl rfl rfl ?_
 refine Z5 (w0 rfl) rfl (Z6 rfl rfl rfl (Z20 (by omega))) ?_
 refine Z5 (w0 rfl) rfl (Z6 rfl rfl rfl (Z9 (by omega))) ?_
 refine aA rfl rfl rfl rfl ?_
 refine Z3 ?_
 refine Z4 ?_
 refine Z4 ?_
 refine Z0 ?_
 refine aM rfl rfl rfl rfl ?_
 refine aM rfl rfl rfl rfl ?_
 refine Z5 (w0 rfl) rfl (Zb rfl rfl rfl rfl) ?_
 refine Z3 ?_
 refine Ze rfl ?_ ?_
 ·intro hc
  have hleaf : hi ≤ 2 * z.2 + 1 := by simp at hc; omega
  refine Z05 ?_
  exact Zr rfl Zu (.cons_cons _ .slnil) (gp z.1 ⟨hJ.1, hJ.2.2.2.leaf hleaf⟩ rfl rfl)
 ·intro hc
  have hch : 2 * z.2 + 1 < hi := by simp at hc; omega
  refine Zi ?_
  refine Z4 ?_
  refine Z4 ?_
  refine Z0d [0, 1, 0, 7, 15, 31, 31, 31, 31, 415, 991, 2015, 31, 31, 31, 24607, 57375, 127007, 258079, 524287, 1048575, 2097151] 22 rfl (by kernel_rfl) ?_
  refine cM rfl rfl rfl rfl ?_
  refine Za (w0 rfl) rfl (Z6 rfl rfl rfl (Z9 (by omega))) ?_
  refine cM rfl rfl rfl rfl ?_
  refine Za (w0 rfl) rfl (Zb rfl rfl rfl rfl) ?_
  refine cM rfl rfl rfl rfl ?_
  refine Zc (wT rfl rfl rfl rfl) rfl (fun hg => (Z7 rfl rfl)) ?_
  refine Zc (wT rfl rfl rfl rfl) rfl (fun hg => (Z7 rfl rfl)) ?_
  refine Zc (wT rfl rfl rfl rfl) rfl (fun hg => (Z7 rfl rfl)) ?_
  refine Zc (wT rfl rfl rfl rfl) rfl (fun hg => (Z7 rfl rfl)) ?_
  refine Zc (wT rfl rfl rfl rfl) rfl (fun hg => (Z6 rfl (Z04 hg rfl) (Z04 hg rfl) (Z9 (by omega)))) ?_
  refine Zc (wT rfl rfl rfl rfl) rfl (fun hg => (Z2 (f + ((2 * z.2) + 1)) rfl (Z04 hg rfl) (Z04 hg rfl) (by (try simp at hg) <;> omega) (by (try simp at hg) <;> omega) (by omega))) ?_
  refine Zs (f := MRef.cells) 0 (wT rfl rfl rfl rfl) rfl rfl (fun hg => (Z04 hg rfl)) rfl (fun hg => by (try simp at hg) <;> omega) (fun _ => Zk rfl) ?_
  refine Zc (wT rfl rfl rfl rfl) rfl (fun hg => (Z7 rfl rfl)) ?_
  refine Zc (wT rfl rfl rfl rfl) rfl (fun hg => (Z7 rfl rfl)) ?_
  refine Zc (wT rfl rfl rfl rfl) rfl (fun hg => (Z7 rfl rfl)) ?_
  refine Zc (wT rfl rfl rfl rfl) rfl (fun hg => (Z6 rfl (Z04 hg rfl) (Z04 hg rfl) (Z9 (by omega)))) ?_
  refine Zc (wT rfl rfl rfl rfl) rfl (fun hg => (Z6 rfl (Z04 hg rfl) rfl (Z9 (by omega)))) ?_
  refine Zc (wT rfl rfl rfl rfl) rfl (fun hg => (Z2 ((f + ((2 * z.2) + 1)) + 1) rfl (Z04 hg rfl) (Z04 hg rfl) (by (try simp at hg) <;> omega) (by (try simp at hg) <;> omega) (by omega))) ?_
  refine Zs (f := MRef.cells) 0 (wT rfl rfl rfl rfl) rfl rfl (fun hg => (Z04 hg rfl)) rfl (fun hg => by (try simp at hg) <;> omega) (fun _ => Zk rfl) ?_
  refine Zc (wT rfl rfl rfl rfl) rfl (fun hg => (Zq [] rfl (Z04 hg rfl) (Zj (Z04 hg rfl) (Zj (Z04 hg rfl) Z0e)) (Z0a _ _) List.nodup_nil)) ?_
  refine Zc (wT rfl rfl rfl rfl) rfl (fun hg => (Zb rfl (Z04 hg rfl) rfl rfl)) ?_
  refine Za (w0 rfl) rfl (Z0l rfl rfl rfl (fun h => h)) ?_
  refine .done ?_
  refine Z3 ?_
  refine Ze rfl ?_ ?_
  ·intro hc
   have hc1 : 2 * z.2 + 1 + 1 < hi := by have := Z71 hc; simp at this; omega
   have hl1 : mLt (hp z.1 f (2 * z.2 + 1)) (hp z.1 f (2 * z.2 + 1 + 1)) = true := Z72 hc
   have hmax : ∀ c, (c = 2 * z.2 + 1 ∨ c = 2 * z.2 + 2) → c < hi → mLt (hp z.1 f (2 * z.2 + 1 + 1)) (hp z.1 f c) = false := fun c h1 h2 => by rcases h1 with rfl | rfl; exact mLtT.ok.asy _ _ hl1; exact mLtT.ok.irr _
   refine Z0 ?_
   refine aM rfl rfl rfl rfl ?_
   refine Z5 (w0 rfl) rfl (Z6 rfl rfl rfl (Z9 (by omega))) ?_
   refine aA rfl rfl rfl rfl ?_
   refine Z3 ?_
   refine Z4 ?_
   refine Z4 ?_
   refine Z0d [0, 0, 0, 0, 12, 30, 62, 0, 0, 0, 768, 1920, 3968, 8191, 16383, 32767] 16 rfl (by kernel_rfl) ?_
   refine cM rfl rfl rfl rfl ?_
   refine cM rfl rfl rfl rfl ?_
   refine cM rfl rfl rfl rfl ?_
   refine cM rfl rfl rfl rfl ?_
   refine Za (w0 rfl) rfl (Z6 rfl rfl rfl (Z9 (by omega))) ?_
   refine Za (w0 rfl) rfl (Z2 (f + z.2) rfl rfl rfl (by omega) (by omega) (by omega)) ?_
   refine Zm 0 (w0 rfl) rfl rfl rfl rfl (Zo (by omega)) (Zk rfl) ?_
   refine cM rfl rfl rfl rfl ?_
   refine cM rfl rfl rfl rfl ?_
   refine cM rfl rfl rfl rfl ?_
   refine Za (w0 rfl) rfl (Z6 rfl rfl rfl (Z9 (by omega))) ?_
   refine Za (w0 rfl) rfl (Z2 (f + (((2 * z.2) + 1) + 1)) rfl rfl rfl (by omega) (by omega) (by omega)) ?_
   refine Zm 0 (w0 rfl) rfl rfl rfl rfl (Zo (by omega)) (Zk rfl) ?_
   refine Za (w0 rfl) rfl (Zq [] rfl rfl rfl (Z0a _ _) List.nodup_nil) ?_
   refine Za (w0 rfl) rfl (Zb rfl rfl rfl rfl) ?_
   refine Za (w0 rfl) rfl (Z0m rfl rfl) ?_
   refine .done ?_
   refine Z3 ?_
   refine Ze rfl ?_ ?_
   ·intro hc
    have hstop := Z8b hc
    refine Z02 ?_
    exact Zr rfl Zu (.cons_cons _ .slnil) (gp z.1 ⟨hJ.1, hJ.2.2.2.stop mLtT.ok hmax hstop⟩ rfl rfl)
   ·intro hc
    have hlt := Zcj hc
    refine Zi ?_
    refine Z4 ?_
    refine Z0i [0, 0, 0, 6, 0, 0, 0, 96, 0, 0, 0, 1536, 3840, 7936, 0, 0, 0, 98304, 245760, 507904, 1048335, 2096911, 4194303, 8388607] [21, 23] [13, 19] rfl (by kernel_rfl) ?_
    refine wM rfl rfl rfl rfl rfl ?_
    refine wM rfl rfl rfl rfl rfl ?_
    refine wM rfl rfl rfl rfl rfl ?_
    refine Zg (w0 rfl) rfl (Z6 rfl rfl rfl (Z9 (by omega))) rfl ?_
    refine wM rfl rfl rfl rfl rfl ?_
    refine wM rfl rfl rfl rfl rfl ?_
    refine wM rfl rfl rfl rfl rfl ?_
    refine Zg (w0 rfl) rfl (Z6 rfl rfl rfl (Z9 (by omega))) rfl ?_
    refine wM rfl rfl rfl rfl rfl ?_
    refine wM rfl rfl rfl rfl rfl ?_
    refine wM rfl rfl rfl rfl rfl ?_
    refine Zg (w0 rfl) rfl (Z6 rfl rfl rfl (Z9 (by omega))) rfl ?_
    refine Zg (w0 rfl) rfl (Z2 (f + (((2 * z.2) + 1) + 1)) rfl rfl rfl (by omega) (by omega) (by omega)) rfl ?_
    refine Zf 0 (w0 rfl) rfl rfl rfl rfl (Zo (by omega)) (Zk rfl) rfl rfl ?_
    refine wM rfl rfl rfl rfl rfl ?_
    refine wM rfl rfl rfl rfl rfl ?_
    refine wM rfl rfl rfl rfl rfl ?_
    refine Zg (w0 rfl) rfl (Z6 rfl rfl rfl (Z9 (by omega))) rfl ?_
    refine Zg (w0 rfl) rfl (Z2 (f + z.2) rfl rfl rfl (by omega) (by omega) (by omega)) rfl ?_
    refine Zf 0 (w0 rfl) rfl rfl rfl rfl (Zo (by omega)) (Zk rfl) rfl rfl ?_
    refine Zg (w0 rfl) rfl (Z2 (f + z.2) rfl rfl rfl (by omega) (by omega) (by omega)) rfl ?_
    refine Zl (f := MRef.cells) 0 (fun _ => rfl) (fun _ => rfl) (w0 rfl) rfl rfl rfl rfl (by first | omega | (simp; omega)) rfl rfl ?_
    refine Zg (w0 rfl) rfl (Z2 (f + (((2 * z.2) + 1) + 1)) rfl rfl rfl (by omega) (by omega) (by omega)) rfl ?_
    refine Zl (f := MRef.cells) 0 (fun _ => rfl) (fun _ => rfl) (w0 rfl) rfl rfl rfl rfl (by first | omega | (simp; omega)) rfl rfl ?_
    refine .done ?_
    refine Z0 ?_
    refine aM rfl rfl rfl rfl ?_
    refine aA rfl rfl rfl rfl ?_
    refine Z3 ?_
    refine ⟨(swp z.1 (f + z.2) (f + (2 * z.2 + 1 + 1)), (2 * z.2 + 1 + 1)), ⟨.step _ _ hJ.1 (by (try simp only) <;> omega) (by (try simp only) <;> omega) (by (try simp only) <;> omega), (by (try simp only) <;> omega), .inl (by (try simp only) <;> omega), hJ.2.2.2.step (c0 := (2 * z.2 + 1 + 1)) mLtT.ok hJ.2.1 (.inr rfl) (by (try simp only) <;> omega) (by (try simp only) <;> omega) hmax hlt⟩, (by (try simp only) <;> omega), ?_⟩
    exact Z8 [0] ⟨rfl, rfl, rfl, rfl, rfl, trivial⟩ rfl (by decide) rfl rfl
  ·intro hc
   have hmax : ∀ c, (c = 2 * z.2 + 1 ∨ c = 2 * z.2 + 2) → c < hi → mLt (hp z.1 f (2 * z.2 + 1)) (hp z.1 f c) = false := fun c h1 h2 => by rcases h1 with rfl | rfl; exact mLtT.ok.irr _; rcases Bool.and_eq_false_iff.1 hc with h | h; simp at h; omega; exact h
   refine Zi ?_
   refine Z4 ?_
   refine Z4 ?_
   refine Z0d [0, 0, 0, 0, 12, 30, 62, 0, 0, 0, 768, 1920, 3968, 8191, 16383, 32767] 16 rfl (by kernel_rfl) ?_
   refine cM rfl rfl rfl rfl ?_
   refine cM rfl rfl rfl rfl ?_
   refine cM rfl rfl rfl rfl ?_
   refine cM rfl rfl rfl rfl ?_
   refine Za (w0 rfl) rfl (Z6 rfl rfl rfl (Z9 (by omega))) ?_
   refine Za (w0 rfl) rfl (Z2 (f + z.2) rfl rfl rfl (by omega) (by omega) (by omega)) ?_
   refine Zm 0 (w0 rfl) rfl rfl rfl rfl (Zo (by omega)) (Zk rfl) ?_
   refine cM rfl rfl rfl rfl ?_
   refine cM rfl rfl rfl rfl ?_
   refine cM rfl rfl rfl rfl ?_
   refine Za (w0 rfl) rfl (Z6 rfl rfl rfl (Z9 (by omega))) ?_
   refine Za (w0 rfl) rfl (Z2 (f + ((2 * z.2) + 1)) rfl rfl rfl (by omega) (by omega) (by omega)) ?_
   refine Zm 0 (w0 rfl) rfl rfl rfl rfl (Zo (by omega)) (Zk rfl) ?_
   refine Za (w0 rfl) rfl (Zq [] rfl rfl rfl (Z0a _ _) List.nodup_nil) ?_
   refine Za (w0 rfl) rfl (Zb rfl rfl rfl rfl) ?_
   refine Za (w0 rfl) rfl (Z0m rfl rfl) ?_
   refine .done ?_
   refine Z3 ?_
   refine Ze rfl ?_ ?_
   ·intro hc
    have hstop := Z8b hc
    refine Z02 ?_
    exact Zr rfl Zu (.cons_cons _ .slnil) (gp z.1 ⟨hJ.1, hJ.2.2.2.stop mLtT.ok hmax hstop⟩ rfl rfl)
   ·intro hc
    have hlt := Zcj hc
    refine Zi ?_
    refine Z4 ?_
    refine Z0i [0, 0, 0, 6, 0, 0, 0, 96, 0, 0, 0, 1536, 3840, 7936, 0, 0, 0, 98304, 245760, 507904, 1048335, 2096911, 4194303, 8388607] [21, 23] [13, 19] rfl (by kernel_rfl) ?_
    refine wM rfl rfl rfl rfl rfl ?_
    refine wM rfl rfl rfl rfl rfl ?_
    refine wM rfl rfl rfl rfl rfl ?_
    refine Zg (w0 rfl) rfl (Z6 rfl rfl rfl (Z9 (by omega))) rfl ?_
    refine wM rfl rfl rfl rfl rfl ?_
    refine wM rfl rfl rfl rfl rfl ?_
    refine wM rfl rfl rfl rfl rfl ?_
    refine Zg (w0 rfl) rfl (Z6 rfl rfl rfl (Z9 (by omega))) rfl ?_
    refine wM rfl rfl rfl rfl rfl ?_
    refine wM rfl rfl rfl rfl rfl ?_
    refine wM rfl rfl rfl rfl rfl ?_
    refine Zg (w0 rfl) rfl (Z6 rfl rfl rfl (Z9 (by omega))) rfl ?_
    refine Zg (w0 rfl) rfl (Z2 (f + ((2 * z.2) + 1)) rfl rfl rfl (by omega) (by omega) (by omega)) rfl ?_
    refine Zf 0 (w0 rfl) rfl rfl rfl rfl (Zo (by omega)) (Zk rfl) rfl rfl ?_
    refine wM rfl rfl rfl rfl rfl ?_
    refine wM rfl rfl rfl rfl rfl ?_
    refine wM rfl rfl rfl rfl rfl ?_
    refine Zg (w0 rfl) rfl (Z6 rfl rfl rfl (Z9 (by omega))) rfl ?_
    refine Zg (w0 rfl) rfl (Z2 (f + z.2) rfl rfl rfl (by omega) (by omega) (by omega)) rfl ?_
    refine Zf 0 (w0 rfl) rfl rfl rfl rfl (Zo (by omega)) (Zk rfl) rfl rfl ?_
    refine Zg (w0 rfl) rfl (Z2 (f + z.2) rfl rfl rfl (by omega) (by omega) (by omega)) rfl ?_
    refine Zl (f := MRef.cells) 0 (fun _ => rfl) (fun _ => rfl) (w0 rfl) rfl rfl rfl rfl (by first | omega | (simp; omega)) rfl rfl ?_
    refine Zg (w0 rfl) rfl (Z2 (f + ((2 * z.2) + 1)) rfl rfl rfl (by omega) (by omega) (by omega)) rfl ?_
    refine Zl (f := MRef.cells) 0 (fun _ => rfl) (fun _ => rfl) (w0 rfl) rfl rfl rfl rfl (by first | omega | (simp; omega)) rfl rfl ?_
    refine .done ?_
    refine Z0 ?_
    refine aM rfl rfl rfl rfl ?_
    refine aA rfl rfl rfl rfl ?_
    refine Z3 ?_
    refine ⟨(swp z.1 (f + z.2) (f + (2 * z.2 + 1)), (2 * z.2 + 1)), ⟨.step _ _ hJ.1 (by (try simp only) <;> omega) (by (try simp only) <;> omega) (by (try simp only) <;> omega), (by (try simp only) <;> omega), .inl (by (try simp only) <;> omega), hJ.2.2.2.step (c0 := (2 * z.2 + 1)) mLtT.ok hJ.2.1 (.inl rfl) (by (try simp only) <;> omega) (by (try simp only) <;> omega) hmax hlt⟩, (by (try simp only) <;> omega), ?_⟩
    exact Z8 [0] ⟨rfl, rfl, rfl, rfl, rfl, trivial⟩ rfl (by decide) rfl rfl
theorem Z8m (q n : Nat) (l : List MRef) (hn : l.length = n) (hN : n ≤ 140737488355328) (a b : Nat) (ha : a ≤ b) (hb : b ≤ n) : ACalls Tryz.prog 129 [.own q 3 0 n, iA a, iA b, .fn (.func 11) []] [(q, .rows 24 3 (l.map MRef.cells))] (GP (fun _ : List MRef => mkRes []) (fun m => [(q, .rows 24 3 (m.map MRef.cells))]) (fun m => Sw a b l m ∧ SOn mLt a b m)) := by
 refine Zw (n := 60) Tryz.func129 rfl (by decide +kernel) rfl rfl ?_
 refine Z4 ?_
 refine Z0 ?_
 refine aM rfl rfl rfl rfl ?_
 refine aA rfl rfl rfl rfl ?_
 refine Z3 ?_
 refine Z4 ?_
 refine Z0 ?_
 refine aA rfl rfl rfl rfl ?_
 refine Z3 ?_
 refine Z4 ?_
 refine Z0 ?_
 refine aM rfl rfl rfl rfl ?_
 refine aM rfl rfl rfl rfl ?_
 refine Z5 (w0 rfl) rfl (Zz (y := iA (b - a : Nat)) (Z6 rfl rfl rfl (Zd (by omega))) (congrArg iA (by omega))) ?_
 refine aA rfl rfl rfl rfl ?_
 refine Z3 ?_
 refine Z4 ?_
 refine Z4 ?_
 refine Z0 ?_
 refine aM rfl rfl rfl rfl ?_
 refine Z5 (w0 rfl) rfl (Z6 rfl rfl rfl (Zd (by omega))) ?_
 refine Z5 (w0 rfl) rfl (Zz (y := iA ((b - a - 1) / 2 : Nat)) (Z18 rfl rfl rfl (by decide) (by (rw [Zg6 ha]; omega))) (congrArg iA (Zg6 ha))) ?_
 refine aA rfl rfl rfl rfl ?_
 refine Z3 ?_
 refine Zn ?_
 refine Z06 (α := List MRef × Nat) (fun x => ⟨[(11, iA ((x.2 : Int) - 1)), (0, .own q 3 0 n), (8, iA a), (9, iA (0 : Nat)), (10, iA (b - a : Nat)), (3, .fn (.func 11) [])], [(q, .rows 24 3 (x.1.map MRef.cells))], [], 60⟩) (fun x => Sw a b l x.1 ∧ Heap mLt x.2 (b - a) a x.1 ∧ x.2 ≤ (b - a) + 1) (fun x => x.2) (l, (b - a - 1) / 2 + 1) ⟨.refl, Heap.none (by (try simp only) <;> omega), (by (try simp only) <;> omega)⟩ ?_ ?_
 ·exact Z8 [0] ⟨(congrArg (fun n => some (iA n)) (by (try simp only) <;> omega)), rfl, rfl, rfl, rfl, rfl, trivial⟩ rfl (by decide) rfl rfl
 rintro x hJ
 have hm := hJ.1.len
 refine Z4 ?_
 refine Z4 ?_
 refine Z0 ?_
 refine aM rfl rfl rfl rfl ?_
 refine Z5 (w0 rfl) rfl (Zb rfl rfl rfl rfl) ?_
 refine Z3 ?_
 refine Ze rfl ?_ ?_
 ·intro hc
  have hx : 0 < x.2 := by simp at hc; omega
  refine Zi ?_
  refine Z4 ?_
  refine Zn ?_
  refine Z6e 11 rfl (show _ = ((x.2 - 1 : Nat) : Int) by omega) ?_
  refine Z0 ?_
  refine aM rfl rfl rfl rfl ?_
  refine aM rfl rfl rfl rfl ?_
  refine aM rfl rfl rfl rfl ?_
  refine aM rfl rfl rfl rfl ?_
  refine aM rfl rfl rfl rfl ?_
  refine Zh [_] _ (w0 rfl) rfl rfl rfl rfl (Zv (k := 0) rfl) (Zbe q n x.1 (by omega) hN (x.2 - 1) (b - a) a (by omega) (by omega) (by rw [show x.2 - 1 + 1 = x.2 from by omega]; exact hJ.2.1)) (fun v1 hv1 => ?_)
  refine Z3 ?_
  refine Z0 ?_
  refine aM rfl rfl rfl rfl ?_
  refine Z5 (w0 rfl) rfl (Z6 rfl rfl rfl (Zd (by omega))) ?_
  refine aA rfl rfl rfl rfl ?_
  refine Z3 ?_
  refine ⟨(v1, x.2 - 1), ⟨hJ.1.trans (hv1.1.mono (Nat.le_refl _) (by omega) (by omega)), hv1.2, (by (try simp only) <;> omega)⟩, (by (try simp only) <;> omega), ?_⟩
  exact Z8 [0] ⟨(congrArg (fun n => some (iA n)) (by (try simp only) <;> omega)), rfl, rfl, rfl, rfl, rfl, trivial⟩ rfl (by decide) rfl rfl
 ·intro hc
  have hx0 : x.2 = 0 := by simp at hc; omega
  refine Z05 ?_
  refine Z4 ?_
  refine Z0 ?_
  refine aM rfl rfl rfl rfl ?_
  refine Z5 (w0 rfl) rfl (Z6 rfl rfl rfl (Zd (by omega))) ?_
  refine aA rfl rfl rfl rfl ?_
  refine Z3 ?_
  refine Zn ?_
  refine Z06 (α := List MRef × Nat) (fun y => ⟨[(12, iA ((y.2 : Int) - 1)), (0, .own q 3 0 n), (8, iA a), (9, iA (0 : Nat)), (10, iA (b - a : Nat)), (3, .fn (.func 11) [])], [(q, .rows 24 3 (y.1.map MRef.cells))], [], 60⟩) (fun y => Sw a b l y.1 ∧ Pops mLt a b y.2 y.1 ∧ y.2 ≤ b - a) (fun y => y.2) (x.1, b - a) ⟨hJ.1, Pops.start ha (hx0 ▸ hJ.2.1), Nat.le_refl _⟩ ?_ ?_
  ·exact Z8 [0] ⟨(congrArg (fun n => some (iA n)) (by (try simp only) <;> omega)), rfl, rfl, rfl, rfl, rfl, trivial⟩ rfl (by decide) rfl rfl
  rintro y hJ1
  have hm1 := hJ1.1.len
  refine Z4 ?_
  refine Z4 ?_
  refine Z0 ?_
  refine aM rfl rfl rfl rfl ?_
  refine Z5 (w0 rfl) rfl (Zb rfl rfl rfl rfl) ?_
  refine Z3 ?_
  refine Ze rfl ?_ ?_
  ·intro hc
   have hy : 0 < y.2 := by simp at hc; omega
   have hsw := Pops.swap mLtT.ok (i := y.2 - 1) (by rw [show y.2 - 1 + 1 = y.2 from by omega]; exact hJ1.2.1) (by omega) (by omega : b ≤ y.1.length)
   refine Zi ?_
   refine Z4 ?_
   refine Zn ?_
   refine Z4 ?_
   refine Z6e 12 rfl (show _ = ((y.2 - 1 : Nat) : Int) by omega) ?_
   refine Z0i [0, 0, 0, 0, 0, 24, 0, 0, 0, 384, 960, 1984, 0, 0, 12288, 28672, 65475, 131011, 262143, 524287] [17, 19] [11, 15] rfl (by kernel_rfl) ?_
   refine wM rfl rfl rfl rfl rfl ?_
   refine wM rfl rfl rfl rfl rfl ?_
   refine wM rfl rfl rfl rfl rfl ?_
   refine wM rfl rfl rfl rfl rfl ?_
   refine wM rfl rfl rfl rfl rfl ?_
   refine Zg (w0 rfl) rfl (Z6 rfl rfl rfl (Z9 (by omega))) rfl ?_
   refine wM rfl rfl rfl rfl rfl ?_
   refine wM rfl rfl rfl rfl rfl ?_
   refine wM rfl rfl rfl rfl rfl ?_
   refine Zg (w0 rfl) rfl (Z6 rfl rfl rfl (Z9 (by omega))) rfl ?_
   refine Zg (w0 rfl) rfl (Z2 (a + (y.2 - 1)) rfl rfl rfl (by omega) (by omega) (by omega)) rfl ?_
   refine Zf 0 (w0 rfl) rfl rfl rfl rfl (Zo (by omega)) (Zk rfl) rfl rfl ?_
   refine wM rfl rfl rfl rfl rfl ?_
   refine wM rfl rfl rfl rfl rfl ?_
   refine Zg (w0 rfl) rfl (Z2 a rfl rfl rfl (by omega) (by omega) (by omega)) rfl ?_
   refine Zf 0 (w0 rfl) rfl rfl rfl rfl (Zo (by omega)) (Zk rfl) rfl rfl ?_
   refine Zg (w0 rfl) rfl (Z2 a rfl rfl rfl (by omega) (by omega) (by omega)) rfl ?_
   refine Zl (f := MRef.cells) 0 (fun _ => rfl) (fun _ => rfl) (w0 rfl) rfl rfl rfl rfl (by first | omega | (simp; omega)) rfl rfl ?_
   refine Zg (w0 rfl) rfl (Z2 (a + (y.2 - 1)) rfl rfl rfl (by omega) (by omega) (by omega)) rfl ?_
   refine Zl (f := MRef.cells) 0 (fun _ => rfl) (fun _ => rfl) (w0 rfl) rfl rfl rfl rfl (by first | omega | (simp; omega)) rfl rfl ?_
   refine .done ?_
   refine Z0 ?_
   refine aM rfl rfl rfl rfl ?_
   refine aM rfl rfl rfl rfl ?_
   refine aM rfl rfl rfl rfl ?_
   refine aM rfl rfl rfl rfl ?_
   refine aM rfl rfl rfl rfl ?_
   refine Zh [_] _ (w0 rfl) rfl rfl rfl rfl (Zv (k := 0) rfl) (Zbe q n (swp y.1 a (a + (y.2 - 1))) (by rw [Z2k]; omega) hN 0 (y.2 - 1) a (by omega) (by omega) hsw.1) (fun v2 hv2 => ?_)
   refine Z3 ?_
   refine Z0 ?_
   refine aM rfl rfl rfl rfl ?_
   refine Z5 (w0 rfl) rfl (Z6 rfl rfl rfl (Zd (by omega))) ?_
   refine aA rfl rfl rfl rfl ?_
   refine Z3 ?_
   refine ⟨(v2, y.2 - 1), ⟨(Sw.step _ _ hJ1.1 (by (try simp only) <;> omega) (by (try simp only) <;> omega) (by (try simp only) <;> omega)).trans (hv2.1.mono (Nat.le_refl _) (by omega) (by rw [Z2k]; omega)), Pops.sift hsw.2.1 hsw.2.2 hv2.1 hv2.2, (by (try simp only) <;> omega)⟩, (by (try simp only) <;> omega), ?_⟩
   exact Z8 [0] ⟨(congrArg (fun n => some (iA n)) (by (try simp only) <;> omega)), rfl, rfl, rfl, rfl, rfl, trivial⟩ rfl (by decide) rfl rfl
  ·intro hc
   have hy0 : y.2 = 0 := by simp at hc; omega
   refine Z05 ?_
   exact Zr rfl Zu (.cons_cons _ .slnil) (gp y.1 ⟨hJ1.1, by have := hJ1.2.1.srt; rwa [hy0, Nat.add_zero] at this⟩ rfl rfl)
theorem Z5h {f : Nat → Bool} {x y : Nat} (h : x ≤ y) (h1 : f x = false) (h2 : f y = true) : x < y := Nat.lt_of_le_of_ne h (fun e => by rw [e, h2] at h1; cases h1)
theorem Z7w {f : Nat → Bool} {x y : Nat} (h : x ≤ y) (h1 : f x = true) (h2 : f y = false) : x < y := Nat.lt_of_le_of_ne h (fun e => by rw [e, h2] at h1; cases h1)
theorem Z2h (q n : Nat) (l : List MRef) (hn : l.length = n) (hN : n ≤ 140737488355328) (a b p : Nat) (hap : a ≤ p) (hpb : p < b) (hb : b ≤ n) : ACalls Tryz.prog 135 [.own q 3 0 n, iA a, iA b, iA p, .fn (.func 11) []] [(q, .rows 24 3 (l.map MRef.cells))] (GP (fun r : List MRef × Nat × Bool => .tup [iA r.2.1, bA r.2.2]) (fun r => [(q, .rows 24 3 (r.1.map MRef.cells))]) (fun r => Sw a b l r.1 ∧ a ≤ r.2.1 ∧ r.2.1 < b ∧ PartR mLt a b r.2.1 r.1)) := by
 have hm0 : Sw a b l (swp l a p) := .step _ _ .refl ⟨Nat.le_refl _, by omega⟩ ⟨hap, hpb⟩ (by (try simp only) <;> omega)
 have hl0 : (swp l a p).length = n := by rw [Z2k]; exact hn
 refine Zw (n := 178) Tryz.func135 rfl (by decide +kernel) rfl rfl ?_
 refine Z4 ?_
 refine Z0 ?_
 refine aA rfl rfl rfl rfl ?_
 refine aA rfl rfl rfl rfl ?_
 refine Z3 ?_
 refine Z4 ?_
 refine Z0i [0, 0, 0, 0, 0, 0, 48, 112, 0, 0, 768, 1792, 4083, 8179, 16383, 32767] [13, 15] [7, 11] rfl (by kernel_rfl) ?_
 refine wM rfl rfl rfl rfl rfl ?_
 refine wM rfl rfl rfl rfl rfl ?_
 refine wM rfl rfl rfl rfl rfl ?_
 refine wM rfl rfl rfl rfl rfl ?_
 refine wM rfl rfl rfl rfl rfl ?_
 refine wM rfl rfl rfl rfl rfl ?_
 refine Zg (w0 rfl) rfl (Z2 p rfl rfl rfl (by omega) (by omega) (by omega)) rfl ?_
 refine Zf 0 (w0 rfl) rfl rfl rfl rfl (Zo (by omega)) (Zk rfl) rfl rfl ?_
 refine wM rfl rfl rfl rfl rfl ?_
 refine wM rfl rfl rfl rfl rfl ?_
 refine Zg (w0 rfl) rfl (Z2 a rfl rfl rfl (by omega) (by omega) (by omega)) rfl ?_
 refine Zf 0 (w0 rfl) rfl rfl rfl rfl (Zo (by omega)) (Zk rfl) rfl rfl ?_
 refine Zg (w0 rfl) rfl (Z2 a rfl rfl rfl (by omega) (by omega) (by omega)) rfl ?_
 refine Zl (f := MRef.cells) 0 (fun _ => rfl) (fun _ => rfl) (w0 rfl) rfl rfl rfl rfl (by first | omega | (simp; omega)) rfl rfl ?_
 refine Zg (w0 rfl) rfl (Z2 p rfl rfl rfl (by omega) (by omega) (by omega)) rfl ?_
 refine Zl (f := MRef.cells) 0 (fun _ => rfl) (fun _ => rfl) (w0 rfl) rfl rfl rfl rfl (by first | omega | (simp; omega)) rfl rfl ?_
 refine .done ?_
 refine Z4 ?_
 refine Z0 ?_
 refine aM rfl rfl rfl rfl ?_
 refine Z5 (w0 rfl) rfl (Z6 rfl rfl rfl (Z9 (by omega))) ?_
 refine aM rfl rfl rfl rfl ?_
 refine Z5 (w0 rfl) rfl (Zz (y := iA (b - 1 : Nat)) (Z6 rfl rfl rfl (Zd (by omega))) (congrArg iA (by (try simp only) <;> omega))) ?_
 refine aA rfl rfl rfl rfl ?_
 refine aA rfl rfl rfl rfl ?_
 refine Z3 ?_
 refine Z4 ?_
 refine Zn ?_
 refine Z06 (α := Nat) (fun x => ⟨[(12, iA x), (13, iA (b - 1 : Nat)), (0, .own q 3 0 n), (1, iA a), (4, .fn (.func 11) [])], [(q, .rows 24 3 ((swp l a p).map MRef.cells))], [], 178⟩) (fun x => a + 1 ≤ x ∧ x ≤ b ∧ ∀ k, a < k → k < x → mLt ((swp l a p).getD k default) ((swp l a p).getD a default) = true) (fun x => b - x) (a + 1) ⟨Nat.le_refl _, by omega, fun k h1 h2 => by omega⟩ ?_ ?_
 ·exact Z8 [0] ⟨rfl, rfl, rfl, rfl, rfl, trivial⟩ rfl (by decide) rfl rfl
 rintro x hJ
 refine Z4 ?_
 refine Z4 ?_
 refine Z0d [0, 0, 3, 7, 15, 15, 15, 111, 239, 15, 15, 1551, 3599, 8191, 16383, 32767] 16 rfl (by kernel_rfl) ?_
 refine cM rfl rfl rfl rfl ?_
 refine cM rfl rfl rfl rfl ?_
 refine Za (w0 rfl) rfl (Zb rfl rfl rfl rfl) ?_
 refine cM rfl rfl rfl rfl ?_
 refine Zc (wT rfl rfl rfl rfl) rfl (fun hg => (Z7 rfl rfl)) ?_
 refine Zc (wT rfl rfl rfl rfl) rfl (fun hg => (Z7 rfl rfl)) ?_
 refine Zc (wT rfl rfl rfl rfl) rfl (fun hg => (Z7 rfl rfl)) ?_
 refine Zc (wT rfl rfl rfl rfl) rfl (fun hg => (Z2 x rfl (Z04 hg rfl) (Z04 hg rfl) (by (try simp at hg) <;> omega) (by (try simp at hg) <;> omega) (by omega))) ?_
 refine Zs (f := MRef.cells) 0 (wT rfl rfl rfl rfl) rfl rfl (fun hg => (Z04 hg rfl)) rfl (fun hg => by (try simp at hg) <;> omega) (fun _ => Zk rfl) ?_
 refine Zc (wT rfl rfl rfl rfl) rfl (fun hg => (Z7 rfl rfl)) ?_
 refine Zc (wT rfl rfl rfl rfl) rfl (fun hg => (Z7 rfl rfl)) ?_
 refine Zc (wT rfl rfl rfl rfl) rfl (fun hg => (Z2 a rfl (Z04 hg rfl) (Z04 hg rfl) (by (try simp at hg) <;> omega) (by (try simp at hg) <;> omega) (by omega))) ?_
 refine Zs (f := MRef.cells) 0 (wT rfl rfl rfl rfl) rfl rfl (fun hg => (Z04 hg rfl)) rfl (fun hg => by (try simp at hg) <;> omega) (fun _ => Zk rfl) ?_
 refine Zc (wT rfl rfl rfl rfl) rfl (fun hg => (Zq [] rfl (Z04 hg rfl) (Zj (Z04 hg rfl) (Zj (Z04 hg rfl) Z0e)) (Z0a _ _) List.nodup_nil)) ?_
 refine Zc (wT rfl rfl rfl rfl) rfl (fun hg => (Zb rfl (Z04 hg rfl) rfl rfl)) ?_
 refine Za (w0 rfl) rfl (Z0l rfl rfl rfl (fun h => h)) ?_
 refine .done ?_
 refine Z3 ?_
 refine Ze rfl ?_ ?_
 ·intro hc
  have hle : x ≤ (b - 1) := by have := Z71 hc; simpa using this
  have hv := Z72 hc
  refine Zi ?_
  refine Zn ?_
  refine Z0 ?_
  refine aM rfl rfl rfl rfl ?_
  refine Z5 (w0 rfl) rfl (Z6 rfl rfl rfl (Z9 (by omega))) ?_
  refine aA rfl rfl rfl rfl ?_
  refine Z3 ?_
  refine ⟨(x + 1), ⟨by omega, by omega, fun k h1 h2 => by rcases Nat.lt_succ_iff_lt_or_eq.1 h2 with h | h; exact hJ.2.2 k h1 h; rw [h]; exact hv⟩, (by (try simp only) <;> omega), ?_⟩
  exact Z8 [0] ⟨rfl, rfl, rfl, rfl, rfl, trivial⟩ rfl (by decide) rfl rfl
 ·intro hc
  have hA : (b - 1) < x ∨ mLt ((swp l a p).getD x default) ((swp l a p).getD a default) = false := by rcases Bool.and_eq_false_iff.1 hc with h | h; exact .inl (by simpa using h); exact .inr h
  refine Z05 ?_
  refine Z4 ?_
  refine Zn ?_
  refine Z06 (α := Nat) (fun y => ⟨[(12, iA x), (13, iA y), (0, .own q 3 0 n), (1, iA a), (4, .fn (.func 11) [])], [(q, .rows 24 3 ((swp l a p).map MRef.cells))], [], 178⟩) (fun y => y < b ∧ x ≤ y + 1 ∧ ∀ k, y < k → k < b → mLt ((swp l a p).getD k default) ((swp l a p).getD a default) = false) (fun y => y) (b - 1) ⟨by omega, by omega, fun k h1 h2 => by omega⟩ ?_ ?_
  ·exact Z8 [0] ⟨rfl, rfl, rfl, rfl, rfl, trivial⟩ rfl (by decide) rfl rfl
  rintro y hJ1
  refine Z4 ?_
  refine Z4 ?_
  refine Z0d [0, 0, 3, 7, 15, 15, 15, 111, 239, 15, 15, 1551, 3599, 8191, 16383, 32767, 65535] 17 rfl (by kernel_rfl) ?_
  refine cM rfl rfl rfl rfl ?_
  refine cM rfl rfl rfl rfl ?_
  refine Za (w0 rfl) rfl (Zb rfl rfl rfl rfl) ?_
  refine cM rfl rfl rfl rfl ?_
  refine Zc (wT rfl rfl rfl rfl) rfl (fun hg => (Z7 rfl rfl)) ?_
  refine Zc (wT rfl rfl rfl rfl) rfl (fun hg => (Z7 rfl rfl)) ?_
  refine Zc (wT rfl rfl rfl rfl) rfl (fun hg => (Z7 rfl rfl)) ?_
  refine Zc (wT rfl rfl rfl rfl) rfl (fun hg => (Z2 y rfl (Z04 hg rfl) (Z04 hg rfl) (by (try simp at hg) <;> omega) (by (try simp at hg) <;> omega) (by omega))) ?_
  refine Zs (f := MRef.cells) 0 (wT rfl rfl rfl rfl) rfl rfl (fun hg => (Z04 hg rfl)) rfl (fun hg => by (try simp at hg) <;> omega) (fun _ => Zk rfl) ?_
  refine Zc (wT rfl rfl rfl rfl) rfl (fun hg => (Z7 rfl rfl)) ?_
  refine Zc (wT rfl rfl rfl rfl) rfl (fun hg => (Z7 rfl rfl)) ?_
  refine Zc (wT rfl rfl rfl rfl) rfl (fun hg => (Z2 a rfl (Z04 hg rfl) (Z04 hg rfl) (by (try simp at hg) <;> omega) (by (try simp at hg) <;> omega) (by omega))) ?_
  refine Zs (f := MRef.cells) 0 (wT rfl rfl rfl rfl) rfl rfl (fun hg => (Z04 hg rfl)) rfl (fun hg => by (try simp at hg) <;> omega) (fun _ => Zk rfl) ?_
  refine Zc (wT rfl rfl rfl rfl) rfl (fun hg => (Zq [] rfl (Z04 hg rfl) (Zj (Z04 hg rfl) (Zj (Z04 hg rfl) Z0e)) (Z0a _ _) List.nodup_nil)) ?_
  refine Zc (wT rfl rfl rfl rfl) rfl (fun hg => (Zb rfl (Z04 hg rfl) rfl rfl)) ?_
  refine Zc (wT rfl rfl rfl rfl) rfl (fun hg => (Z0m rfl (Z04 hg rfl))) ?_
  refine Za (w0 rfl) rfl (Z0l rfl rfl rfl (fun h => h)) ?_
  refine .done ?_
  refine Z3 ?_
  refine Ze rfl ?_ ?_
  ·intro hc
   have hle : x ≤ y := by have := Z71 hc; simpa using this
   have hv := Z72 hc
   refine Zi ?_
   refine Zn ?_
   refine Z0 ?_
   refine aM rfl rfl rfl rfl ?_
   refine Z5 (w0 rfl) rfl (Z6 rfl rfl rfl (Zd (by omega))) ?_
   refine aA rfl rfl rfl rfl ?_
   refine Z3 ?_
   refine ⟨(y - 1), ⟨by omega, by omega, fun k h1 h2 => by by_cases e : k = y; rw [e]; exact Z8b hv; exact hJ1.2.2 k (by (try simp only) <;> omega) h2⟩, (by (try simp only) <;> omega), ?_⟩
   exact Z8 [0] ⟨rfl, (congrArg (fun n => some (iA n)) (by (try simp only) <;> omega)), rfl, rfl, rfl, trivial⟩ rfl (by decide) rfl rfl
  ·intro hc
   have hB : y < x ∨ (!mLt ((swp l a p).getD y default) ((swp l a p).getD a default)) = false := by rcases Bool.and_eq_false_iff.1 hc with h | h; exact .inl (by simpa using h); exact .inr h
   refine Z05 ?_
   refine Z4 ?_
   refine Z4 ?_
   refine Z0 ?_
   refine aM rfl rfl rfl rfl ?_
   refine aM rfl rfl rfl rfl ?_
   refine Z5 (w0 rfl) rfl (Zb rfl rfl rfl rfl) ?_
   refine Z3 ?_
   refine Ze rfl ?_ ?_
   ·intro hc
    have hgt : y < x := by simpa using hc
    refine Z4 ?_
    refine Z0i [0, 0, 0, 0, 0, 0, 48, 112, 0, 0, 768, 1792, 4083, 8179, 16383, 32767] [13, 15] [7, 11] rfl (by kernel_rfl) ?_
    refine wM rfl rfl rfl rfl rfl ?_
    refine wM rfl rfl rfl rfl rfl ?_
    refine wM rfl rfl rfl rfl rfl ?_
    refine wM rfl rfl rfl rfl rfl ?_
    refine wM rfl rfl rfl rfl rfl ?_
    refine wM rfl rfl rfl rfl rfl ?_
    refine Zg (w0 rfl) rfl (Z2 a rfl rfl rfl (by omega) (by omega) (by omega)) rfl ?_
    refine Zf 0 (w0 rfl) rfl rfl rfl rfl (Zo (by omega)) (Zk rfl) rfl rfl ?_
    refine wM rfl rfl rfl rfl rfl ?_
    refine wM rfl rfl rfl rfl rfl ?_
    refine Zg (w0 rfl) rfl (Z2 y rfl rfl rfl (by omega) (by omega) (by omega)) rfl ?_
    refine Zf 0 (w0 rfl) rfl rfl rfl rfl (Zo (by omega)) (Zk rfl) rfl rfl ?_
    refine Zg (w0 rfl) rfl (Z2 y rfl rfl rfl (by omega) (by omega) (by omega)) rfl ?_
    refine Zl (f := MRef.cells) 0 (fun _ => rfl) (fun _ => rfl) (w0 rfl) rfl rfl rfl rfl (by first | omega | (simp; omega)) rfl rfl ?_
    refine Zg (w0 rfl) rfl (Z2 a rfl rfl rfl (by omega) (by omega) (by omega)) rfl ?_
    refine Zl (f := MRef.cells) 0 (fun _ => rfl) (fun _ => rfl) (w0 rfl) rfl rfl rfl rfl (by first | omega | (simp; omega)) rfl rfl ?_
    refine .done ?_
    refine Z4 ?_
    refine Z0 ?_
    refine aM rfl rfl rfl rfl ?_
    refine aA rfl rfl rfl rfl ?_
    refine aA rfl rfl rfl rfl ?_
    refine Z3 ?_
    refine Z02 ?_
    exact Zr rfl (Zy rfl (Zy rfl Zu)) (.cons_cons _ .slnil) (gp (swp (swp l a p) y a, y, true) ⟨.step _ _ hm0 (by (try simp only) <;> omega) (by (try simp only) <;> omega) (by (try simp only) <;> omega), by simp only; omega, by simp only; omega, Part.fin ⟨hJ.2.2, hJ1.2.2⟩ (by (try simp only) <;> omega) (by (try simp only) <;> omega) (by (try simp only) <;> omega) (by (try simp only) <;> omega) (by (try simp only) <;> omega)⟩ rfl rfl)
   ·intro hc
    have hxy : x ≤ y := by simpa using hc
    have hne : x < y := Z5h (f := fun k => mLt ((swp l a p).getD k default) ((swp l a p).getD a default)) (by omega) (hA.resolve_left (by omega)) (Zcj (hB.resolve_left (by omega)))
    refine Zi ?_
    refine Z4 ?_
    refine Z0i [0, 0, 0, 0, 0, 0, 48, 112, 0, 0, 768, 1792, 4083, 8179, 16383, 32767] [13, 15] [7, 11] rfl (by kernel_rfl) ?_
    refine wM rfl rfl rfl rfl rfl ?_
    refine wM rfl rfl rfl rfl rfl ?_
    refine wM rfl rfl rfl rfl rfl ?_
    refine wM rfl rfl rfl rfl rfl ?_
    refine wM rfl rfl rfl rfl rfl ?_
    refine wM rfl rfl rfl rfl rfl ?_
    refine Zg (w0 rfl) rfl (Z2 y rfl rfl rfl (by omega) (by omega) (by omega)) rfl ?_
    refine Zf 0 (w0 rfl) rfl rfl rfl rfl (Zo (by omega)) (Zk rfl) rfl rfl ?_
    refine wM rfl rfl rfl rfl rfl ?_
    refine wM rfl rfl rfl rfl rfl ?_
    refine Zg (w0 rfl) rfl (Z2 x rfl rfl rfl (by omega) (by omega) (by omega)) rfl ?_
    refine Zf 0 (w0 rfl) rfl rfl rfl rfl (Zo (by omega)) (Zk rfl) rfl rfl ?_
    refine Zg (w0 rfl) rfl (Z2 x rfl rfl rfl (by omega) (by omega) (by omega)) rfl ?_
    refine Zl (f := MRef.cells) 0 (fun _ => rfl) (fun _ => rfl) (w0 rfl) rfl rfl rfl rfl (by first | omega | (simp; omega)) rfl rfl ?_
    refine Zg (w0 rfl) rfl (Z2 y rfl rfl rfl (by omega) (by omega) (by omega)) rfl ?_
    refine Zl (f := MRef.cells) 0 (fun _ => rfl) (fun _ => rfl) (w0 rfl) rfl rfl rfl rfl (by first | omega | (simp; omega)) rfl rfl ?_
    refine .done ?_
    refine Z4 ?_
    refine Z0 ?_
    refine aM rfl rfl rfl rfl ?_
    refine Z5 (w0 rfl) rfl (Z6 rfl rfl rfl (Z9 (by omega))) ?_
    refine aA rfl rfl rfl rfl ?_
    refine Z3 ?_
    refine Z4 ?_
    refine Z0 ?_
    refine aM rfl rfl rfl rfl ?_
    refine Z5 (w0 rfl) rfl (Z6 rfl rfl rfl (Zd (by omega))) ?_
    refine aA rfl rfl rfl rfl ?_
    refine Z3 ?_
    refine Z4 ?_
    refine Zn ?_
    refine Z06 (α := List MRef × Nat × Nat) (fun z => ⟨[(12, iA z.2.1), (13, iA z.2.2), (0, .own q 3 0 n), (1, iA a), (4, .fn (.func 11) [])], [(q, .rows 24 3 (z.1.map MRef.cells))], [], 178⟩) (fun z => Sw a b l z.1 ∧ a + 1 ≤ z.2.1 ∧ z.2.1 ≤ z.2.2 + 1 ∧ z.2.2 < b ∧ Part mLt a b z.2.1 z.2.2 z.1) (fun z => z.2.2 + 1 - z.2.1) (swp (swp l a p) x y, x + 1, y - 1) ⟨.step _ _ hm0 (by (try simp only) <;> omega) (by (try simp only) <;> omega) (by (try simp only) <;> omega), (by (try simp only) <;> omega), (by (try simp only) <;> omega), (by (try simp only) <;> omega), Part.swap (i := x) (j := y) ⟨hJ.2.2, hJ1.2.2⟩ (by (try simp only) <;> omega) (by (try simp only) <;> omega) (by (try simp only) <;> omega) (by (try simp only) <;> omega) (hA.resolve_left (by (try simp only) <;> omega)) (Zcj (hB.resolve_left (by (try simp only) <;> omega)))⟩ ?_ ?_
    ·exact Z8 [0] ⟨rfl, (congrArg (fun n => some (iA n)) (by (try simp only) <;> omega)), rfl, rfl, rfl, trivial⟩ rfl (by decide) rfl rfl
    rintro z hJ2
    have hm2 := hJ2.1.len
    refine Zn ?_
    refine Z4 ?_
    refine Zn ?_
    refine Z06 (α := Nat) (fun u => ⟨[(12, iA u), (13, iA z.2.2), (0, .own q 3 0 n), (1, iA a), (4, .fn (.func 11) [])], [(q, .rows 24 3 (z.1.map MRef.cells))], [], 178⟩) (fun u => z.2.1 ≤ u ∧ u ≤ z.2.2 + 1 ∧ Part mLt a b u z.2.2 z.1) (fun u => b - u) z.2.1 ⟨Nat.le_refl _, hJ2.2.2.1, hJ2.2.2.2.2⟩ ?_ ?_
    ·exact Z8 [0] ⟨rfl, rfl, rfl, rfl, rfl, trivial⟩ rfl (by decide) rfl rfl
    rintro u hJ3
    refine Z4 ?_
    refine Z4 ?_
    refine Z0d [0, 0, 3, 7, 15, 15, 15, 111, 239, 15, 15, 1551, 3599, 8191, 16383, 32767] 16 rfl (by kernel_rfl) ?_
    refine cM rfl rfl rfl rfl ?_
    refine cM rfl rfl rfl rfl ?_
    refine Za (w0 rfl) rfl (Zb rfl rfl rfl rfl) ?_
    refine cM rfl rfl rfl rfl ?_
    refine Zc (wT rfl rfl rfl rfl) rfl (fun hg => (Z7 rfl rfl)) ?_
    refine Zc (wT rfl rfl rfl rfl) rfl (fun hg => (Z7 rfl rfl)) ?_
    refine Zc (wT rfl rfl rfl rfl) rfl (fun hg => (Z7 rfl rfl)) ?_
    refine Zc (wT rfl rfl rfl rfl) rfl (fun hg => (Z2 u rfl (Z04 hg rfl) (Z04 hg rfl) (by (try simp at hg) <;> omega) (by (try simp at hg) <;> omega) (by omega))) ?_
    refine Zs (f := MRef.cells) 0 (wT rfl rfl rfl rfl) rfl rfl (fun hg => (Z04 hg rfl)) rfl (fun hg => by (try simp at hg) <;> omega) (fun _ => Zk rfl) ?_
    refine Zc (wT rfl rfl rfl rfl) rfl (fun hg => (Z7 rfl rfl)) ?_
    refine Zc (wT rfl rfl rfl rfl) rfl (fun hg => (Z7 rfl rfl)) ?_
    refine Zc (wT rfl rfl rfl rfl) rfl (fun hg => (Z2 a rfl (Z04 hg rfl) (Z04 hg rfl) (by (try simp at hg) <;> omega) (by (try simp at hg) <;> omega) (by omega))) ?_
    refine Zs (f := MRef.cells) 0 (wT rfl rfl rfl rfl) rfl rfl (fun hg => (Z04 hg rfl)) rfl (fun hg => by (try simp at hg) <;> omega) (fun _ => Zk rfl) ?_
    refine Zc (wT rfl rfl rfl rfl) rfl (fun hg => (Zq [] rfl (Z04 hg rfl) (Zj (Z04 hg rfl) (Zj (Z04 hg rfl) Z0e)) (Z0a _ _) List.nodup_nil)) ?_
    refine Zc (wT rfl rfl rfl rfl) rfl (fun hg => (Zb rfl (Z04 hg rfl) rfl rfl)) ?_
    refine Za (w0 rfl) rfl (Z0l rfl rfl rfl (fun h => h)) ?_
    refine .done ?_
    refine Z3 ?_
    refine Ze rfl ?_ ?_
    ·intro hc
     have hle : u ≤ z.2.2 := by have := Z71 hc; simpa using this
     have hv := Z72 hc
     refine Zi ?_
     refine Zn ?_
     refine Z0 ?_
     refine aM rfl rfl rfl rfl ?_
     refine Z5 (w0 rfl) rfl (Z6 rfl rfl rfl (Z9 (by omega))) ?_
     refine aA rfl rfl rfl rfl ?_
     refine Z3 ?_
     refine ⟨(u + 1), ⟨by omega, by omega, ⟨fun k h1 h2 => by rcases Nat.lt_succ_iff_lt_or_eq.1 h2 with h | h; exact hJ3.2.2.lo k h1 h; rw [h]; exact hv, hJ3.2.2.hi⟩⟩, (by (try simp only) <;> omega), ?_⟩
     exact Z8 [0] ⟨rfl, rfl, rfl, rfl, rfl, trivial⟩ rfl (by decide) rfl rfl
    ·intro hc
     have hC : z.2.2 < u ∨ mLt (z.1.getD u default) (z.1.getD a default) = false := by rcases Bool.and_eq_false_iff.1 hc with h | h; exact .inl (by simpa using h); exact .inr h
     refine Z05 ?_
     refine Z4 ?_
     refine Zn ?_
     refine Z06 (α := Nat) (fun v => ⟨[(12, iA u), (13, iA v), (0, .own q 3 0 n), (1, iA a), (4, .fn (.func 11) [])], [(q, .rows 24 3 (z.1.map MRef.cells))], [], 178⟩) (fun v => v ≤ z.2.2 ∧ u ≤ v + 1 ∧ Part mLt a b u v z.1) (fun v => v) z.2.2 ⟨Nat.le_refl _, hJ3.2.1, hJ3.2.2⟩ ?_ ?_
     ·exact Z8 [0] ⟨rfl, rfl, rfl, rfl, rfl, trivial⟩ rfl (by decide) rfl rfl
     rintro v hJ4
     refine Z4 ?_
     refine Z4 ?_
     refine Z0d [0, 0, 3, 7, 15, 15, 15, 111, 239, 15, 15, 1551, 3599, 8191, 16383, 32767, 65535] 17 rfl (by kernel_rfl) ?_
     refine cM rfl rfl rfl rfl ?_
     refine cM rfl rfl rfl rfl ?_
     refine Za (w0 rfl) rfl (Zb rfl rfl rfl rfl) ?_
     refine cM rfl rfl rfl rfl ?_
     refine Zc (wT rfl rfl rfl rfl) rfl (fun hg => (Z7 rfl rfl)) ?_
     refine Zc (wT rfl rfl rfl rfl) rfl (fun hg => (Z7 rfl rfl)) ?_
     refine Zc (wT rfl rfl rfl rfl) rfl (fun hg => (Z7 rfl rfl)) ?_
     refine Zc (wT rfl rfl rfl rfl) rfl (fun hg => (Z2 v rfl (Z04 hg rfl) (Z04 hg rfl) (by (try simp at hg) <;> omega) (by (try simp at hg) <;> omega) (by omega))) ?_
     refine Zs (f := MRef.cells) 0 (wT rfl rfl rfl rfl) rfl rfl (fun hg => (Z04 hg rfl)) rfl (fun hg => by (try simp at hg) <;> omega) (fun _ => Zk rfl) ?_
     refine Zc (wT rfl rfl rfl rfl) rfl (fun hg => (Z7 rfl rfl)) ?_
     refine Zc (wT rfl rfl rfl rfl) rfl (fun hg => (Z7 rfl rfl)) ?_
     refine Zc (wT rfl rfl rfl rfl) rfl (fun hg => (Z2 a rfl (Z04 hg rfl) (Z04 hg rfl) (by (try simp at hg) <;> omega) (by (try simp at hg) <;> omega) (by omega))) ?_
     refine Zs (f := MRef.cells) 0 (wT rfl rfl rfl rfl) rfl rfl (fun hg => (Z04 hg rfl)) rfl (fun hg => by (try simp at hg) <;> omega) (fun _ => Zk rfl) ?_
     refine Zc (wT rfl rfl rfl rfl) rfl (fun hg => (Zq [] rfl (Z04 hg rfl) (Zj (Z04 hg rfl) (Zj (Z04 hg rfl) Z0e)) (Z0a _ _) List.nodup_nil)) ?_
     refine Zc (wT rfl rfl rfl rfl) rfl (fun hg => (Zb rfl (Z04 hg rfl) rfl rfl)) ?_
     refine Zc (wT rfl rfl rfl rfl) rfl (fun hg => (Z0m rfl (Z04 hg rfl))) ?_
     refine Za (w0 rfl) rfl (Z0l rfl rfl rfl (fun h => h)) ?_
     refine .done ?_
     refine Z3 ?_
     refine Ze rfl ?_ ?_
     ·intro hc
      have hle : u ≤ v := by have := Z71 hc; simpa using this
      have hv := Z72 hc
      refine Zi ?_
      refine Zn ?_
      refine Z0 ?_
      refine aM rfl rfl rfl rfl ?_
      refine Z5 (w0 rfl) rfl (Z6 rfl rfl rfl (Zd (by omega))) ?_
      refine aA rfl rfl rfl rfl ?_
      refine Z3 ?_
      refine ⟨(v - 1), ⟨by omega, by omega, ⟨hJ4.2.2.lo, fun k h1 h2 => by by_cases e : k = v; rw [e]; exact Z8b hv; exact hJ4.2.2.hi k (by (try simp only) <;> omega) h2⟩⟩, (by (try simp only) <;> omega), ?_⟩
      exact Z8 [0] ⟨rfl, (congrArg (fun n => some (iA n)) (by (try simp only) <;> omega)), rfl, rfl, rfl, trivial⟩ rfl (by decide) rfl rfl
     ·intro hc
      have hD : v < u ∨ (!mLt (z.1.getD v default) (z.1.getD a default)) = false := by rcases Bool.and_eq_false_iff.1 hc with h | h; exact .inl (by simpa using h); exact .inr h
      refine Z05 ?_
      refine Z4 ?_
      refine Z4 ?_
      refine Z0 ?_
      refine aM rfl rfl rfl rfl ?_
      refine aM rfl rfl rfl rfl ?_
      refine Z5 (w0 rfl) rfl (Zb rfl rfl rfl rfl) ?_
      refine Z3 ?_
      refine Ze rfl ?_ ?_
      ·intro hc
       have hgt : v < u := by simpa using hc
       refine Z05 ?_
       refine Z4 ?_
       refine Z0i [0, 0, 0, 0, 0, 0, 48, 112, 0, 0, 768, 1792, 4083, 8179, 16383, 32767] [13, 15] [7, 11] rfl (by kernel_rfl) ?_
       refine wM rfl rfl rfl rfl rfl ?_
       refine wM rfl rfl rfl rfl rfl ?_
       refine wM rfl rfl rfl rfl rfl ?_
       refine wM rfl rfl rfl rfl rfl ?_
       refine wM rfl rfl rfl rfl rfl ?_
       refine wM rfl rfl rfl rfl rfl ?_
       refine Zg (w0 rfl) rfl (Z2 a rfl rfl rfl (by omega) (by omega) (by omega)) rfl ?_
       refine Zf 0 (w0 rfl) rfl rfl rfl rfl (Zo (by omega)) (Zk rfl) rfl rfl ?_
       refine wM rfl rfl rfl rfl rfl ?_
       refine wM rfl rfl rfl rfl rfl ?_
       refine Zg (w0 rfl) rfl (Z2 v rfl rfl rfl (by omega) (by omega) (by omega)) rfl ?_
       refine Zf 0 (w0 rfl) rfl rfl rfl rfl (Zo (by omega)) (Zk rfl) rfl rfl ?_
       refine Zg (w0 rfl) rfl (Z2 v rfl rfl rfl (by omega) (by omega) (by omega)) rfl ?_
       refine Zl (f := MRef.cells) 0 (fun _ => rfl) (fun _ => rfl) (w0 rfl) rfl rfl rfl rfl (by first | omega | (simp; omega)) rfl rfl ?_
       refine Zg (w0 rfl) rfl (Z2 a rfl rfl rfl (by omega) (by omega) (by omega)) rfl ?_
       refine Zl (f := MRef.cells) 0 (fun _ => rfl) (fun _ => rfl) (w0 rfl) rfl rfl rfl rfl (by first | omega | (simp; omega)) rfl rfl ?_
       refine .done ?_
       refine Z4 ?_
       refine Z0 ?_
       refine aM rfl rfl rfl rfl ?_
       refine aA rfl rfl rfl rfl ?_
       refine aA rfl rfl rfl rfl ?_
       refine Z3 ?_
       refine Z02 ?_
       exact Zr rfl (Zy rfl (Zy rfl Zu)) (.cons_cons _ .slnil) (gp (swp z.1 v a, v, false) ⟨.step _ _ hJ2.1 (by (try simp only) <;> omega) (by (try simp only) <;> omega) (by (try simp only) <;> omega), by simp only; omega, by simp only; omega, hJ4.2.2.fin (by (try simp only) <;> omega) (by (try simp only) <;> omega) (by (try simp only) <;> omega) (by (try simp only) <;> omega) (by (try simp only) <;> omega)⟩ rfl rfl)
      ·intro hc
       have huv : u ≤ v := by simpa using hc
       have hne : u < v := Z5h (f := fun k => mLt (z.1.getD k default) (z.1.getD a default)) (by omega) (hC.resolve_left (by omega)) (Zcj (hD.resolve_left (by omega)))
       refine Zi ?_
       refine Z4 ?_
       refine Z0i [0, 0, 0, 0, 0, 0, 48, 112, 0, 0, 768, 1792, 4083, 8179, 16383, 32767] [13, 15] [7, 11] rfl (by kernel_rfl) ?_
       refine wM rfl rfl rfl rfl rfl ?_
       refine wM rfl rfl rfl rfl rfl ?_
       refine wM rfl rfl rfl rfl rfl ?_
       refine wM rfl rfl rfl rfl rfl ?_
       refine wM rfl rfl rfl rfl rfl ?_
       refine wM rfl rfl rfl rfl rfl ?_
       refine Zg (w0 rfl) rfl (Z2 v rfl rfl rfl (by omega) (by omega) (by omega)) rfl ?_
       refine Zf 0 (w0 rfl) rfl rfl rfl rfl (Zo (by omega)) (Zk rfl) rfl rfl ?_
       refine wM rfl rfl rfl rfl rfl ?_
       refine wM rfl rfl rfl rfl rfl ?_
       refine Zg (w0 rfl) rfl (Z2 u rfl rfl rfl (by omega) (by omega) (by omega)) rfl ?_
       refine Zf 0 (w0 rfl) rfl rfl rfl rfl (Zo (by omega)) (Zk rfl) rfl rfl ?_
       refine Zg (w0 rfl) rfl (Z2 u rfl rfl rfl (by omega) (by omega) (by omega)) rfl ?_
       refine Zl (f := MRef.cells) 0 (fun _ => rfl) (fun _ => rfl) (w0 rfl) rfl rfl rfl rfl (by first | omega | (simp; omega)) rfl rfl ?_
       refine Zg (w0 rfl) rfl (Z2 v rfl rfl rfl (by omega) (by omega) (by omega)) rfl ?_
       refine Zl (f := MRef.cells) 0 (fun _ => rfl) (fun _ => rfl) (w0 rfl) rfl rfl rfl rfl (by first | omega | (simp; omega)) rfl rfl ?_
       refine .done ?_
       refine Z4 ?_
       refine Z0 ?_
       refine aM rfl rfl rfl rfl ?_
       refine Z5 (w0 rfl) rfl (Z6 rfl rfl rfl (Z9 (by omega))) ?_
       refine aA rfl rfl rfl rfl ?_
       refine Z3 ?_
       refine Z0 ?_
       refine aM rfl rfl rfl rfl ?_
       refine Z5 (w0 rfl) rfl (Z6 rfl rfl rfl (Zd (by omega))) ?_
       refine aA rfl rfl rfl rfl ?_
       refine Z3 ?_
       refine ⟨(swp z.1 u v, u + 1, v - 1), ⟨.step _ _ hJ2.1 (by (try simp only) <;> omega) (by (try simp only) <;> omega) (by (try simp only) <;> omega), (by (try simp only) <;> omega), (by (try simp only) <;> omega), (by (try simp only) <;> omega), hJ4.2.2.swap (i := u) (j := v) (by (try simp only) <;> omega) (by (try simp only) <;> omega) (by (try simp only) <;> omega) (by (try simp only) <;> omega) (hC.resolve_left (by (try simp only) <;> omega)) (Zcj (hD.resolve_left (by (try simp only) <;> omega)))⟩, (by (try simp only) <;> omega), ?_⟩
       exact Z8 [0] ⟨rfl, (congrArg (fun n => some (iA n)) (by (try simp only) <;> omega)), rfl, rfl, rfl, trivial⟩ rfl (by decide) rfl rfl
theorem Z1u (q n : Nat) (l : List MRef) (hn : l.length = n) (hN : n ≤ 140737488355328) (a b p : Nat) (hap : a ≤ p) (hpb : p < b) (hb : b ≤ n) : ACalls Tryz.prog 134 [.own q 3 0 n, iA a, iA b, iA p, .fn (.func 11) []] [(q, .rows 24 3 (l.map MRef.cells))] (GP (fun r : List MRef × Nat => iA r.2) (fun r => [(q, .rows 24 3 (r.1.map MRef.cells))]) (fun r => Sw a b l r.1 ∧ a < r.2 ∧ r.2 ≤ b ∧ r.1.getD a default = l.getD p default ∧ ∃ j, r.2 = j + 1 ∧ PartE mLt a b r.2 j r.1)) := by
 have hm0 : Sw a b l (swp l a p) := .step _ _ .refl ⟨Nat.le_refl _, by omega⟩ ⟨hap, hpb⟩ (by omega)
 have hl0 : (swp l a p).length = n := by rw [Z2k]; exact hn
 refine Zw (n := 90) Tryz.func134 rfl (by decide +kernel) rfl rfl ?_
 refine Z4 ?_
 refine Z0 ?_
 refine aA rfl rfl rfl rfl ?_
 refine Z3 ?_
 refine Z4 ?_
 refine Z0i [0, 0, 0, 0, 0, 0, 48, 112, 0, 0, 768, 1792, 4083, 8179, 16383, 32767] [13, 15] [7, 11] rfl (by kernel_rfl) ?_
 refine wM rfl rfl rfl rfl rfl ?_
 refine wM rfl rfl rfl rfl rfl ?_
 refine wM rfl rfl rfl rfl rfl ?_
 refine wM rfl rfl rfl rfl rfl ?_
 refine wM rfl rfl rfl rfl rfl ?_
 refine wM rfl rfl rfl rfl rfl ?_
 refine Zg (w0 rfl) rfl (Z2 p rfl rfl rfl (by omega) (by omega) (by omega)) rfl ?_
 refine Zf 0 (w0 rfl) rfl rfl rfl rfl (Zo (by omega)) (Zk rfl) rfl rfl ?_
 refine wM rfl rfl rfl rfl rfl ?_
 refine wM rfl rfl rfl rfl rfl ?_
 refine Zg (w0 rfl) rfl (Z2 a rfl rfl rfl (by omega) (by omega) (by omega)) rfl ?_
 refine Zf 0 (w0 rfl) rfl rfl rfl rfl (Zo (by omega)) (Zk rfl) rfl rfl ?_
 refine Zg (w0 rfl) rfl (Z2 a rfl rfl rfl (by omega) (by omega) (by omega)) rfl ?_
 refine Zl (f := MRef.cells) 0 (fun _ => rfl) (fun _ => rfl) (w0 rfl) rfl rfl rfl rfl (by first | omega | (simp; omega)) rfl rfl ?_
 refine Zg (w0 rfl) rfl (Z2 p rfl rfl rfl (by omega) (by omega) (by omega)) rfl ?_
 refine Zl (f := MRef.cells) 0 (fun _ => rfl) (fun _ => rfl) (w0 rfl) rfl rfl rfl rfl (by first | omega | (simp; omega)) rfl rfl ?_
 refine .done ?_
 refine Z4 ?_
 refine Z0 ?_
 refine aM rfl rfl rfl rfl ?_
 refine Z5 (w0 rfl) rfl (Z6 rfl rfl rfl (Z9 (by omega))) ?_
 refine aM rfl rfl rfl rfl ?_
 refine Z5 (w0 rfl) rfl (Zz (y := iA (b - 1 : Nat)) (Z6 rfl rfl rfl (Zd (by omega))) (congrArg iA (by omega))) ?_
 refine aA rfl rfl rfl rfl ?_
 refine aA rfl rfl rfl rfl ?_
 refine Z3 ?_
 refine Z4 ?_
 refine Zn ?_
 refine Z06 (α := List MRef × Nat × Nat) (fun z => ⟨[(11, iA z.2.1), (12, iA z.2.2), (0, .own q 3 0 n), (1, iA a), (4, .fn (.func 11) [])], [(q, .rows 24 3 (z.1.map MRef.cells))], [], 90⟩) (fun z => Sw a b l z.1 ∧ a + 1 ≤ z.2.1 ∧ z.2.1 ≤ z.2.2 + 1 ∧ z.2.2 < b ∧ z.1.getD a default = l.getD p default ∧ PartE mLt a b z.2.1 z.2.2 z.1) (fun z => z.2.2 + 1 - z.2.1) ((swp l a p), a + 1, b - 1) ⟨hm0, (by (try simp only) <;> omega), (by (try simp only) <;> omega), (by (try simp only) <;> omega), Z6x (by omega) (by omega), ⟨fun k h1 h2 => by (try simp only at h1 h2); omega, fun k h1 h2 => by (try simp only at h1 h2); omega⟩⟩ ?_ ?_
 ·exact Z8 [0] ⟨rfl, rfl, rfl, rfl, rfl, trivial⟩ rfl (by decide) rfl rfl
 rintro z hJ2
 have hm2 := hJ2.1.len
 refine Zn ?_
 refine Z4 ?_
 refine Zn ?_
 refine Z06 (α := Nat) (fun u => ⟨[(11, iA u), (12, iA z.2.2), (0, .own q 3 0 n), (1, iA a), (4, .fn (.func 11) [])], [(q, .rows 24 3 (z.1.map MRef.cells))], [], 90⟩) (fun u => z.2.1 ≤ u ∧ u ≤ z.2.2 + 1 ∧ PartE mLt a b u z.2.2 z.1) (fun u => b - u) z.2.1 ⟨Nat.le_refl _, hJ2.2.2.1, hJ2.2.2.2.2.2⟩ ?_ ?_
 ·exact Z8 [0] ⟨rfl, rfl, rfl, rfl, rfl, trivial⟩ rfl (by decide) rfl rfl
 rintro u hJ3
 refine Z4 ?_
 refine Z4 ?_
 refine Z0d [0, 0, 3, 7, 15, 15, 15, 111, 239, 15, 15, 1551, 3599, 8191, 16383, 32767, 65535] 17 rfl (by kernel_rfl) ?_
 refine cM rfl rfl rfl rfl ?_
 refine cM rfl rfl rfl rfl ?_
 refine Za (w0 rfl) rfl (Zb rfl rfl rfl rfl) ?_
 refine cM rfl rfl rfl rfl ?_
 refine Zc (wT rfl rfl rfl rfl) rfl (fun hg => (Z7 rfl rfl)) ?_
 refine Zc (wT rfl rfl rfl rfl) rfl (fun hg => (Z7 rfl rfl)) ?_
 refine Zc (wT rfl rfl rfl rfl) rfl (fun hg => (Z7 rfl rfl)) ?_
 refine Zc (wT rfl rfl rfl rfl) rfl (fun hg => (Z2 a rfl (Z04 hg rfl) (Z04 hg rfl) (by (try simp at hg) <;> omega) (by (try simp at hg) <;> omega) (by omega))) ?_
 refine Zs (f := MRef.cells) 0 (wT rfl rfl rfl rfl) rfl rfl (fun hg => (Z04 hg rfl)) rfl (fun hg => by (try simp at hg) <;> omega) (fun _ => Zk rfl) ?_
 refine Zc (wT rfl rfl rfl rfl) rfl (fun hg => (Z7 rfl rfl)) ?_
 refine Zc (wT rfl rfl rfl rfl) rfl (fun hg => (Z7 rfl rfl)) ?_
 refine Zc (wT rfl rfl rfl rfl) rfl (fun hg => (Z2 u rfl (Z04 hg rfl) (Z04 hg rfl) (by (try simp at hg) <;> omega) (by (try simp at hg) <;> omega) (by omega))) ?_
 refine Zs (f := MRef.cells) 0 (wT rfl rfl rfl rfl) rfl rfl (fun hg => (Z04 hg rfl)) rfl (fun hg => by (try simp at hg) <;> omega) (fun _ => Zk rfl) ?_
 refine Zc (wT rfl rfl rfl rfl) rfl (fun hg => (Zq [] rfl (Z04 hg rfl) (Zj (Z04 hg rfl) (Zj (Z04 hg rfl) Z0e)) (Z0a _ _) List.nodup_nil)) ?_
 refine Zc (wT rfl rfl rfl rfl) rfl (fun hg => (Zb rfl (Z04 hg rfl) rfl rfl)) ?_
 refine Zc (wT rfl rfl rfl rfl) rfl (fun hg => (Z0m rfl (Z04 hg rfl))) ?_
 refine Za (w0 rfl) rfl (Z0l rfl rfl rfl (fun h => h)) ?_
 refine .done ?_
 refine Z3 ?_
 refine Ze rfl ?_ ?_
 ·intro hc
  have hle : u ≤ z.2.2 := by have := Z71 hc; simpa using this
  have hv := Z72 hc
  refine Zi ?_
  refine Zn ?_
  refine Z0 ?_
  refine aM rfl rfl rfl rfl ?_
  refine Z5 (w0 rfl) rfl (Z6 rfl rfl rfl (Z9 (by omega))) ?_
  refine aA rfl rfl rfl rfl ?_
  refine Z3 ?_
  refine ⟨(u + 1), ⟨by omega, by omega, ⟨fun k h1 h2 => by rcases Nat.lt_succ_iff_lt_or_eq.1 h2 with h | h; exact hJ3.2.2.lo k h1 h; rw [h]; exact Z8b hv, hJ3.2.2.hi⟩⟩, (by omega), ?_⟩
  exact Z8 [0] ⟨rfl, rfl, rfl, rfl, rfl, trivial⟩ rfl (by decide) rfl rfl
 ·intro hc
  have hC : z.2.2 < u ∨ (!mLt (z.1.getD a default) (z.1.getD u default)) = false := by rcases Bool.and_eq_false_iff.1 hc with h | h; exact .inl (by simpa using h); exact .inr h
  refine Z05 ?_
  refine Z4 ?_
  refine Zn ?_
  refine Z06 (α := Nat) (fun v => ⟨[(11, iA u), (12, iA v), (0, .own q 3 0 n), (1, iA a), (4, .fn (.func 11) [])], [(q, .rows 24 3 (z.1.map MRef.cells))], [], 90⟩) (fun v => v ≤ z.2.2 ∧ u ≤ v + 1 ∧ PartE mLt a b u v z.1) (fun v => v) z.2.2 ⟨Nat.le_refl _, hJ3.2.1, hJ3.2.2⟩ ?_ ?_
  ·exact Z8 [0] ⟨rfl, rfl, rfl, rfl, rfl, trivial⟩ rfl (by decide) rfl rfl
  rintro v hJ4
  refine Z4 ?_
  refine Z4 ?_
  refine Z0d [0, 0, 3, 7, 15, 15, 15, 111, 239, 15, 15, 1551, 3599, 8191, 16383, 32767] 16 rfl (by kernel_rfl) ?_
  refine cM rfl rfl rfl rfl ?_
  refine cM rfl rfl rfl rfl ?_
  refine Za (w0 rfl) rfl (Zb rfl rfl rfl rfl) ?_
  refine cM rfl rfl rfl rfl ?_
  refine Zc (wT rfl rfl rfl rfl) rfl (fun hg => (Z7 rfl rfl)) ?_
  refine Zc (wT rfl rfl rfl rfl) rfl (fun hg => (Z7 rfl rfl)) ?_
  refine Zc (wT rfl rfl rfl rfl) rfl (fun hg => (Z7 rfl rfl)) ?_
  refine Zc (wT rfl rfl rfl rfl) rfl (fun hg => (Z2 a rfl (Z04 hg rfl) (Z04 hg rfl) (by (try simp at hg) <;> omega) (by (try simp at hg) <;> omega) (by omega))) ?_
  refine Zs (f := MRef.cells) 0 (wT rfl rfl rfl rfl) rfl rfl (fun hg => (Z04 hg rfl)) rfl (fun hg => by (try simp at hg) <;> omega) (fun _ => Zk rfl) ?_
  refine Zc (wT rfl rfl rfl rfl) rfl (fun hg => (Z7 rfl rfl)) ?_
  refine Zc (wT rfl rfl rfl rfl) rfl (fun hg => (Z7 rfl rfl)) ?_
  refine Zc (wT rfl rfl rfl rfl) rfl (fun hg => (Z2 v rfl (Z04 hg rfl) (Z04 hg rfl) (by (try simp at hg) <;> omega) (by (try simp at hg) <;> omega) (by omega))) ?_
  refine Zs (f := MRef.cells) 0 (wT rfl rfl rfl rfl) rfl rfl (fun hg => (Z04 hg rfl)) rfl (fun hg => by (try simp at hg) <;> omega) (fun _ => Zk rfl) ?_
  refine Zc (wT rfl rfl rfl rfl) rfl (fun hg => (Zq [] rfl (Z04 hg rfl) (Zj (Z04 hg rfl) (Zj (Z04 hg rfl) Z0e)) (Z0a _ _) List.nodup_nil)) ?_
  refine Zc (wT rfl rfl rfl rfl) rfl (fun hg => (Zb rfl (Z04 hg rfl) rfl rfl)) ?_
  refine Za (w0 rfl) rfl (Z0l rfl rfl rfl (fun h => h)) ?_
  refine .done ?_
  refine Z3 ?_
  refine Ze rfl ?_ ?_
  ·intro hc
   have hle : u ≤ v := by have := Z71 hc; simpa using this
   have hv := Z72 hc
   refine Zi ?_
   refine Zn ?_
   refine Z0 ?_
   refine aM rfl rfl rfl rfl ?_
   refine Z5 (w0 rfl) rfl (Z6 rfl rfl rfl (Zd (by omega))) ?_
   refine aA rfl rfl rfl rfl ?_
   refine Z3 ?_
   refine ⟨(v - 1), ⟨by omega, by omega, ⟨hJ4.2.2.lo, fun k h1 h2 => by by_cases e : k = v; rw [e]; exact hv; exact hJ4.2.2.hi k (by omega) h2⟩⟩, (by omega), ?_⟩
   exact Z8 [0] ⟨rfl, (congrArg (fun n => some (iA n)) (by omega)), rfl, rfl, rfl, trivial⟩ rfl (by decide) rfl rfl
  ·intro hc
   have hD : v < u ∨ mLt (z.1.getD a default) (z.1.getD v default) = false := by rcases Bool.and_eq_false_iff.1 hc with h | h; exact .inl (by simpa using h); exact .inr h
   refine Z05 ?_
   refine Z4 ?_
   refine Z4 ?_
   refine Z0 ?_
   refine aM rfl rfl rfl rfl ?_
   refine aM rfl rfl rfl rfl ?_
   refine Z5 (w0 rfl) rfl (Zb rfl rfl rfl rfl) ?_
   refine Z3 ?_
   refine Ze rfl ?_ ?_
   ·intro hc
    have hgt : v < u := by simpa using hc
    refine Z05 ?_
    refine Z4 ?_
    refine Z0 ?_
    refine aM rfl rfl rfl rfl ?_
    refine aA rfl rfl rfl rfl ?_
    refine Z3 ?_
    refine Z02 ?_
    exact Zr rfl (Zy rfl Zu) (.cons_cons _ .slnil) (gp (z.1, u) ⟨hJ2.1, (by (try simp only) <;> omega), (by (try simp only) <;> omega), hJ2.2.2.2.2.1, v, (by (try simp only) <;> omega), hJ4.2.2⟩ rfl rfl)
   ·intro hc
    have huv : u ≤ v := by simpa using hc
    have hne : u < v := Z7w (f := fun k => mLt (z.1.getD a default) (z.1.getD k default)) (by omega) (Zcj (hC.resolve_left (by omega))) (hD.resolve_left (by omega))
    refine Zi ?_
    refine Z4 ?_
    refine Z0i [0, 0, 0, 0, 0, 0, 48, 112, 0, 0, 768, 1792, 4083, 8179, 16383, 32767] [13, 15] [7, 11] rfl (by kernel_rfl) ?_
    refine wM rfl rfl rfl rfl rfl ?_
    refine wM rfl rfl rfl rfl rfl ?_
    refine wM rfl rfl rfl rfl rfl ?_
    refine wM rfl rfl rfl rfl rfl ?_
    refine wM rfl rfl rfl rfl rfl ?_
    refine wM rfl rfl rfl rfl rfl ?_
    refine Zg (w0 rfl) rfl (Z2 v rfl rfl rfl (by omega) (by omega) (by omega)) rfl ?_
    refine Zf 0 (w0 rfl) rfl rfl rfl rfl (Zo (by omega)) (Zk rfl) rfl rfl ?_
    refine wM rfl rfl rfl rfl rfl ?_
    refine wM rfl rfl rfl rfl rfl ?_
    refine Zg (w0 rfl) rfl (Z2 u rfl rfl rfl (by omega) (by omega) (by omega)) rfl ?_
    refine Zf 0 (w0 rfl) rfl rfl rfl rfl (Zo (by omega)) (Zk rfl) rfl rfl ?_
    refine Zg (w0 rfl) rfl (Z2 u rfl rfl rfl (by omega) (by omega) (by omega)) rfl ?_
    refine Zl (f := MRef.cells) 0 (fun _ => rfl) (fun _ => rfl) (w0 rfl) rfl rfl rfl rfl (by first | omega | (simp; omega)) rfl rfl ?_
    refine Zg (w0 rfl) rfl (Z2 v rfl rfl rfl (by omega) (by omega) (by omega)) rfl ?_
    refine Zl (f := MRef.cells) 0 (fun _ => rfl) (fun _ => rfl) (w0 rfl) rfl rfl rfl rfl (by first | omega | (simp; omega)) rfl rfl ?_
    refine .done ?_
    refine Z4 ?_
    refine Z0 ?_
    refine aM rfl rfl rfl rfl ?_
    refine Z5 (w0 rfl) rfl (Z6 rfl rfl rfl (Z9 (by omega))) ?_
    refine aA rfl rfl rfl rfl ?_
    refine Z3 ?_
    refine Z0 ?_
    refine aM rfl rfl rfl rfl ?_
    refine Z5 (w0 rfl) rfl (Z6 rfl rfl rfl (Zd (by omega))) ?_
    refine aA rfl rfl rfl rfl ?_
    refine Z3 ?_
    refine ⟨(swp z.1 u v, u + 1, v - 1), ⟨.step _ _ hJ2.1 (by (try simp only) <;> omega) (by (try simp only) <;> omega) (by (try simp only) <;> omega), (by (try simp only) <;> omega), (by (try simp only) <;> omega), (by (try simp only) <;> omega), (Z1t (by (try simp only) <;> omega) (by (try simp only) <;> omega) (by (try simp only) <;> omega) (by (try simp only) <;> omega)).trans hJ2.2.2.2.2.1, hJ4.2.2.swap (i := u) (j := v) (by (try simp only) <;> omega) (by (try simp only) <;> omega) (by (try simp only) <;> omega) (by (try simp only) <;> omega) (Zcj (hC.resolve_left (by (try simp only) <;> omega))) (hD.resolve_left (by (try simp only) <;> omega))⟩, (by (try simp only) <;> omega), ?_⟩
    exact Z8 [0] ⟨rfl, (congrArg (fun n => some (iA n)) (by (try simp only) <;> omega)), rfl, rfl, rfl, trivial⟩ rfl (by decide) rfl rfl
theorem Zef (q n : Nat) (l : List MRef) (hn : l.length = n) (hN : n ≤ 140737488355328) (a b : Nat) (ha : a < b) (hb : b ≤ n) : ACalls Tryz.prog 132 [.own q 3 0 n, iA a, iA b, .fn (.func 11) []] [(q, .rows 24 3 (l.map MRef.cells))] (GP (fun _ : List MRef => mkRes []) (fun m => [(q, .rows 24 3 (m.map MRef.cells))]) (fun m => Sw a b l m)) := by
 refine Zw (n := 34) Tryz.func132 rfl (by decide +kernel) rfl rfl ?_
 refine Z4 ?_
 refine Z0 ?_
 refine aM rfl rfl rfl rfl ?_
 refine aA rfl rfl rfl rfl ?_
 refine Z3 ?_
 refine Z4 ?_
 refine Z0 ?_
 refine aM rfl rfl rfl rfl ?_
 refine Z5 (w0 rfl) rfl (Zz (y := iA (b - 1 : Nat)) (Z6 rfl rfl rfl (Zd (by omega))) (congrArg iA (by omega))) ?_
 refine aA rfl rfl rfl rfl ?_
 refine Z3 ?_
 refine Zn ?_
 refine Z06 (α := List MRef × Nat × Nat) (fun z => ⟨[(8, iA z.2.1), (9, iA z.2.2), (0, .own q 3 0 n), (3, .fn (.func 11) [])], [(q, .rows 24 3 (z.1.map MRef.cells))], [], 34⟩) (fun z => Sw a b l z.1 ∧ a ≤ z.2.1 ∧ z.2.2 < b) (fun z => z.2.2 - z.2.1) (l, a, b - 1) ⟨.refl, (by (try simp only) <;> omega), (by (try simp only) <;> omega)⟩ ?_ ?_
 ·exact Z8 [0] ⟨rfl, rfl, rfl, rfl, trivial⟩ rfl (by decide) rfl rfl
 rintro z hJ
 have hm := hJ.1.len
 refine Z4 ?_
 refine Z4 ?_
 refine Z0 ?_
 refine aM rfl rfl rfl rfl ?_
 refine aM rfl rfl rfl rfl ?_
 refine Z5 (w0 rfl) rfl (Zb rfl rfl rfl rfl) ?_
 refine Z3 ?_
 refine Ze rfl ?_ ?_
 ·intro hc
  have hlt : z.2.1 < z.2.2 := by simpa using hc
  refine Zi ?_
  refine Zn ?_
  refine Z4 ?_
  refine Z0i [0, 0, 0, 0, 0, 0, 48, 112, 0, 0, 768, 1792, 4083, 8179, 16383, 32767] [13, 15] [7, 11] rfl (by kernel_rfl) ?_
  refine wM rfl rfl rfl rfl rfl ?_
  refine wM rfl rfl rfl rfl rfl ?_
  refine wM rfl rfl rfl rfl rfl ?_
  refine wM rfl rfl rfl rfl rfl ?_
  refine wM rfl rfl rfl rfl rfl ?_
  refine wM rfl rfl rfl rfl rfl ?_
  refine Zg (w0 rfl) rfl (Z2 z.2.2 rfl rfl rfl (by omega) (by omega) (by omega)) rfl ?_
  refine Zf 0 (w0 rfl) rfl rfl rfl rfl (Zo (by omega)) (Zk rfl) rfl rfl ?_
  refine wM rfl rfl rfl rfl rfl ?_
  refine wM rfl rfl rfl rfl rfl ?_
  refine Zg (w0 rfl) rfl (Z2 z.2.1 rfl rfl rfl (by omega) (by omega) (by omega)) rfl ?_
  refine Zf 0 (w0 rfl) rfl rfl rfl rfl (Zo (by omega)) (Zk rfl) rfl rfl ?_
  refine Zg (w0 rfl) rfl (Z2 z.2.1 rfl rfl rfl (by omega) (by omega) (by omega)) rfl ?_
  refine Zl (f := MRef.cells) 0 (fun _ => rfl) (fun _ => rfl) (w0 rfl) rfl rfl rfl rfl (by first | omega | (simp; omega)) rfl rfl ?_
  refine Zg (w0 rfl) rfl (Z2 z.2.2 rfl rfl rfl (by omega) (by omega) (by omega)) rfl ?_
  refine Zl (f := MRef.cells) 0 (fun _ => rfl) (fun _ => rfl) (w0 rfl) rfl rfl rfl rfl (by first | omega | (simp; omega)) rfl rfl ?_
  refine .done ?_
  refine Z4 ?_
  refine Z0 ?_
  refine aM rfl rfl rfl rfl ?_
  refine Z5 (w0 rfl) rfl (Z6 rfl rfl rfl (Z9 (by omega))) ?_
  refine aA rfl rfl rfl rfl ?_
  refine Z3 ?_
  refine Z0 ?_
  refine aM rfl rfl rfl rfl ?_
  refine Z5 (w0 rfl) rfl (Z6 rfl rfl rfl (Zd (by omega))) ?_
  refine aA rfl rfl rfl rfl ?_
  refine Z3 ?_
  refine ⟨(swp z.1 z.2.1 z.2.2, z.2.1 + 1, z.2.2 - 1), ⟨.step _ _ hJ.1 (by (try simp only) <;> omega) (by (try simp only) <;> omega) (by (try simp only) <;> omega), (by (try simp only) <;> omega), (by (try simp only) <;> omega)⟩, (by (try simp only) <;> omega), ?_⟩
  exact Z8 [0] ⟨rfl, (congrArg (fun n => some (iA n)) (by (try simp only) <;> omega)), rfl, rfl, trivial⟩ rfl (by decide) rfl rfl
 ·intro hc
  refine Z05 ?_
  exact Zr rfl Zu (.cons_cons _ .slnil) (gp z.1 hJ.1 rfl rfl)
theorem Z4y (q si n : Nat) (l : List MRef) (hn : l.length = n) (c : Int) (a b : Nat) (ha : a < n) (hb : b < n) : ACalls Tryz.prog 244 [.own q 3 0 n, iA a, iA b, .ptr si 1 0 0, .fn (.func 11) []] [(q, .rows 24 3 (l.map MRef.cells)), (si, .rows 3 1 [[iA c]])] (GP (fun r : Nat × Nat × Int => .tup [iA r.1, iA r.2.1]) (fun r => [(q, .rows 24 3 (l.map MRef.cells)), (si, .rows 3 1 [[iA r.2.2]])]) (fun r => (r.1 = a ∧ r.2.1 = b) ∨ (r.1 = b ∧ r.2.1 = a))) := by
 refine Zw (n := 32) Tryz.func244 rfl (by decide +kernel) rfl rfl ?_
 refine Z4 ?_
 refine Z0 ?_
 refine aA rfl rfl rfl rfl ?_
 refine aA rfl rfl rfl rfl ?_
 refine Z3 ?_
 refine Z4 ?_
 refine Z4 ?_
 refine Z1e 11 rfl (by kernel_rfl) ?_
 refine cM rfl rfl rfl rfl ?_
 refine cM rfl rfl rfl rfl ?_
 refine cM rfl rfl rfl rfl ?_
 refine Za (w0 rfl) rfl (Z2 b rfl rfl rfl (by omega) (by omega) (by omega)) ?_
 refine Zm 0 (w0 rfl) rfl rfl rfl rfl (Zo (by omega)) (Zk rfl) ?_
 refine cM rfl rfl rfl rfl ?_
 refine cM rfl rfl rfl rfl ?_
 refine Za (w0 rfl) rfl (Z2 a rfl rfl rfl (by omega) (by omega) (by omega)) ?_
 refine Zm 0 (w0 rfl) rfl rfl rfl rfl (Zo (by omega)) (Zk rfl) ?_
 refine Za (w0 rfl) rfl (Zq [] rfl rfl rfl (Z0a _ _) List.nodup_nil) ?_
 refine Za (w0 rfl) rfl (Zb rfl rfl rfl rfl) ?_
 refine .done ?_
 refine Z3 ?_
 refine Ze rfl ?_ ?_
 ·intro hc
  refine Z4 ?_
  refine Z0 ?_
  refine aM rfl rfl rfl rfl ?_
  refine Z5 (w0 rfl) rfl (Z0c rfl rfl rfl) ?_
  refine Z0h 1 (w0 rfl) rfl rfl rfl rfl rfl Z0t ?_
  refine Z5 (w0 rfl) rfl (Z6 rfl rfl rfl rfl) ?_
  refine Z5 (w0 rfl) rfl (Z0c rfl rfl rfl) ?_
  refine Z0r 1 (w0 rfl) rfl rfl rfl rfl rfl rfl rfl rfl rfl ?_
  refine Z3 ?_
  refine Z4 ?_
  refine Z0 ?_
  refine aM rfl rfl rfl rfl ?_
  refine aM rfl rfl rfl rfl ?_
  refine aA rfl rfl rfl rfl ?_
  refine aA rfl rfl rfl rfl ?_
  refine Z3 ?_
  refine Z02 ?_
  exact Zr rfl (Zy rfl (Zy rfl Zu)) (.cons_cons _ (.cons_cons _ .slnil)) (gp (b, a, _) (.inr ⟨rfl, rfl⟩) rfl rfl)
 ·intro hc
  refine Zi ?_
  refine Z4 ?_
  refine Z0 ?_
  refine aM rfl rfl rfl rfl ?_
  refine aM rfl rfl rfl rfl ?_
  refine aA rfl rfl rfl rfl ?_
  refine aA rfl rfl rfl rfl ?_
  refine Z3 ?_
  refine Z02 ?_
  exact Zr rfl (Zy rfl (Zy rfl Zu)) (.cons_cons _ (.cons_cons _ .slnil)) (gp (a, b, _) (.inl ⟨rfl, rfl⟩) rfl rfl)
theorem Z4x (q si n : Nat) (l : List MRef) (hn : l.length = n) (hN : n ≤ 140737488355328) (c : Int) (a b d : Nat) (ha : a < n) (hb : b < n) (hd : d < n) : ACalls Tryz.prog 212 [.own q 3 0 n, iA a, iA b, iA d, .ptr si 1 0 0, .fn (.func 11) []] [(q, .rows 24 3 (l.map MRef.cells)), (si, .rows 3 1 [[iA c]])] (GP (fun r : Nat × Int => iA r.1) (fun r => [(q, .rows 24 3 (l.map MRef.cells)), (si, .rows 3 1 [[iA r.2]])]) (fun r => r.1 = a ∨ r.1 = b ∨ r.1 = d)) := by
 refine Zw (n := 41) Tryz.func212 rfl (by decide +kernel) rfl rfl ?_
 refine Z4 ?_
 refine Z0 ?_
 refine aA rfl rfl rfl rfl ?_
 refine Z3 ?_
 refine Z4 ?_
 refine Z0 ?_
 refine aM rfl rfl rfl rfl ?_
 refine aM rfl rfl rfl rfl ?_
 refine aM rfl rfl rfl rfl ?_
 refine aM rfl rfl rfl rfl ?_
 refine aM rfl rfl rfl rfl ?_
 refine Zh [_, _] _ (w0 rfl) rfl rfl rfl rfl (Z19 (k := 0) (j := 0) rfl rfl) (Z4y q si n l hn _ _ _ (by omega) (by omega)) (fun v1 hv1 => ?_)
 refine aM rfl rfl rfl rfl ?_
 refine Z5 (w0 rfl) rfl (Zt rfl rfl rfl) ?_
 refine Z5 (w0 rfl) rfl (Zt rfl rfl rfl) ?_
 refine aA rfl rfl rfl rfl ?_
 refine aA rfl rfl rfl rfl ?_
 refine Z3 ?_
 refine Z4 ?_
 refine Z0 ?_
 refine aM rfl rfl rfl rfl ?_
 refine aM rfl rfl rfl rfl ?_
 refine aM rfl rfl rfl rfl ?_
 refine aM rfl rfl rfl rfl ?_
 refine aM rfl rfl rfl rfl ?_
 refine Zh [_, _] _ (w0 rfl) rfl rfl rfl rfl (Z19 (k := 0) (j := 0) rfl rfl) (Z4y q si n l hn _ _ _ (by omega) (by omega)) (fun v2 hv2 => ?_)
 refine aM rfl rfl rfl rfl ?_
 refine Z5 (w0 rfl) rfl (Zt rfl rfl rfl) ?_
 refine Z5 (w0 rfl) rfl (Zt rfl rfl rfl) ?_
 refine aA rfl rfl rfl rfl ?_
 refine aA rfl rfl rfl rfl ?_
 refine Z3 ?_
 refine Z4 ?_
 refine Z0 ?_
 refine aM rfl rfl rfl rfl ?_
 refine aM rfl rfl rfl rfl ?_
 refine aM rfl rfl rfl rfl ?_
 refine aM rfl rfl rfl rfl ?_
 refine aM rfl rfl rfl rfl ?_
 refine Zh [_, _] _ (w0 rfl) rfl rfl rfl rfl (Z19 (k := 0) (j := 0) rfl rfl) (Z4y q si n l hn _ _ _ (by omega) (by omega)) (fun v3 hv3 => ?_)
 refine aM rfl rfl rfl rfl ?_
 refine Z5 (w0 rfl) rfl (Zt rfl rfl rfl) ?_
 refine Z5 (w0 rfl) rfl (Zt rfl rfl rfl) ?_
 refine aA rfl rfl rfl rfl ?_
 refine aA rfl rfl rfl rfl ?_
 refine Z3 ?_
 refine Z4 ?_
 refine Z0 ?_
 refine aM rfl rfl rfl rfl ?_
 refine aA rfl rfl rfl rfl ?_
 refine Z3 ?_
 refine Z02 ?_
 exact Zr rfl (Zy rfl Zu) (.cons_cons _ (.cons_cons _ .slnil)) (gp (v3.2.1, _) (by (try simp only) <;> omega) rfl rfl)
theorem Z4w (q si n : Nat) (l : List MRef) (hn : l.length = n) (hN : n ≤ 140737488355328) (c : Int) (a : Nat) (h1 : 1 ≤ a) (ha : a + 1 < n) : ACalls Tryz.prog 211 [.own q 3 0 n, iA a, .ptr si 1 0 0, .fn (.func 11) []] [(q, .rows 24 3 (l.map MRef.cells)), (si, .rows 3 1 [[iA c]])] (GP (fun r : Nat × Int => iA r.1) (fun r => [(q, .rows 24 3 (l.map MRef.cells)), (si, .rows 3 1 [[iA r.2]])]) (fun r => r.1 + 1 = a ∨ r.1 = a ∨ r.1 = a + 1)) := by
 refine Zw (n := 18) Tryz.func211 rfl (by decide +kernel) rfl rfl ?_
 refine Z4 ?_
 refine Z0 ?_
 refine aA rfl rfl rfl rfl ?_
 refine Z3 ?_
 refine Z4 ?_
 refine Z0 ?_
 refine aM rfl rfl rfl rfl ?_
 refine aM rfl rfl rfl rfl ?_
 refine Z5 (w0 rfl) rfl (Zz (y := iA (a - 1 : Nat)) (Z6 rfl rfl rfl (Zd (by omega))) (congrArg iA (by omega))) ?_
 refine aM rfl rfl rfl rfl ?_
 refine aM rfl rfl rfl rfl ?_
 refine Z5 (w0 rfl) rfl (Z6 rfl rfl rfl (Z9 (by omega))) ?_
 refine aM rfl rfl rfl rfl ?_
 refine aM rfl rfl rfl rfl ?_
 refine Zh [_, _] _ (w0 rfl) rfl rfl rfl rfl (Z19 (k := 0) (j := 0) rfl rfl) (Z4x q si n l hn hN _ (a - 1) a (a + 1) (by omega) (by omega) (by omega)) (fun v1 hv1 => ?_)
 refine aA rfl rfl rfl rfl ?_
 refine Z3 ?_
 refine Z02 ?_
 exact Zr rfl (Zy rfl Zu) (.cons_cons _ (.cons_cons _ .slnil)) (gp (v1.1, _) (by (try simp only) <;> omega) rfl rfl)
theorem Z9g (q n : Nat) (l : List MRef) (hn : l.length = n) (hN : n ≤ 140737488355328) (a b : Nat) (hab : a + 12 < b) (hb : b ≤ n) : ACalls Tryz.prog 131 [.own q 3 0 n, iA a, iA b, .fn (.func 11) []] [(q, .rows 24 3 (l.map MRef.cells))] (GP (fun r : Nat × Int => .tup [iA r.1, iA r.2]) (fun r => [(q, .rows 24 3 (l.map MRef.cells))]) (fun r => a ≤ r.1 ∧ r.1 < b)) := by
 refine Zw (n := 63) Tryz.func131 rfl (by decide +kernel) rfl rfl ?_
 refine Z4 ?_
 refine Z0 ?_
 refine aA rfl rfl rfl rfl ?_
 refine aA rfl rfl rfl rfl ?_
 refine Z3 ?_
 refine Z4 ?_
 refine Z0 ?_
 refine aM rfl rfl rfl rfl ?_
 refine aM rfl rfl rfl rfl ?_
 refine Z5 (w0 rfl) rfl (Zz (y := iA (b - a : Nat)) (Z6 rfl rfl rfl (Zd (by omega))) (congrArg iA (by omega))) ?_
 refine aA rfl rfl rfl rfl ?_
 refine Z3 ?_
 refine Z4 ?_
 refine Z0 ?_
 refine Z1a (w0 rfl) rfl (fun id => Z1f id rfl rfl rfl) (fun id1 => ?_)
 refine Z3 ?_
 refine Z4 ?_
 refine Z0 ?_
 refine aM rfl rfl rfl rfl ?_
 refine aM rfl rfl rfl rfl ?_
 refine Z5 (w0 rfl) rfl (Zz (y := iA ((b - a) / 4 : Nat)) (Z18 rfl rfl rfl (by decide) (Z0y (b - a) 4 (by omega))) (congrArg iA (Z43 (b - a) 4))) ?_
 refine Z5 (w0 rfl) rfl (Z6 rfl rfl rfl (Z20 (by omega))) ?_
 refine Z5 (w0 rfl) rfl (Zz (y := iA (a + (b - a) / 4 * 1 : Nat)) (Z6 rfl rfl rfl (Z9 (by omega))) (congrArg iA (by omega))) ?_
 refine aA rfl rfl rfl rfl ?_
 refine Z3 ?_
 refine Z4 ?_
 refine Z0 ?_
 refine aM rfl rfl rfl rfl ?_
 refine aM rfl rfl rfl rfl ?_
 refine Z5 (w0 rfl) rfl (Zz (y := iA ((b - a) / 4 : Nat)) (Z18 rfl rfl rfl (by decide) (Z0y (b - a) 4 (by omega))) (congrArg iA (Z43 (b - a) 4))) ?_
 refine Z5 (w0 rfl) rfl (Z6 rfl rfl rfl (Z20 (by omega))) ?_
 refine Z5 (w0 rfl) rfl (Zz (y := iA (a + (b - a) / 4 * 2 : Nat)) (Z6 rfl rfl rfl (Z9 (by omega))) (congrArg iA (by omega))) ?_
 refine aA rfl rfl rfl rfl ?_
 refine Z3 ?_
 refine Z4 ?_
 refine Z0 ?_
 refine aM rfl rfl rfl rfl ?_
 refine aM rfl rfl rfl rfl ?_
 refine Z5 (w0 rfl) rfl (Zz (y := iA ((b - a) / 4 : Nat)) (Z18 rfl rfl rfl (by decide) (Z0y (b - a) 4 (by omega))) (congrArg iA (Z43 (b - a) 4))) ?_
 refine Z5 (w0 rfl) rfl (Z6 rfl rfl rfl (Z20 (by omega))) ?_
 refine Z5 (w0 rfl) rfl (Zz (y := iA (a + (b - a) / 4 * 3 : Nat)) (Z6 rfl rfl rfl (Z9 (by omega))) (congrArg iA (by omega))) ?_
 refine aA rfl rfl rfl rfl ?_
 refine Z3 ?_
 refine Z4 ?_
 refine Z4 ?_
 refine Z0 ?_
 refine aM rfl rfl rfl rfl ?_
 refine Z5 (w0 rfl) rfl (Zb rfl rfl rfl rfl) ?_
 refine Z3 ?_
 refine Ze rfl ?_ ?_
 ·intro hc
  refine Z4 ?_
  refine Z4 ?_
  refine Z0 ?_
  refine aM rfl rfl rfl rfl ?_
  refine Z5 (w0 rfl) rfl (Zb rfl rfl rfl rfl) ?_
  refine Z3 ?_
  refine Ze rfl ?_ ?_
  ·intro hc
   refine Z4 ?_
   refine Z0 ?_
   refine aM rfl rfl rfl rfl ?_
   refine aM rfl rfl rfl rfl ?_
   refine aM rfl rfl rfl rfl ?_
   refine Zh [_, _] _ (w0 rfl) rfl rfl rfl rfl (Z19 (k := 1) (j := 0) rfl rfl) (Z4w q _ n l hn hN _ _ (by omega) (by omega)) (fun v2 hv2 => ?_)
   refine aA rfl rfl rfl rfl ?_
   refine Z3 ?_
   refine Z4 ?_
   refine Z0 ?_
   refine aM rfl rfl rfl rfl ?_
   refine aM rfl rfl rfl rfl ?_
   refine aM rfl rfl rfl rfl ?_
   refine Zh [_, _] _ (w0 rfl) rfl rfl rfl rfl (Z19 (k := 0) (j := 0) rfl rfl) (Z4w q _ n l hn hN _ _ (by omega) (by omega)) (fun v3 hv3 => ?_)
   refine aA rfl rfl rfl rfl ?_
   refine Z3 ?_
   refine Z0 ?_
   refine aM rfl rfl rfl rfl ?_
   refine aM rfl rfl rfl rfl ?_
   refine aM rfl rfl rfl rfl ?_
   refine Zh [_, _] _ (w0 rfl) rfl rfl rfl rfl (Z19 (k := 0) (j := 0) rfl rfl) (Z4w q _ n l hn hN _ _ (by omega) (by omega)) (fun v4 hv4 => ?_)
   refine aA rfl rfl rfl rfl ?_
   refine Z3 ?_
   refine Z0 ?_
   refine aM rfl rfl rfl rfl ?_
   refine aM rfl rfl rfl rfl ?_
   refine aM rfl rfl rfl rfl ?_
   refine aM rfl rfl rfl rfl ?_
   refine aM rfl rfl rfl rfl ?_
   refine Zh [_, _] _ (w0 rfl) rfl rfl rfl rfl (Z19 (k := 0) (j := 0) rfl rfl) (Z4x q _ n l hn hN _ _ _ _ (by omega) (by omega) (by omega)) (fun v5 hv5 => ?_)
   refine aA rfl rfl rfl rfl ?_
   refine Z3 ?_
   refine Z4 ?_
   refine Z0 ?_
   refine Z0h 1 (w0 rfl) rfl rfl rfl rfl rfl Z0t ?_
   refine Z3 ?_
   refine Zn ?_
   refine Z4 ?_
   refine Z0 ?_
   refine Z5 (w0 rfl) rfl (Zb rfl rfl rfl rfl) ?_
   refine aA rfl rfl rfl rfl ?_
   refine Z3 ?_
   refine Ze rfl ?_ ?_
   ·intro hc
    refine Z4 ?_
    refine Z0 ?_
    refine aM rfl rfl rfl rfl ?_
    refine aA rfl rfl rfl rfl ?_
    refine aA rfl rfl rfl rfl ?_
    refine Z3 ?_
    refine Z02 ?_
    exact Zr rfl (Zy rfl (Zy rfl Zu)) (.cons_cons _ (.cons _ .slnil)) (gp (v5.1, 1) ⟨(by (try simp only) <;> omega), (by (try simp only) <;> omega)⟩ rfl rfl)
   ·intro hc
    refine Z4 ?_
    refine Z0 ?_
    refine Z5 (w0 rfl) rfl (Zb rfl rfl rfl rfl) ?_
    refine aA rfl rfl rfl rfl ?_
    refine Z3 ?_
    refine Ze rfl ?_ ?_
    ·intro hc
     refine Z4 ?_
     refine Z0 ?_
     refine aM rfl rfl rfl rfl ?_
     refine aA rfl rfl rfl rfl ?_
     refine aA rfl rfl rfl rfl ?_
     refine Z3 ?_
     refine Z02 ?_
     exact Zr rfl (Zy rfl (Zy rfl Zu)) (.cons_cons _ (.cons _ .slnil)) (gp (v5.1, 2) ⟨(by (try simp only) <;> omega), (by (try simp only) <;> omega)⟩ rfl rfl)
    ·intro hc
     refine Z4 ?_
     refine Z0 ?_
     refine aM rfl rfl rfl rfl ?_
     refine aA rfl rfl rfl rfl ?_
     refine aA rfl rfl rfl rfl ?_
     refine Z3 ?_
     refine Z02 ?_
     exact Zr rfl (Zy rfl (Zy rfl Zu)) (.cons_cons _ (.cons _ .slnil)) (gp (v5.1, 0) ⟨(by (try simp only) <;> omega), (by (try simp only) <;> omega)⟩ rfl rfl)
  ·intro hc
   refine Zi ?_
   refine Z0 ?_
   refine aM rfl rfl rfl rfl ?_
   refine aM rfl rfl rfl rfl ?_
   refine aM rfl rfl rfl rfl ?_
   refine aM rfl rfl rfl rfl ?_
   refine aM rfl rfl rfl rfl ?_
   refine Zh [_, _] _ (w0 rfl) rfl rfl rfl rfl (Z19 (k := 1) (j := 0) rfl rfl) (Z4x q _ n l hn hN _ _ _ _ (by omega) (by omega) (by omega)) (fun v6 hv6 => ?_)
   refine aA rfl rfl rfl rfl ?_
   refine Z3 ?_
   refine Z4 ?_
   refine Z0 ?_
   refine Z0h 1 (w0 rfl) rfl rfl rfl rfl rfl Z0t ?_
   refine Z3 ?_
   refine Zn ?_
   refine Z4 ?_
   refine Z0 ?_
   refine Z5 (w0 rfl) rfl (Zb rfl rfl rfl rfl) ?_
   refine aA rfl rfl rfl rfl ?_
   refine Z3 ?_
   refine Ze rfl ?_ ?_
   ·intro hc
    refine Z4 ?_
    refine Z0 ?_
    refine aM rfl rfl rfl rfl ?_
    refine aA rfl rfl rfl rfl ?_
    refine aA rfl rfl rfl rfl ?_
    refine Z3 ?_
    refine Z02 ?_
    exact Zr rfl (Zy rfl (Zy rfl Zu)) (.cons_cons _ (.cons _ .slnil)) (gp (v6.1, 1) ⟨(by (try simp only) <;> omega), (by (try simp only) <;> omega)⟩ rfl rfl)
   ·intro hc
    refine Z4 ?_
    refine Z0 ?_
    refine Z5 (w0 rfl) rfl (Zb rfl rfl rfl rfl) ?_
    refine aA rfl rfl rfl rfl ?_
    refine Z3 ?_
    refine Ze rfl ?_ ?_
    ·intro hc
     refine Z4 ?_
     refine Z0 ?_
     refine aM rfl rfl rfl rfl ?_
     refine aA rfl rfl rfl rfl ?_
     refine aA rfl rfl rfl rfl ?_
     refine Z3 ?_
     refine Z02 ?_
     exact Zr rfl (Zy rfl (Zy rfl Zu)) (.cons_cons _ (.cons _ .slnil)) (gp (v6.1, 2) ⟨(by (try simp only) <;> omega), (by (try simp only) <;> omega)⟩ rfl rfl)
    ·intro hc
     refine Z4 ?_
     refine Z0 ?_
     refine aM rfl rfl rfl rfl ?_
     refine aA rfl rfl rfl rfl ?_
     refine aA rfl rfl rfl rfl ?_
     refine Z3 ?_
     refine Z02 ?_
     exact Zr rfl (Zy rfl (Zy rfl Zu)) (.cons_cons _ (.cons _ .slnil)) (gp (v6.1, 0) ⟨(by (try simp only) <;> omega), (by (try simp only) <;> omega)⟩ rfl rfl)
 ·intro hc
  exfalso; simp at hc; omega
theorem Z2p (q n : Nat) (l : List MRef) (hn : l.length = n) (hN : n ≤ 140737488355328) (a b : Nat) (ha : a < b) (hb : b ≤ n) (hbd : Bd mLt a b l) : ACalls Tryz.prog 133 [.own q 3 0 n, iA a, iA b, .fn (.func 11) []] [(q, .rows 24 3 (l.map MRef.cells))] (GP (fun r : List MRef × Bool => bA r.2) (fun r => [(q, .rows 24 3 (r.1.map MRef.cells))]) (fun r => Sw a b l r.1 ∧ (r.2 = true → SAdj mLt a b r.1))) := by
 refine Zw (n := 141) Tryz.func133 rfl (by decide +kernel) rfl rfl ?_
 refine Z4 ?_
 refine Z0 ?_
 refine aA rfl rfl rfl rfl ?_
 refine Z3 ?_
 refine Z4 ?_
 refine Z0 ?_
 refine aM rfl rfl rfl rfl ?_
 refine Z5 (w0 rfl) rfl (Z6 rfl rfl rfl (Z9 (by omega))) ?_
 refine aA rfl rfl rfl rfl ?_
 refine Z3 ?_
 refine Z4 ?_
 refine Z4 ?_
 refine Z0 ?_
 refine aA rfl rfl rfl rfl ?_
 refine Z3 ?_
 refine Zn ?_
 refine Z06 (α := List MRef × Nat × Nat) (fun x => ⟨[(10, iA x.2.2), (9, iA x.2.1), (0, .own q 3 0 n), (1, iA a), (2, iA b), (3, .fn (.func 11) [])], [(q, .rows 24 3 (x.1.map MRef.cells))], [], 141⟩) (fun x => Sw a b l x.1 ∧ a + 1 ≤ x.2.1 ∧ x.2.1 ≤ b ∧ x.2.2 ≤ 5 ∧ SAdj mLt a x.2.1 x.1) (fun x => 5 - x.2.2) (l, a + 1, 0) ⟨.refl, (by (try simp only) <;> omega), (by (try simp only) <;> omega), (by (try simp only) <;> omega), SAdj.refl1 (by (try simp only) <;> omega)⟩ ?_ ?_
 ·exact Z8 [0] ⟨rfl, rfl, rfl, rfl, rfl, rfl, trivial⟩ rfl (by decide) rfl rfl
 rintro x hJ
 have hm := hJ.1.len
 refine Z4 ?_
 refine Z4 ?_
 refine Z0 ?_
 refine aM rfl rfl rfl rfl ?_
 refine Z5 (w0 rfl) rfl (Zb rfl rfl rfl rfl) ?_
 refine Z3 ?_
 refine Ze rfl ?_ ?_
 ·intro hc
  have hx5 : x.2.2 < 5 := by simp at hc; omega
  refine Zi ?_
  refine Z4 ?_
  refine Zn ?_
  refine Z4 ?_
  refine Zn ?_
  refine Z06 (α := Nat) (fun u => ⟨[(9, iA u), (10, iA x.2.2), (0, .own q 3 0 n), (1, iA a), (2, iA b), (3, .fn (.func 11) [])], [(q, .rows 24 3 (x.1.map MRef.cells))], [], 141⟩) (fun u => x.2.1 ≤ u ∧ u ≤ b ∧ SAdj mLt a u x.1) (fun u => b - u) x.2.1 ⟨Nat.le_refl _, hJ.2.2.1, hJ.2.2.2.2⟩ ?_ ?_
  ·exact Z8 [0] ⟨rfl, rfl, rfl, rfl, rfl, rfl, trivial⟩ rfl (by decide) rfl rfl
  rintro u hJ1
  refine Z4 ?_
  refine Z4 ?_
  refine Z0d [0, 0, 3, 7, 15, 15, 15, 111, 239, 15, 15, 1039, 3599, 7695, 16383, 32767, 65535, 131071] 18 rfl (by kernel_rfl) ?_
  refine cM rfl rfl rfl rfl ?_
  refine cM rfl rfl rfl rfl ?_
  refine Za (w0 rfl) rfl (Zb rfl rfl rfl rfl) ?_
  refine cM rfl rfl rfl rfl ?_
  refine Zc (wT rfl rfl rfl rfl) rfl (fun hg => (Z7 rfl rfl)) ?_
  refine Zc (wT rfl rfl rfl rfl) rfl (fun hg => (Z7 rfl rfl)) ?_
  refine Zc (wT rfl rfl rfl rfl) rfl (fun hg => (Z7 rfl rfl)) ?_
  refine Zc (wT rfl rfl rfl rfl) rfl (fun hg => (Z2 u rfl (Z04 hg rfl) (Z04 hg rfl) (by (try simp at hg) <;> omega) (by (try simp at hg) <;> omega) (by omega))) ?_
  refine Zs (f := MRef.cells) 0 (wT rfl rfl rfl rfl) rfl rfl (fun hg => (Z04 hg rfl)) rfl (fun hg => by (try simp at hg) <;> omega) (fun _ => Zk rfl) ?_
  refine Zc (wT rfl rfl rfl rfl) rfl (fun hg => (Z7 rfl rfl)) ?_
  refine Zc (wT rfl rfl rfl rfl) rfl (fun hg => (Z7 rfl rfl)) ?_
  refine Zc (wT rfl rfl rfl rfl) rfl (fun hg => (Z6 rfl (Z04 hg rfl) rfl (Zd (by omega)))) ?_
  refine Zc (wT rfl rfl rfl rfl) rfl (fun hg => (Z2 (u - 1) rfl (Z04 hg rfl) (Z04 hg rfl) (by (try simp at hg) <;> omega) (by (try simp at hg) <;> omega) (by omega))) ?_
  refine Zs (f := MRef.cells) 0 (wT rfl rfl rfl rfl) rfl rfl (fun hg => (Z04 hg rfl)) rfl (fun hg => by (try simp at hg) <;> omega) (fun _ => Zk rfl) ?_
  refine Zc (wT rfl rfl rfl rfl) rfl (fun hg => (Zq [] rfl (Z04 hg rfl) (Zj (Z04 hg rfl) (Zj (Z04 hg rfl) Z0e)) (Z0a _ _) List.nodup_nil)) ?_
  refine Zc (wT rfl rfl rfl rfl) rfl (fun hg => (Zb rfl (Z04 hg rfl) rfl rfl)) ?_
  refine Zc (wT rfl rfl rfl rfl) rfl (fun hg => (Z0m rfl (Z04 hg rfl))) ?_
  refine Za (w0 rfl) rfl (Z0l rfl rfl rfl (fun h => h)) ?_
  refine .done ?_
  refine Z3 ?_
  refine Ze rfl ?_ ?_
  ·intro hc
   have hle : u < b := by have := Z71 hc; simpa using this
   have hv := Z72 hc
   refine Zi ?_
   refine Zn ?_
   refine Z0 ?_
   refine aM rfl rfl rfl rfl ?_
   refine Z5 (w0 rfl) rfl (Z6 rfl rfl rfl (Z9 (by omega))) ?_
   refine aA rfl rfl rfl rfl ?_
   refine Z3 ?_
   refine ⟨(u + 1), ⟨by omega, by omega, hJ1.2.2.succ (Z8b hv)⟩, (by omega), ?_⟩
   exact Z8 [0] ⟨rfl, rfl, rfl, rfl, rfl, rfl, trivial⟩ rfl (by decide) rfl rfl
  ·intro hc
   refine Z05 ?_
   refine Z4 ?_
   refine Z4 ?_
   refine Z0 ?_
   refine aM rfl rfl rfl rfl ?_
   refine aM rfl rfl rfl rfl ?_
   refine Z5 (w0 rfl) rfl (Zb rfl rfl rfl rfl) ?_
   refine Z3 ?_
   refine Ze rfl ?_ ?_
   ·intro hc
    have heq : u = b := by simp at hc; omega
    refine Z4 ?_
    refine Z0 ?_
    refine aA rfl rfl rfl rfl ?_
    refine Z3 ?_
    refine Z02 ?_
    exact Zr rfl (Zy rfl Zu) (.cons_cons _ .slnil) (gp (x.1, true) ⟨hJ.1, fun _ => heq ▸ hJ1.2.2⟩ rfl rfl)
   ·intro hc
    have hne : u < b := by simp at hc; omega
    refine Zi ?_
    refine Z4 ?_
    refine Z4 ?_
    refine Z0 ?_
    refine aM rfl rfl rfl rfl ?_
    refine aM rfl rfl rfl rfl ?_
    refine Z5 (w0 rfl) rfl (Z6 rfl rfl rfl (Zd (by omega))) ?_
    refine Z5 (w0 rfl) rfl (Zb rfl rfl rfl rfl) ?_
    refine Z3 ?_
    refine Ze rfl ?_ ?_
    ·intro hc
     refine Z4 ?_
     refine Z0 ?_
     refine aA rfl rfl rfl rfl ?_
     refine Z3 ?_
     refine Z02 ?_
     exact Zr rfl (Zy rfl Zu) (.cons_cons _ .slnil) (gp (x.1, false) ⟨hJ.1, nofun⟩ rfl rfl)
    ·intro hc
     refine Zi ?_
     refine Z4 ?_
     refine Z0i [0, 0, 0, 0, 8, 0, 0, 64, 224, 480, 0, 0, 3072, 7168, 16355, 32739, 65535, 131071] [15, 17] [9, 13] rfl (by kernel_rfl) ?_
     refine wM rfl rfl rfl rfl rfl ?_
     refine wM rfl rfl rfl rfl rfl ?_
     refine wM rfl rfl rfl rfl rfl ?_
     refine wM rfl rfl rfl rfl rfl ?_
     refine Zg (w0 rfl) rfl (Z6 rfl rfl rfl (Zd (by omega))) rfl ?_
     refine wM rfl rfl rfl rfl rfl ?_
     refine wM rfl rfl rfl rfl rfl ?_
     refine Zg (w0 rfl) rfl (Z6 rfl rfl rfl (Zd (by omega))) rfl ?_
     refine Zg (w0 rfl) rfl (Z2 (u - 1) rfl rfl rfl (by omega) (by omega) (by omega)) rfl ?_
     refine Zf 0 (w0 rfl) rfl rfl rfl rfl (Zo (by omega)) (Zk rfl) rfl rfl ?_
     refine wM rfl rfl rfl rfl rfl ?_
     refine wM rfl rfl rfl rfl rfl ?_
     refine Zg (w0 rfl) rfl (Z2 u rfl rfl rfl (by omega) (by omega) (by omega)) rfl ?_
     refine Zf 0 (w0 rfl) rfl rfl rfl rfl (Zo (by omega)) (Zk rfl) rfl rfl ?_
     refine Zg (w0 rfl) rfl (Z2 u rfl rfl rfl (by omega) (by omega) (by omega)) rfl ?_
     refine Zl (f := MRef.cells) 0 (fun _ => rfl) (fun _ => rfl) (w0 rfl) rfl rfl rfl rfl (by first | omega | (simp; omega)) rfl rfl ?_
     refine Zg (w0 rfl) rfl (Z2 (u - 1) rfl rfl rfl (by omega) (by omega) (by omega)) rfl ?_
     refine Zl (f := MRef.cells) 0 (fun _ => rfl) (fun _ => rfl) (w0 rfl) rfl rfl rfl rfl (by first | omega | (simp; omega)) rfl rfl ?_
     refine .done ?_
     refine Z4 ?_
     refine Z4 ?_
     refine Z0 ?_
     refine aM rfl rfl rfl rfl ?_
     refine aM rfl rfl rfl rfl ?_
     refine Z5 (w0 rfl) rfl (Z6 rfl rfl rfl (Zd (by omega))) ?_
     refine Z5 (w0 rfl) rfl (Zb rfl rfl rfl rfl) ?_
     refine Z3 ?_
     refine Ze rfl ?_ ?_
     ·intro hc
      have hsw : Sw a b l (swp x.1 u (u - 1)) := .step _ _ hJ.1 (by omega) (by omega) (by omega)
      have hu2 : a + 2 ≤ u := by simp at hc; omega
      have hs0 : SAdj mLt a (u - 1) (swp x.1 u (u - 1)) := (hJ1.2.2.le (by omega)).swp_ge (by omega) (by omega) (by omega) (by omega)
      refine Z4 ?_
      refine Z0 ?_
      refine aM rfl rfl rfl rfl ?_
      refine Z5 (w0 rfl) rfl (Zz (y := iA (u - 1 : Nat)) (Z6 rfl rfl rfl (Zd (by omega))) (congrArg iA (by omega))) ?_
      refine aA rfl rfl rfl rfl ?_
      refine Z3 ?_
      refine Zn ?_
      refine Z06 (α := List MRef × Nat) (fun y => ⟨[(11, iA y.2), (9, iA u), (10, iA x.2.2), (0, .own q 3 0 n), (1, iA a), (2, iA b), (3, .fn (.func 11) [])], [(q, .rows 24 3 (y.1.map MRef.cells))], [], 141⟩) (fun y => Sw a b l y.1 ∧ a ≤ y.2 ∧ y.2 ≤ u - 1 ∧ Ins mLt a y.2 (u - 1) y.1) (fun y => y.2) ((swp x.1 u (u - 1)), u - 1) ⟨hsw, (by (try simp only) <;> omega), (by (try simp only) <;> omega), Ins.start hs0⟩ ?_ ?_
      ·exact Z8 [0] ⟨rfl, rfl, rfl, rfl, rfl, rfl, rfl, trivial⟩ rfl (by decide) rfl rfl
      rintro y hJ3
      have hm3 := hJ3.1.len
      refine Z4 ?_
      refine Z4 ?_
      refine Z0 ?_
      refine aM rfl rfl rfl rfl ?_
      refine Z5 (w0 rfl) rfl (Zb rfl rfl rfl rfl) ?_
      refine Z3 ?_
      refine Ze rfl ?_ ?_
      ·intro hc
       have hy1 : 1 ≤ y.2 := by simp at hc; omega
       refine Zi ?_
       refine Z4 ?_
       refine Zn ?_
       refine Z4 ?_
       refine Z4 ?_
       refine Z0d [0, 0, 0, 6, 14, 0, 0, 64, 224, 480, 1023, 2047, 4095] 13 rfl (by kernel_rfl) ?_
       refine cM rfl rfl rfl rfl ?_
       refine cM rfl rfl rfl rfl ?_
       refine cM rfl rfl rfl rfl ?_
       refine Za (w0 rfl) rfl (Z2 y.2 rfl rfl rfl (by omega) (by omega) (by omega)) ?_
       refine Zm 0 (w0 rfl) rfl rfl rfl rfl (Zo (by omega)) (Zk rfl) ?_
       refine cM rfl rfl rfl rfl ?_
       refine cM rfl rfl rfl rfl ?_
       refine Za (w0 rfl) rfl (Z6 rfl rfl rfl (Zd (by omega))) ?_
       refine Za (w0 rfl) rfl (Z2 (y.2 - 1) rfl rfl rfl (by omega) (by omega) (by omega)) ?_
       refine Zm 0 (w0 rfl) rfl rfl rfl rfl (Zo (by omega)) (Zk rfl) ?_
       refine Za (w0 rfl) rfl (Zq [] rfl rfl rfl (Z0a _ _) List.nodup_nil) ?_
       refine Za (w0 rfl) rfl (Zb rfl rfl rfl rfl) ?_
       refine Za (w0 rfl) rfl (Z0m rfl rfl) ?_
       refine .done ?_
       refine Z3 ?_
       refine Ze rfl ?_ ?_
       ·intro hc
        have hsw := hJ3.1
        have hsa : SAdj mLt a u y.1 := (hJ3.2.2.2.done (.inr (Z8b hc))).le (by omega)
        refine Z05 ?_
        refine Z4 ?_
        refine Z0 ?_
        refine aM rfl rfl rfl rfl ?_
        refine aM rfl rfl rfl rfl ?_
        refine Z5 (w0 rfl) rfl (Z6 rfl rfl rfl (Zd (by omega))) ?_
        refine Z5 (w0 rfl) rfl (Zb rfl rfl rfl rfl) ?_
        refine Z3 ?_
        refine Ze rfl ?_ ?_
        ·intro hc
         have hu3 : u + 2 ≤ b := by simp at hc; omega
         refine Z4 ?_
         refine Z0 ?_
         refine aM rfl rfl rfl rfl ?_
         refine Z5 (w0 rfl) rfl (Z6 rfl rfl rfl (Z9 (by omega))) ?_
         refine aA rfl rfl rfl rfl ?_
         refine Z3 ?_
         refine Zn ?_
         refine Z06 (α := List MRef × Nat) (fun w => ⟨[(12, iA w.2), (9, iA u), (10, iA x.2.2), (0, .own q 3 0 n), (1, iA a), (2, iA b), (3, .fn (.func 11) [])], [(q, .rows 24 3 (w.1.map MRef.cells))], [], 141⟩) (fun w => Sw a b l w.1 ∧ u + 1 ≤ w.2 ∧ w.2 ≤ b ∧ SAdj mLt a u w.1) (fun w => b - w.2) (y.1, u + 1) ⟨hsw, (by (try simp only) <;> omega), (by (try simp only) <;> omega), hsa⟩ ?_ ?_
         ·exact Z8 [0] ⟨rfl, rfl, rfl, rfl, rfl, rfl, rfl, trivial⟩ rfl (by decide) rfl rfl
         rintro w hJ4
         have hm4 := hJ4.1.len
         refine Z4 ?_
         refine Z4 ?_
         refine Z0 ?_
         refine aM rfl rfl rfl rfl ?_
         refine aM rfl rfl rfl rfl ?_
         refine Z5 (w0 rfl) rfl (Zb rfl rfl rfl rfl) ?_
         refine Z3 ?_
         refine Ze rfl ?_ ?_
         ·intro hc
          have hw1 : w.2 < b := by simpa using hc
          refine Zi ?_
          refine Z4 ?_
          refine Zn ?_
          refine Z4 ?_
          refine Z4 ?_
          refine Z0d [0, 0, 0, 6, 14, 0, 0, 64, 224, 480, 1023, 2047, 4095] 13 rfl (by kernel_rfl) ?_
          refine cM rfl rfl rfl rfl ?_
          refine cM rfl rfl rfl rfl ?_
          refine cM rfl rfl rfl rfl ?_
          refine Za (w0 rfl) rfl (Z2 w.2 rfl rfl rfl (by omega) (by omega) (by omega)) ?_
          refine Zm 0 (w0 rfl) rfl rfl rfl rfl (Zo (by omega)) (Zk rfl) ?_
          refine cM rfl rfl rfl rfl ?_
          refine cM rfl rfl rfl rfl ?_
          refine Za (w0 rfl) rfl (Z6 rfl rfl rfl (Zd (by omega))) ?_
          refine Za (w0 rfl) rfl (Z2 (w.2 - 1) rfl rfl rfl (by omega) (by omega) (by omega)) ?_
          refine Zm 0 (w0 rfl) rfl rfl rfl rfl (Zo (by omega)) (Zk rfl) ?_
          refine Za (w0 rfl) rfl (Zq [] rfl rfl rfl (Z0a _ _) List.nodup_nil) ?_
          refine Za (w0 rfl) rfl (Zb rfl rfl rfl rfl) ?_
          refine Za (w0 rfl) rfl (Z0m rfl rfl) ?_
          refine .done ?_
          refine Z3 ?_
          refine Ze rfl ?_ ?_
          ·intro hc
           have hsw := hJ4.1
           have hsa := hJ4.2.2.2
           refine Z05 ?_
           refine Z0 ?_
           refine aM rfl rfl rfl rfl ?_
           refine Z5 (w0 rfl) rfl (Z6 rfl rfl rfl (Z9 (by omega))) ?_
           refine aA rfl rfl rfl rfl ?_
           refine Z3 ?_
           refine ⟨(w.1, u, x.2.2 + 1), ⟨hsw, (by (try simp only) <;> omega), (by (try simp only) <;> omega), (by (try simp only) <;> omega), hsa⟩, (by (try simp only) <;> omega), ?_⟩
           exact Z8 [0] ⟨rfl, rfl, rfl, rfl, rfl, rfl, trivial⟩ rfl (by decide) rfl rfl
          ·intro hc
           refine Zi ?_
           refine Z0i [0, 0, 0, 0, 8, 0, 0, 64, 224, 480, 0, 0, 3072, 7168, 16355, 32739, 65535, 131071] [15, 17] [9, 13] rfl (by kernel_rfl) ?_
           refine wM rfl rfl rfl rfl rfl ?_
           refine wM rfl rfl rfl rfl rfl ?_
           refine wM rfl rfl rfl rfl rfl ?_
           refine wM rfl rfl rfl rfl rfl ?_
           refine Zg (w0 rfl) rfl (Z6 rfl rfl rfl (Zd (by omega))) rfl ?_
           refine wM rfl rfl rfl rfl rfl ?_
           refine wM rfl rfl rfl rfl rfl ?_
           refine Zg (w0 rfl) rfl (Z6 rfl rfl rfl (Zd (by omega))) rfl ?_
           refine Zg (w0 rfl) rfl (Z2 (w.2 - 1) rfl rfl rfl (by omega) (by omega) (by omega)) rfl ?_
           refine Zf 0 (w0 rfl) rfl rfl rfl rfl (Zo (by omega)) (Zk rfl) rfl rfl ?_
           refine wM rfl rfl rfl rfl rfl ?_
           refine wM rfl rfl rfl rfl rfl ?_
           refine Zg (w0 rfl) rfl (Z2 w.2 rfl rfl rfl (by omega) (by omega) (by omega)) rfl ?_
           refine Zf 0 (w0 rfl) rfl rfl rfl rfl (Zo (by omega)) (Zk rfl) rfl rfl ?_
           refine Zg (w0 rfl) rfl (Z2 w.2 rfl rfl rfl (by omega) (by omega) (by omega)) rfl ?_
           refine Zl (f := MRef.cells) 0 (fun _ => rfl) (fun _ => rfl) (w0 rfl) rfl rfl rfl rfl (by first | omega | (simp; omega)) rfl rfl ?_
           refine Zg (w0 rfl) rfl (Z2 (w.2 - 1) rfl rfl rfl (by omega) (by omega) (by omega)) rfl ?_
           refine Zl (f := MRef.cells) 0 (fun _ => rfl) (fun _ => rfl) (w0 rfl) rfl rfl rfl rfl (by first | omega | (simp; omega)) rfl rfl ?_
           refine .done ?_
           refine Z0 ?_
           refine aM rfl rfl rfl rfl ?_
           refine Z5 (w0 rfl) rfl (Z6 rfl rfl rfl (Z9 (by omega))) ?_
           refine aA rfl rfl rfl rfl ?_
           refine Z3 ?_
           refine ⟨(swp w.1 w.2 (w.2 - 1), w.2 + 1), ⟨.step _ _ hJ4.1 (by (try simp only) <;> omega) (by (try simp only) <;> omega) (by (try simp only) <;> omega), (by (try simp only) <;> omega), (by (try simp only) <;> omega), hJ4.2.2.2.swp_ge (by (try simp only) <;> omega) (by (try simp only) <;> omega) (by (try simp only) <;> omega) (by (try simp only) <;> omega)⟩, (by (try simp only) <;> omega), ?_⟩
           exact Z8 [0] ⟨rfl, rfl, rfl, rfl, rfl, rfl, rfl, trivial⟩ rfl (by decide) rfl rfl
         ·intro hc
          have hsw := hJ4.1
          have hsa := hJ4.2.2.2
          refine Z05 ?_
          refine Z0 ?_
          refine aM rfl rfl rfl rfl ?_
          refine Z5 (w0 rfl) rfl (Z6 rfl rfl rfl (Z9 (by omega))) ?_
          refine aA rfl rfl rfl rfl ?_
          refine Z3 ?_
          refine ⟨(w.1, u, x.2.2 + 1), ⟨hsw, (by (try simp only) <;> omega), (by (try simp only) <;> omega), (by (try simp only) <;> omega), hsa⟩, (by (try simp only) <;> omega), ?_⟩
          exact Z8 [0] ⟨rfl, rfl, rfl, rfl, rfl, rfl, trivial⟩ rfl (by decide) rfl rfl
        ·intro hc
         refine Zi ?_
         refine Z0 ?_
         refine aM rfl rfl rfl rfl ?_
         refine Z5 (w0 rfl) rfl (Z6 rfl rfl rfl (Z9 (by omega))) ?_
         refine aA rfl rfl rfl rfl ?_
         refine Z3 ?_
         refine ⟨(y.1, u, x.2.2 + 1), ⟨hsw, (by (try simp only) <;> omega), (by (try simp only) <;> omega), (by (try simp only) <;> omega), hsa⟩, (by (try simp only) <;> omega), ?_⟩
         exact Z8 [0] ⟨rfl, rfl, rfl, rfl, rfl, rfl, trivial⟩ rfl (by decide) rfl rfl
       ·intro hc
        have hlt := Zcj hc
        have hgt := (hbd.sw hJ3.1).gt (j := y.2) (by omega) (by omega) hy1 hlt
        refine Zi ?_
        refine Z0i [0, 0, 0, 0, 8, 0, 0, 64, 224, 480, 0, 0, 3072, 7168, 16355, 32739, 65535, 131071] [15, 17] [9, 13] rfl (by kernel_rfl) ?_
        refine wM rfl rfl rfl rfl rfl ?_
        refine wM rfl rfl rfl rfl rfl ?_
        refine wM rfl rfl rfl rfl rfl ?_
        refine wM rfl rfl rfl rfl rfl ?_
        refine Zg (w0 rfl) rfl (Z6 rfl rfl rfl (Zd (by omega))) rfl ?_
        refine wM rfl rfl rfl rfl rfl ?_
        refine wM rfl rfl rfl rfl rfl ?_
        refine Zg (w0 rfl) rfl (Z6 rfl rfl rfl (Zd (by omega))) rfl ?_
        refine Zg (w0 rfl) rfl (Z2 (y.2 - 1) rfl rfl rfl (by omega) (by omega) (by omega)) rfl ?_
        refine Zf 0 (w0 rfl) rfl rfl rfl rfl (Zo (by omega)) (Zk rfl) rfl rfl ?_
        refine wM rfl rfl rfl rfl rfl ?_
        refine wM rfl rfl rfl rfl rfl ?_
        refine Zg (w0 rfl) rfl (Z2 y.2 rfl rfl rfl (by omega) (by omega) (by omega)) rfl ?_
        refine Zf 0 (w0 rfl) rfl rfl rfl rfl (Zo (by omega)) (Zk rfl) rfl rfl ?_
        refine Zg (w0 rfl) rfl (Z2 y.2 rfl rfl rfl (by omega) (by omega) (by omega)) rfl ?_
        refine Zl (f := MRef.cells) 0 (fun _ => rfl) (fun _ => rfl) (w0 rfl) rfl rfl rfl rfl (by first | omega | (simp; omega)) rfl rfl ?_
        refine Zg (w0 rfl) rfl (Z2 (y.2 - 1) rfl rfl rfl (by omega) (by omega) (by omega)) rfl ?_
        refine Zl (f := MRef.cells) 0 (fun _ => rfl) (fun _ => rfl) (w0 rfl) rfl rfl rfl rfl (by first | omega | (simp; omega)) rfl rfl ?_
        refine .done ?_
        refine Z0 ?_
        refine aM rfl rfl rfl rfl ?_
        refine Z5 (w0 rfl) rfl (Z6 rfl rfl rfl (Zd (by omega))) ?_
        refine aA rfl rfl rfl rfl ?_
        refine Z3 ?_
        refine ⟨(swp y.1 y.2 (y.2 - 1), y.2 - 1), ⟨.step _ _ hJ3.1 (by (try simp only) <;> omega) (by (try simp only) <;> omega) (by (try simp only) <;> omega), (by (try simp only) <;> omega), (by (try simp only) <;> omega), hJ3.2.2.2.step mLtT.ok hgt (by (try simp only) <;> omega) (by (try simp only) <;> omega) hlt⟩, (by (try simp only) <;> omega), ?_⟩
        exact Z8 [0] ⟨(congrArg (fun n => some (iA n)) (by (try simp only) <;> omega)), rfl, rfl, rfl, rfl, rfl, rfl, trivial⟩ rfl (by decide) rfl rfl
      ·intro hc
       have hy0 : y.2 = 0 := by simp at hc; omega
       have hsw := hJ3.1
       have hsa : SAdj mLt a u y.1 := (hJ3.2.2.2.done (.inl (by omega))).le (by omega)
       refine Z05 ?_
       refine Z4 ?_
       refine Z0 ?_
       refine aM rfl rfl rfl rfl ?_
       refine aM rfl rfl rfl rfl ?_
       refine Z5 (w0 rfl) rfl (Z6 rfl rfl rfl (Zd (by omega))) ?_
       refine Z5 (w0 rfl) rfl (Zb rfl rfl rfl rfl) ?_
       refine Z3 ?_
       refine Ze rfl ?_ ?_
       ·intro hc
        have hu3 : u + 2 ≤ b := by simp at hc; omega
        refine Z4 ?_
        refine Z0 ?_
        refine aM rfl rfl rfl rfl ?_
        refine Z5 (w0 rfl) rfl (Z6 rfl rfl rfl (Z9 (by omega))) ?_
        refine aA rfl rfl rfl rfl ?_
        refine Z3 ?_
        refine Zn ?_
        refine Z06 (α := List MRef × Nat) (fun w => ⟨[(12, iA w.2), (9, iA u), (10, iA x.2.2), (0, .own q 3 0 n), (1, iA a), (2, iA b), (3, .fn (.func 11) [])], [(q, .rows 24 3 (w.1.map MRef.cells))], [], 141⟩) (fun w => Sw a b l w.1 ∧ u + 1 ≤ w.2 ∧ w.2 ≤ b ∧ SAdj mLt a u w.1) (fun w => b - w.2) (y.1, u + 1) ⟨hsw, (by (try simp only) <;> omega), (by (try simp only) <;> omega), hsa⟩ ?_ ?_
        ·exact Z8 [0] ⟨rfl, rfl, rfl, rfl, rfl, rfl, rfl, trivial⟩ rfl (by decide) rfl rfl
        rintro w hJ4
        have hm4 := hJ4.1.len
        refine Z4 ?_
        refine Z4 ?_
        refine Z0 ?_
        refine aM rfl rfl rfl rfl ?_
        refine aM rfl rfl rfl rfl ?_
        refine Z5 (w0 rfl) rfl (Zb rfl rfl rfl rfl) ?_
        refine Z3 ?_
        refine Ze rfl ?_ ?_
        ·intro hc
         have hw1 : w.2 < b := by simpa using hc
         refine Zi ?_
         refine Z4 ?_
         refine Zn ?_
         refine Z4 ?_
         refine Z4 ?_
         refine Z0d [0, 0, 0, 6, 14, 0, 0, 64, 224, 480, 1023, 2047, 4095] 13 rfl (by kernel_rfl) ?_
         refine cM rfl rfl rfl rfl ?_
         refine cM rfl rfl rfl rfl ?_
         refine cM rfl rfl rfl rfl ?_
         refine Za (w0 rfl) rfl (Z2 w.2 rfl rfl rfl (by omega) (by omega) (by omega)) ?_
         refine Zm 0 (w0 rfl) rfl rfl rfl rfl (Zo (by omega)) (Zk rfl) ?_
         refine cM rfl rfl rfl rfl ?_
         refine cM rfl rfl rfl rfl ?_
         refine Za (w0 rfl) rfl (Z6 rfl rfl rfl (Zd (by omega))) ?_
         refine Za (w0 rfl) rfl (Z2 (w.2 - 1) rfl rfl rfl (by omega) (by omega) (by omega)) ?_
         refine Zm 0 (w0 rfl) rfl rfl rfl rfl (Zo (by omega)) (Zk rfl) ?_
         refine Za (w0 rfl) rfl (Zq [] rfl rfl rfl (Z0a _ _) List.nodup_nil) ?_
         refine Za (w0 rfl) rfl (Zb rfl rfl rfl rfl) ?_
         refine Za (w0 rfl) rfl (Z0m rfl rfl) ?_
         refine .done ?_
         refine Z3 ?_
         refine Ze rfl ?_ ?_
         ·intro hc
          have hsw := hJ4.1
          have hsa := hJ4.2.2.2
          refine Z05 ?_
          refine Z0 ?_
          refine aM rfl rfl rfl rfl ?_
          refine Z5 (w0 rfl) rfl (Z6 rfl rfl rfl (Z9 (by omega))) ?_
          refine aA rfl rfl rfl rfl ?_
          refine Z3 ?_
          refine ⟨(w.1, u, x.2.2 + 1), ⟨hsw, (by (try simp only) <;> omega), (by (try simp only) <;> omega), (by (try simp only) <;> omega), hsa⟩, (by (try simp only) <;> omega), ?_⟩
          exact Z8 [0] ⟨rfl, rfl, rfl, rfl, rfl, rfl, trivial⟩ rfl (by decide) rfl rfl
         ·intro hc
          refine Zi ?_
          refine Z0i [0, 0, 0, 0, 8, 0, 0, 64, 224, 480, 0, 0, 3072, 7168, 16355, 32739, 65535, 131071] [15, 17] [9, 13] rfl (by kernel_rfl) ?_
          refine wM rfl rfl rfl rfl rfl ?_
          refine wM rfl rfl rfl rfl rfl ?_
          refine wM rfl rfl rfl rfl rfl ?_
          refine wM rfl rfl rfl rfl rfl ?_
          refine Zg (w0 rfl) rfl (Z6 rfl rfl rfl (Zd (by omega))) rfl ?_
          refine wM rfl rfl rfl rfl rfl ?_
          refine wM rfl rfl rfl rfl rfl ?_
          refine Zg (w0 rfl) rfl (Z6 rfl rfl rfl (Zd (by omega))) rfl ?_
          refine Zg (w0 rfl) rfl (Z2 (w.2 - 1) rfl rfl rfl (by omega) (by omega) (by omega)) rfl ?_
          refine Zf 0 (w0 rfl) rfl rfl rfl rfl (Zo (by omega)) (Zk rfl) rfl rfl ?_
          refine wM rfl rfl rfl rfl rfl ?_
          refine wM rfl rfl rfl rfl rfl ?_
          refine Zg (w0 rfl) rfl (Z2 w.2 rfl rfl rfl (by omega) (by omega) (by omega)) rfl ?_
          refine Zf 0 (w0 rfl) rfl rfl rfl rfl (Zo (by omega)) (Zk rfl) rfl rfl ?_
          refine Zg (w0 rfl) rfl (Z2 w.2 rfl rfl rfl (by omega) (by omega) (by omega)) rfl ?_
          refine Zl (f := MRef.cells) 0 (fun _ => rfl) (fun _ => rfl) (w0 rfl) rfl rfl rfl rfl (by first | omega | (simp; omega)) rfl rfl ?_
          refine Zg (w0 rfl) rfl (Z2 (w.2 - 1) rfl rfl rfl (by omega) (by omega) (by omega)) rfl ?_
          refine Zl (f := MRef.cells) 0 (fun _ => rfl) (fun _ => rfl) (w0 rfl) rfl rfl rfl rfl (by first | omega | (simp; omega)) rfl rfl ?_
          refine .done ?_
          refine Z0 ?_
          refine aM rfl rfl rfl rfl ?_
          refine Z5 (w0 rfl) rfl (Z6 rfl rfl rfl (Z9 (by omega))) ?_
          refine aA rfl rfl rfl rfl ?_
          refine Z3 ?_
          refine ⟨(swp w.1 w.2 (w.2 - 1), w.2 + 1), ⟨.step _ _ hJ4.1 (by (try simp only) <;> omega) (by (try simp only) <;> omega) (by (try simp only) <;> omega), (by (try simp only) <;> omega), (by (try simp only) <;> omega), hJ4.2.2.2.swp_ge (by (try simp only) <;> omega) (by (try simp only) <;> omega) (by (try simp only) <;> omega) (by (try simp only) <;> omega)⟩, (by (try simp only) <;> omega), ?_⟩
          exact Z8 [0] ⟨rfl, rfl, rfl, rfl, rfl, rfl, rfl, trivial⟩ rfl (by decide) rfl rfl
        ·intro hc
         have hsw := hJ4.1
         have hsa := hJ4.2.2.2
         refine Z05 ?_
         refine Z0 ?_
         refine aM rfl rfl rfl rfl ?_
         refine Z5 (w0 rfl) rfl (Z6 rfl rfl rfl (Z9 (by omega))) ?_
         refine aA rfl rfl rfl rfl ?_
         refine Z3 ?_
         refine ⟨(w.1, u, x.2.2 + 1), ⟨hsw, (by (try simp only) <;> omega), (by (try simp only) <;> omega), (by (try simp only) <;> omega), hsa⟩, (by (try simp only) <;> omega), ?_⟩
         exact Z8 [0] ⟨rfl, rfl, rfl, rfl, rfl, rfl, trivial⟩ rfl (by decide) rfl rfl
       ·intro hc
        refine Zi ?_
        refine Z0 ?_
        refine aM rfl rfl rfl rfl ?_
        refine Z5 (w0 rfl) rfl (Z6 rfl rfl rfl (Z9 (by omega))) ?_
        refine aA rfl rfl rfl rfl ?_
        refine Z3 ?_
        refine ⟨(y.1, u, x.2.2 + 1), ⟨hsw, (by (try simp only) <;> omega), (by (try simp only) <;> omega), (by (try simp only) <;> omega), hsa⟩, (by (try simp only) <;> omega), ?_⟩
        exact Z8 [0] ⟨rfl, rfl, rfl, rfl, rfl, rfl, trivial⟩ rfl (by decide) rfl rfl
     ·intro hc
      have hsw : Sw a b l (swp x.1 u (u - 1)) := .step _ _ hJ.1 (by omega) (by omega) (by omega)
      have hu2 : u = a + 1 := by simp at hc; omega
      have hsa : SAdj mLt a u (swp x.1 u (u - 1)) := SAdj.refl1 (by omega)
      refine Zi ?_
      refine Z4 ?_
      refine Z0 ?_
      refine aM rfl rfl rfl rfl ?_
      refine aM rfl rfl rfl rfl ?_
      refine Z5 (w0 rfl) rfl (Z6 rfl rfl rfl (Zd (by omega))) ?_
      refine Z5 (w0 rfl) rfl (Zb rfl rfl rfl rfl) ?_
      refine Z3 ?_
      refine Ze rfl ?_ ?_
      ·intro hc
       have hu3 : u + 2 ≤ b := by simp at hc; omega
       refine Z4 ?_
       refine Z0 ?_
       refine aM rfl rfl rfl rfl ?_
       refine Z5 (w0 rfl) rfl (Z6 rfl rfl rfl (Z9 (by omega))) ?_
       refine aA rfl rfl rfl rfl ?_
       refine Z3 ?_
       refine Zn ?_
       refine Z06 (α := List MRef × Nat) (fun w => ⟨[(12, iA w.2), (9, iA u), (10, iA x.2.2), (0, .own q 3 0 n), (1, iA a), (2, iA b), (3, .fn (.func 11) [])], [(q, .rows 24 3 (w.1.map MRef.cells))], [], 141⟩) (fun w => Sw a b l w.1 ∧ u + 1 ≤ w.2 ∧ w.2 ≤ b ∧ SAdj mLt a u w.1) (fun w => b - w.2) ((swp x.1 u (u - 1)), u + 1) ⟨hsw, (by (try simp only) <;> omega), (by (try simp only) <;> omega), hsa⟩ ?_ ?_
       ·exact Z8 [0] ⟨rfl, rfl, rfl, rfl, rfl, rfl, rfl, trivial⟩ rfl (by decide) rfl rfl
       rintro w hJ4
       have hm4 := hJ4.1.len
       refine Z4 ?_
       refine Z4 ?_
       refine Z0 ?_
       refine aM rfl rfl rfl rfl ?_
       refine aM rfl rfl rfl rfl ?_
       refine Z5 (w0 rfl) rfl (Zb rfl rfl rfl rfl) ?_
       refine Z3 ?_
       refine Ze rfl ?_ ?_
       ·intro hc
        have hw1 : w.2 < b := by simpa using hc
        refine Zi ?_
        refine Z4 ?_
        refine Zn ?_
        refine Z4 ?_
        refine Z4 ?_
        refine Z0d [0, 0, 0, 6, 14, 0, 0, 64, 224, 480, 1023, 2047, 4095] 13 rfl (by kernel_rfl) ?_
        refine cM rfl rfl rfl rfl ?_
        refine cM rfl rfl rfl rfl ?_
        refine cM rfl rfl rfl rfl ?_
        refine Za (w0 rfl) rfl (Z2 w.2 rfl rfl rfl (by omega) (by omega) (by omega)) ?_
        refine Zm 0 (w0 rfl) rfl rfl rfl rfl (Zo (by omega)) (Zk rfl) ?_
        refine cM rfl rfl rfl rfl ?_
        refine cM rfl rfl rfl rfl ?_
        refine Za (w0 rfl) rfl (Z6 rfl rfl rfl (Zd (by omega))) ?_
        refine Za (w0 rfl) rfl (Z2 (w.2 - 1) rfl rfl rfl (by omega) (by omega) (by omega)) ?_
        refine Zm 0 (w0 rfl) rfl rfl rfl rfl (Zo (by omega)) (Zk rfl) ?_
        refine Za (w0 rfl) rfl (Zq [] rfl rfl rfl (Z0a _ _) List.nodup_nil) ?_
        refine Za (w0 rfl) rfl (Zb rfl rfl rfl rfl) ?_
        refine Za (w0 rfl) rfl (Z0m rfl rfl) ?_
        refine .done ?_
        refine Z3 ?_
        refine Ze rfl ?_ ?_
        ·intro hc
         have hsw := hJ4.1
         have hsa := hJ4.2.2.2
         refine Z05 ?_
         refine Z0 ?_
         refine aM rfl rfl rfl rfl ?_
         refine Z5 (w0 rfl) rfl (Z6 rfl rfl rfl (Z9 (by omega))) ?_
         refine aA rfl rfl rfl rfl ?_
         refine Z3 ?_
         refine ⟨(w.1, u, x.2.2 + 1), ⟨hsw, (by (try simp only) <;> omega), (by (try simp only) <;> omega), (by (try simp only) <;> omega), hsa⟩, (by (try simp only) <;> omega), ?_⟩
         exact Z8 [0] ⟨rfl, rfl, rfl, rfl, rfl, rfl, trivial⟩ rfl (by decide) rfl rfl
        ·intro hc
         refine Zi ?_
         refine Z0i [0, 0, 0, 0, 8, 0, 0, 64, 224, 480, 0, 0, 3072, 7168, 16355, 32739, 65535, 131071] [15, 17] [9, 13] rfl (by kernel_rfl) ?_
         refine wM rfl rfl rfl rfl rfl ?_
         refine wM rfl rfl rfl rfl rfl ?_
         refine wM rfl rfl rfl rfl rfl ?_
         refine wM rfl rfl rfl rfl rfl ?_
         refine Zg (w0 rfl) rfl (Z6 rfl rfl rfl (Zd (by omega))) rfl ?_
         refine wM rfl rfl rfl rfl rfl ?_
         refine wM rfl rfl rfl rfl rfl ?_
         refine Zg (w0 rfl) rfl (Z6 rfl rfl rfl (Zd (by omega))) rfl ?_
         refine Zg (w0 rfl) rfl (Z2 (w.2 - 1) rfl rfl rfl (by omega) (by omega) (by omega)) rfl ?_
         refine Zf 0 (w0 rfl) rfl rfl rfl rfl (Zo (by omega)) (Zk rfl) rfl rfl ?_
         refine wM rfl rfl rfl rfl rfl ?_
         refine wM rfl rfl rfl rfl rfl ?_
         refine Zg (w0 rfl) rfl (Z2 w.2 rfl rfl rfl (by omega) (by omega) (by omega)) rfl ?_
         refine Zf 0 (w0 rfl) rfl rfl rfl rfl (Zo (by omega)) (Zk rfl) rfl rfl ?_
         refine Zg (w0 rfl) rfl (Z2 w.2 rfl rfl rfl (by omega) (by omega) (by omega)) rfl ?_
         refine Zl (f := MRef.cells) 0 (fun _ => rfl) (fun _ => rfl) (w0 rfl) rfl rfl rfl rfl (by first | omega | (simp; omega)) rfl rfl ?_
         refine Zg (w0 rfl) rfl (Z2 (w.2 - 1) rfl rfl rfl (by omega) (by omega) (by omega)) rfl ?_
         refine Zl (f := MRef.cells) 0 (fun _ => rfl) (fun _ => rfl) (w0 rfl) rfl rfl rfl rfl (by first | omega | (simp; omega)) rfl rfl ?_
         refine .done ?_
         refine Z0 ?_
         refine aM rfl rfl rfl rfl ?_
         refine Z5 (w0 rfl) rfl (Z6 rfl rfl rfl (Z9 (by omega))) ?_
         refine aA rfl rfl rfl rfl ?_
         refine Z3 ?_
         refine ⟨(swp w.1 w.2 (w.2 - 1), w.2 + 1), ⟨.step _ _ hJ4.1 (by (try simp only) <;> omega) (by (try simp only) <;> omega) (by (try simp only) <;> omega), (by (try simp only) <;> omega), (by (try simp only) <;> omega), hJ4.2.2.2.swp_ge (by (try simp only) <;> omega) (by (try simp only) <;> omega) (by (try simp only) <;> omega) (by (try simp only) <;> omega)⟩, (by (try simp only) <;> omega), ?_⟩
         exact Z8 [0] ⟨rfl, rfl, rfl, rfl, rfl, rfl, rfl, trivial⟩ rfl (by decide) rfl rfl
       ·intro hc
        have hsw := hJ4.1
        have hsa := hJ4.2.2.2
        refine Z05 ?_
        refine Z0 ?_
        refine aM rfl rfl rfl rfl ?_
        refine Z5 (w0 rfl) rfl (Z6 rfl rfl rfl (Z9 (by omega))) ?_
        refine aA rfl rfl rfl rfl ?_
        refine Z3 ?_
        refine ⟨(w.1, u, x.2.2 + 1), ⟨hsw, (by (try simp only) <;> omega), (by (try simp only) <;> omega), (by (try simp only) <;> omega), hsa⟩, (by (try simp only) <;> omega), ?_⟩
        exact Z8 [0] ⟨rfl, rfl, rfl, rfl, rfl, rfl, trivial⟩ rfl (by decide) rfl rfl
      ·intro hc
       refine Zi ?_
       refine Z0 ?_
       refine aM rfl rfl rfl rfl ?_
       refine Z5 (w0 rfl) rfl (Z6 rfl rfl rfl (Z9 (by omega))) ?_
       refine aA rfl rfl rfl rfl ?_
       refine Z3 ?_
       refine ⟨((swp x.1 u (u - 1)), u, x.2.2 + 1), ⟨hsw, (by (try simp only) <;> omega), (by (try simp only) <;> omega), (by (try simp only) <;> omega), hsa⟩, (by (try simp only) <;> omega), ?_⟩
       exact Z8 [0] ⟨rfl, rfl, rfl, rfl, rfl, rfl, trivial⟩ rfl (by decide) rfl rfl
 ·intro hc
  refine Z05 ?_
  refine Z4 ?_
  refine Z0 ?_
  refine aA rfl rfl rfl rfl ?_
  refine Z3 ?_
  refine Z02 ?_
  exact Zr rfl (Zy rfl Zu) (.cons_cons _ .slnil) (gp (x.1, false) ⟨hJ.1, nofun⟩ rfl rfl)
theorem Zex (x : Nat) (hx : x < 18446744073709551616) : ACalls Tryz.prog 137 [xA x] [] (GSome (fun k : Nat => iA k) (fun k => k ≤ 64 ∧ (0 < x → 2 ^ k ≤ 2 * x))) := by
 refine Zw (n := 25) Tryz.func137 rfl (by decide +kernel) rfl rfl ?_
 refine Z4 ?_
 refine Z0 ?_
 refine Z5 (w0 rfl) rfl (Zz (y := iA (0 : Nat)) (Zp rfl rfl) (rfl)) ?_
 refine Z3 ?_
 refine Z4 ?_
 refine Z4 ?_
 refine Z0 ?_
 refine aM rfl rfl rfl rfl ?_
 refine Z5 (w0 rfl) rfl (Zb rfl rfl rfl rfl) ?_
 refine Z3 ?_
 refine Ze rfl ?_ ?_
 ·intro hc
  refine Z4 ?_
  refine Z0 ?_
  refine aM rfl rfl rfl rfl ?_
  refine Z5 (w0 rfl) rfl (Zz (y := xA (x / 2 ^ 32 : Nat)) (Z2a rfl rfl rfl (by decide)) (congrArg xA (Zfq x 32 (by decide)))) ?_
  refine aA rfl rfl rfl rfl ?_
  refine Z3 ?_
  refine Z0 ?_
  refine Z5 (w0 rfl) rfl (Zz (y := iA (32 : Nat)) (Zp rfl rfl) (rfl)) ?_
  refine Z3 ?_
  refine Z4 ?_
  refine Z4 ?_
  refine Z09 0 rfl (fun y1 hy1 => ?_)
  refine Z09 2 rfl (fun n1 hn1 => ?_)
  have j1 : LenJ x y1 n1 := by rw [hy1, hn1]; exact LenJ.shr (LenJ.start x) 32 (by have := hc; simp at this; omega)
  have b1 : y1 < 4294967296 := by rw [hy1]; simp at hc; omega
  have e1 : n1 ≤ 32 := by rw [hn1]; omega
  refine Z0 ?_
  refine aM rfl rfl rfl rfl ?_
  refine Z5 (w0 rfl) rfl (Zb rfl rfl rfl rfl) ?_
  refine Z3 ?_
  refine Ze rfl ?_ ?_
  ·intro hc
   refine Z4 ?_
   refine Z0 ?_
   refine aM rfl rfl rfl rfl ?_
   refine Z5 (w0 rfl) rfl (Zz (y := xA (y1 / 2 ^ 16 : Nat)) (Z2a rfl rfl rfl (by decide)) (congrArg xA (Zfq y1 16 (by decide)))) ?_
   refine aA rfl rfl rfl rfl ?_
   refine Z3 ?_
   refine Z0 ?_
   refine aM rfl rfl rfl rfl ?_
   refine Z5 (w0 rfl) rfl (Zz (y := iA (n1 + 16 : Nat)) (Z6 rfl rfl rfl (Z9 (by omega))) (congrArg iA (by omega))) ?_
   refine aA rfl rfl rfl rfl ?_
   refine Z3 ?_
   refine Z4 ?_
   refine Z4 ?_
   refine Z09 0 rfl (fun y2 hy2 => ?_)
   refine Z09 2 rfl (fun n2 hn2 => ?_)
   have j2 : LenJ x y2 n2 := by rw [hy2, hn2]; exact LenJ.shr j1 16 (by have := hc; simp at this; omega)
   have b2 : y2 < 65536 := by rw [hy2]; simp at hc; omega
   have e2 : n2 ≤ 48 := by rw [hn2]; omega
   refine Z0 ?_
   refine aM rfl rfl rfl rfl ?_
   refine Z5 (w0 rfl) rfl (Zb rfl rfl rfl rfl) ?_
   refine Z3 ?_
   refine Ze rfl ?_ ?_
   ·intro hc
    refine Z4 ?_
    refine Z0 ?_
    refine aM rfl rfl rfl rfl ?_
    refine Z5 (w0 rfl) rfl (Zz (y := xA (y2 / 2 ^ 8 : Nat)) (Z2a rfl rfl rfl (by decide)) (congrArg xA (Zfq y2 8 (by decide)))) ?_
    refine aA rfl rfl rfl rfl ?_
    refine Z3 ?_
    refine Z0 ?_
    refine aM rfl rfl rfl rfl ?_
    refine Z5 (w0 rfl) rfl (Zz (y := iA (n2 + 8 : Nat)) (Z6 rfl rfl rfl (Z9 (by omega))) (congrArg iA (by omega))) ?_
    refine aA rfl rfl rfl rfl ?_
    refine Z3 ?_
    refine Z4 ?_
    refine Z09 0 rfl (fun y3 hy3 => ?_)
    refine Z09 2 rfl (fun n3 hn3 => ?_)
    have j3 : LenJ x y3 n3 := by rw [hy3, hn3]; exact LenJ.shr j2 8 (by have := hc; simp at this; omega)
    have b3 : y3 < 256 := by rw [hy3]; simp at hc; omega
    have e3 : n3 ≤ 56 := by rw [hn3]; omega
    refine Z0 ?_
    refine aM rfl rfl rfl rfl ?_
    refine aM rfl rfl rfl rfl ?_
    refine Z5 (w0 rfl) rfl (Zz (y := uA (y3 : Nat)) (Z00 rfl rfl) (congrArg uA (Z2l (by omega)))) ?_
    refine Z5 (w0 rfl) rfl (Zz (y := uA (byteAt len8 (y3 : Nat))) (Z0w rfl rfl rfl (by first | (exact Z0z (by decide +kernel) (by omega)) | omega) (by first | (exact Z0z (by decide +kernel) (by omega)) | omega)) (Z1h (by decide +kernel) _)) ?_
    refine Z5 (w0 rfl) rfl (Zz (y := iA (byteAt len8 (y3 : Nat))) (Z00 rfl rfl) (congrArg iA (Z0s (by have := Z0b ⟨y3, b3⟩; simp only at this; omega)))) ?_
    refine Z5 (w0 rfl) rfl (Z6 rfl rfl rfl (Z9 (by (have := Z0b ⟨y3, b3⟩; simp only at this; omega)))) ?_
    refine aA rfl rfl rfl rfl ?_
    refine Z3 ?_
    refine Z02 ?_
    exact Z69 rfl (Zy rfl Zu) (Z5x (n3 + (byteAt len8 (y3 : Nat)).toNat) ⟨by have := Z0b ⟨y3, b3⟩; simp only at this; omega, fun hx => j3.fin (Z0b ⟨y3, b3⟩).2.2 hx⟩ (congrArg iA (by have := Z0b ⟨y3, b3⟩; simp only at this; omega)))
   ·intro hc
    refine Zi ?_
    refine Z4 ?_
    refine Z09 0 rfl (fun y3 hy3 => ?_)
    refine Z09 2 rfl (fun n3 hn3 => ?_)
    have j3 : LenJ x y3 n3 := by rw [hy3, hn3]; exact j2
    have b3 : y3 < 256 := by rw [hy3]; simp at hc; omega
    have e3 : n3 ≤ 56 := by rw [hn3]; omega
    refine Z0 ?_
    refine aM rfl rfl rfl rfl ?_
    refine aM rfl rfl rfl rfl ?_
    refine Z5 (w0 rfl) rfl (Zz (y := uA (y3 : Nat)) (Z00 rfl rfl) (congrArg uA (Z2l (by omega)))) ?_
    refine Z5 (w0 rfl) rfl (Zz (y := uA (byteAt len8 (y3 : Nat))) (Z0w rfl rfl rfl (by first | (exact Z0z (by decide +kernel) (by omega)) | omega) (by first | (exact Z0z (by decide +kernel) (by omega)) | omega)) (Z1h (by decide +kernel) _)) ?_
    refine Z5 (w0 rfl) rfl (Zz (y := iA (byteAt len8 (y3 : Nat))) (Z00 rfl rfl) (congrArg iA (Z0s (by have := Z0b ⟨y3, b3⟩; simp only at this; omega)))) ?_
    refine Z5 (w0 rfl) rfl (Z6 rfl rfl rfl (Z9 (by (have := Z0b ⟨y3, b3⟩; simp only at this; omega)))) ?_
    refine aA rfl rfl rfl rfl ?_
    refine Z3 ?_
    refine Z02 ?_
    exact Z69 rfl (Zy rfl Zu) (Z5x (n3 + (byteAt len8 (y3 : Nat)).toNat) ⟨by have := Z0b ⟨y3, b3⟩; simp only at this; omega, fun hx => j3.fin (Z0b ⟨y3, b3⟩).2.2 hx⟩ (congrArg iA (by have := Z0b ⟨y3, b3⟩; simp only at this; omega)))
  ·intro hc
   refine Zi ?_
   refine Z4 ?_
   refine Z4 ?_
   refine Z09 0 rfl (fun y2 hy2 => ?_)
   refine Z09 2 rfl (fun n2 hn2 => ?_)
   have j2 : LenJ x y2 n2 := by rw [hy2, hn2]; exact j1
   have b2 : y2 < 65536 := by rw [hy2]; simp at hc; omega
   have e2 : n2 ≤ 48 := by rw [hn2]; omega
   refine Z0 ?_
   refine aM rfl rfl rfl rfl ?_
   refine Z5 (w0 rfl) rfl (Zb rfl rfl rfl rfl) ?_
   refine Z3 ?_
   refine Ze rfl ?_ ?_
   ·intro hc
    refine Z4 ?_
    refine Z0 ?_
    refine aM rfl rfl rfl rfl ?_
    refine Z5 (w0 rfl) rfl (Zz (y := xA (y2 / 2 ^ 8 : Nat)) (Z2a rfl rfl rfl (by decide)) (congrArg xA (Zfq y2 8 (by decide)))) ?_
    refine aA rfl rfl rfl rfl ?_
    refine Z3 ?_
    refine Z0 ?_
    refine aM rfl rfl rfl rfl ?_
    refine Z5 (w0 rfl) rfl (Zz (y := iA (n2 + 8 : Nat)) (Z6 rfl rfl rfl (Z9 (by omega))) (congrArg iA (by omega))) ?_
    refine aA rfl rfl rfl rfl ?_
    refine Z3 ?_
    refine Z4 ?_
    refine Z09 0 rfl (fun y3 hy3 => ?_)
    refine Z09 2 rfl (fun n3 hn3 => ?_)
    have j3 : LenJ x y3 n3 := by rw [hy3, hn3]; exact LenJ.shr j2 8 (by have := hc; simp at this; omega)
    have b3 : y3 < 256 := by rw [hy3]; simp at hc; omega
    have e3 : n3 ≤ 56 := by rw [hn3]; omega
    refine Z0 ?_
    refine aM rfl rfl rfl rfl ?_
    refine aM rfl rfl rfl rfl ?_
    refine Z5 (w0 rfl) rfl (Zz (y := uA (y3 : Nat)) (Z00 rfl rfl) (congrArg uA (Z2l (by omega)))) ?_
    refine Z5 (w0 rfl) rfl (Zz (y := uA (byteAt len8 (y3 : Nat))) (Z0w rfl rfl rfl (by first | (exact Z0z (by decide +kernel) (by omega)) | omega) (by first | (exact Z0z (by decide +kernel) (by omega)) | omega)) (Z1h (by decide +kernel) _)) ?_
    refine Z5 (w0 rfl) rfl (Zz (y := iA (byteAt len8 (y3 : Nat))) (Z00 rfl rfl) (congrArg iA (Z0s (by have := Z0b ⟨y3, b3⟩; simp only at this; omega)))) ?_
    refine Z5 (w0 rfl) rfl (Z6 rfl rfl rfl (Z9 (by (have := Z0b ⟨y3, b3⟩; simp only at this; omega)))) ?_
    refine aA rfl rfl rfl rfl ?_
    refine Z3 ?_
    refine Z02 ?_
    exact Z69 rfl (Zy rfl Zu) (Z5x (n3 + (byteAt len8 (y3 : Nat)).toNat) ⟨by have := Z0b ⟨y3, b3⟩; simp only at this; omega, fun hx => j3.fin (Z0b ⟨y3, b3⟩).2.2 hx⟩ (congrArg iA (by have := Z0b ⟨y3, b3⟩; simp only at this; omega)))
   ·intro hc
    refine Zi ?_
    refine Z4 ?_
    refine Z09 0 rfl (fun y3 hy3 => ?_)
    refine Z09 2 rfl (fun n3 hn3 => ?_)
    have j3 : LenJ x y3 n3 := by rw [hy3, hn3]; exact j2
    have b3 : y3 < 256 := by rw [hy3]; simp at hc; omega
    have e3 : n3 ≤ 56 := by rw [hn3]; omega
    refine Z0 ?_
    refine aM rfl rfl rfl rfl ?_
    refine aM rfl rfl rfl rfl ?_
    refine Z5 (w0 rfl) rfl (Zz (y := uA (y3 : Nat)) (Z00 rfl rfl) (congrArg uA (Z2l (by omega)))) ?_
    refine Z5 (w0 rfl) rfl (Zz (y := uA (byteAt len8 (y3 : Nat))) (Z0w rfl rfl rfl (by first | (exact Z0z (by decide +kernel) (by omega)) | omega) (by first | (exact Z0z (by decide +kernel) (by omega)) | omega)) (Z1h (by decide +kernel) _)) ?_
    refine Z5 (w0 rfl) rfl (Zz (y := iA (byteAt len8 (y3 : Nat))) (Z00 rfl rfl) (congrArg iA (Z0s (by have := Z0b ⟨y3, b3⟩; simp only at this; omega)))) ?_
    refine Z5 (w0 rfl) rfl (Z6 rfl rfl rfl (Z9 (by (have := Z0b ⟨y3, b3⟩; simp only at this; omega)))) ?_
    refine aA rfl rfl rfl rfl ?_
    refine Z3 ?_
    refine Z02 ?_
    exact Z69 rfl (Zy rfl Zu) (Z5x (n3 + (byteAt len8 (y3 : Nat)).toNat) ⟨by have := Z0b ⟨y3, b3⟩; simp only at this; omega, fun hx => j3.fin (Z0b ⟨y3, b3⟩).2.2 hx⟩ (congrArg iA (by have := Z0b ⟨y3, b3⟩; simp only at this; omega)))
 ·intro hc
  refine Zi ?_
  refine Z4 ?_
  refine Z4 ?_
  refine Z09 0 rfl (fun y1 hy1 => ?_)
  refine Z09 2 rfl (fun n1 hn1 => ?_)
  have j1 : LenJ x y1 n1 := by rw [hy1, hn1]; exact (LenJ.start x)
  have b1 : y1 < 4294967296 := by rw [hy1]; simp at hc; omega
  have e1 : n1 ≤ 32 := by rw [hn1]; omega
  refine Z0 ?_
  refine aM rfl rfl rfl rfl ?_
  refine Z5 (w0 rfl) rfl (Zb rfl rfl rfl rfl) ?_
  refine Z3 ?_
  refine Ze rfl ?_ ?_
  ·intro hc
   refine Z4 ?_
   refine Z0 ?_
   refine aM rfl rfl rfl rfl ?_
   refine Z5 (w0 rfl) rfl (Zz (y := xA (y1 / 2 ^ 16 : Nat)) (Z2a rfl rfl rfl (by decide)) (congrArg xA (Zfq y1 16 (by decide)))) ?_
   refine aA rfl rfl rfl rfl ?_
   refine Z3 ?_
   refine Z0 ?_
   refine aM rfl rfl rfl rfl ?_
   refine Z5 (w0 rfl) rfl (Zz (y := iA (n1 + 16 : Nat)) (Z6 rfl rfl rfl (Z9 (by omega))) (congrArg iA (by omega))) ?_
   refine aA rfl rfl rfl rfl ?_
   refine Z3 ?_
   refine Z4 ?_
   refine Z4 ?_
   refine Z09 0 rfl (fun y2 hy2 => ?_)
   refine Z09 2 rfl (fun n2 hn2 => ?_)
   have j2 : LenJ x y2 n2 := by rw [hy2, hn2]; exact LenJ.shr j1 16 (by have := hc; simp at this; omega)
   have b2 : y2 < 65536 := by rw [hy2]; simp at hc; omega
   have e2 : n2 ≤ 48 := by rw [hn2]; omega
   refine Z0 ?_
   refine aM rfl rfl rfl rfl ?_
   refine Z5 (w0 rfl) rfl (Zb rfl rfl rfl rfl) ?_
   refine Z3 ?_
   refine Ze rfl ?_ ?_
   ·intro hc
    refine Z4 ?_
    refine Z0 ?_
    refine aM rfl rfl rfl rfl ?_
    refine Z5 (w0 rfl) rfl (Zz (y := xA (y2 / 2 ^ 8 : Nat)) (Z2a rfl rfl rfl (by decide)) (congrArg xA (Zfq y2 8 (by decide)))) ?_
    refine aA rfl rfl rfl rfl ?_
    refine Z3 ?_
    refine Z0 ?_
    refine aM rfl rfl rfl rfl ?_
    refine Z5 (w0 rfl) rfl (Zz (y := iA (n2 + 8 : Nat)) (Z6 rfl rfl rfl (Z9 (by omega))) (congrArg iA (by omega))) ?_
    refine aA rfl rfl rfl rfl ?_
    refine Z3 ?_
    refine Z4 ?_
    refine Z09 0 rfl (fun y3 hy3 => ?_)
    refine Z09 2 rfl (fun n3 hn3 => ?_)
    have j3 : LenJ x y3 n3 := by rw [hy3, hn3]; exact LenJ.shr j2 8 (by have := hc; simp at this; omega)
    have b3 : y3 < 256 := by rw [hy3]; simp at hc; omega
    have e3 : n3 ≤ 56 := by rw [hn3]; omega
    refine Z0 ?_
    refine aM rfl rfl rfl rfl ?_
    refine aM rfl rfl rfl rfl ?_
    refine Z5 (w0 rfl) rfl (Zz (y := uA (y3 : Nat)) (Z00 rfl rfl) (congrArg uA (Z2l (by omega)))) ?_
    refine Z5 (w0 rfl) rfl (Zz (y := uA (byteAt len8 (y3 : Nat))) (Z0w rfl rfl rfl (by first | (exact Z0z (by decide +kernel) (by omega)) | omega) (by first | (exact Z0z (by decide +kernel) (by omega)) | omega)) (Z1h (by decide +kernel) _)) ?_
    refine Z5 (w0 rfl) rfl (Zz (y := iA (byteAt len8 (y3 : Nat))) (Z00 rfl rfl) (congrArg iA (Z0s (by have := Z0b ⟨y3, b3⟩; simp only at this; omega)))) ?_
    refine Z5 (w0 rfl) rfl (Z6 rfl rfl rfl (Z9 (by (have := Z0b ⟨y3, b3⟩; simp only at this; omega)))) ?_
    refine aA rfl rfl rfl rfl ?_
    refine Z3 ?_
    refine Z02 ?_
    exact Z69 rfl (Zy rfl Zu) (Z5x (n3 + (byteAt len8 (y3 : Nat)).toNat) ⟨by have := Z0b ⟨y3, b3⟩; simp only at this; omega, fun hx => j3.fin (Z0b ⟨y3, b3⟩).2.2 hx⟩ (congrArg iA (by have := Z0b ⟨y3, b3⟩; simp only at this; omega)))
   ·intro hc
    refine Zi ?_
    refine Z4 ?_
    refine Z09 0 rfl (fun y3 hy3 => ?_)
    refine Z09 2 rfl (fun n3 hn3 => ?_)
    have j3 : LenJ x y3 n3 := by rw [hy3, hn3]; exact j2
    have b3 : y3 < 256 := by rw [hy3]; simp at hc; omega
    have e3 : n3 ≤ 56 := by rw [hn3]; omega
    refine Z0 ?_
    refine aM rfl rfl rfl rfl ?_
    refine aM rfl rfl rfl rfl ?_
    refine Z5 (w0 rfl) rfl (Zz (y := uA (y3 : Nat)) (Z00 rfl rfl) (congrArg uA (Z2l (by omega)))) ?_
    refine Z5 (w0 rfl) rfl (Zz (y := uA (byteAt len8 (y3 : Nat))) (Z0w rfl rfl rfl (by first | (exact Z0z (by decide +kernel) (by omega)) | omega) (by first | (exact Z0z (by decide +kernel) (by omega)) | omega)) (Z1h (by decide +kernel) _)) ?_
    refine Z5 (w0 rfl) rfl (Zz (y := iA (byteAt len8 (y3 : Nat))) (Z00 rfl rfl) (congrArg iA (Z0s (by have := Z0b ⟨y3, b3⟩; simp only at this; omega)))) ?_
    refine Z5 (w0 rfl) rfl (Z6 rfl rfl rfl (Z9 (by (have := Z0b ⟨y3, b3⟩; simp only at this; omega)))) ?_
    refine aA rfl rfl rfl rfl ?_
    refine Z3 ?_
    refine Z02 ?_
    exact Z69 rfl (Zy rfl Zu) (Z5x (n3 + (byteAt len8 (y3 : Nat)).toNat) ⟨by have := Z0b ⟨y3, b3⟩; simp only at this; omega, fun hx => j3.fin (Z0b ⟨y3, b3⟩).2.2 hx⟩ (congrArg iA (by have := Z0b ⟨y3, b3⟩; simp only at this; omega)))
  ·intro hc
   refine Zi ?_
   refine Z4 ?_
   refine Z4 ?_
   refine Z09 0 rfl (fun y2 hy2 => ?_)
   refine Z09 2 rfl (fun n2 hn2 => ?_)
   have j2 : LenJ x y2 n2 := by rw [hy2, hn2]; exact j1
   have b2 : y2 < 65536 := by rw [hy2]; simp at hc; omega
   have e2 : n2 ≤ 48 := by rw [hn2]; omega
   refine Z0 ?_
   refine aM rfl rfl rfl rfl ?_
   refine Z5 (w0 rfl) rfl (Zb rfl rfl rfl rfl) ?_
   refine Z3 ?_
   refine Ze rfl ?_ ?_
   ·intro hc
    refine Z4 ?_
    refine Z0 ?_
    refine aM rfl rfl rfl rfl ?_
    refine Z5 (w0 rfl) rfl (Zz (y := xA (y2 / 2 ^ 8 : Nat)) (Z2a rfl rfl rfl (by decide)) (congrArg xA (Zfq y2 8 (by decide)))) ?_
    refine aA rfl rfl rfl rfl ?_
    refine Z3 ?_
    refine Z0 ?_
    refine aM rfl rfl rfl rfl ?_
    refine Z5 (w0 rfl) rfl (Zz (y := iA (n2 + 8 : Nat)) (Z6 rfl rfl rfl (Z9 (by omega))) (congrArg iA (by omega))) ?_
    refine aA rfl rfl rfl rfl ?_
    refine Z3 ?_
    refine Z4 ?_
    refine Z09 0 rfl (fun y3 hy3 => ?_)
    refine Z09 2 rfl (fun n3 hn3 => ?_)
    have j3 : LenJ x y3 n3 := by rw [hy3, hn3]; exact LenJ.shr j2 8 (by have := hc; simp at this; omega)
    have b3 : y3 < 256 := by rw [hy3]; simp at hc; omega
    have e3 : n3 ≤ 56 := by rw [hn3]; omega
    refine Z0 ?_
    refine aM rfl rfl rfl rfl ?_
    refine aM rfl rfl rfl rfl ?_
    refine Z5 (w0 rfl) rfl (Zz (y := uA (y3 : Nat)) (Z00 rfl rfl) (congrArg uA (Z2l (by omega)))) ?_
    refine Z5 (w0 rfl) rfl (Zz (y := uA (byteAt len8 (y3 : Nat))) (Z0w rfl rfl rfl (by first | (exact Z0z (by decide +kernel) (by omega)) | omega) (by first | (exact Z0z (by decide +kernel) (by omega)) | omega)) (Z1h (by decide +kernel) _)) ?_
    refine Z5 (w0 rfl) rfl (Zz (y := iA (byteAt len8 (y3 : Nat))) (Z00 rfl rfl) (congrArg iA (Z0s (by have := Z0b ⟨y3, b3⟩; simp only at this; omega)))) ?_
    refine Z5 (w0 rfl) rfl (Z6 rfl rfl rfl (Z9 (by (have := Z0b ⟨y3, b3⟩; simp only at this; omega)))) ?_
    refine aA rfl rfl rfl rfl ?_
    refine Z3 ?_
    refine Z02 ?_
    exact Z69 rfl (Zy rfl Zu) (Z5x (n3 + (byteAt len8 (y3 : Nat)).toNat) ⟨by have := Z0b ⟨y3, b3⟩; simp only at this; omega, fun hx => j3.fin (Z0b ⟨y3, b3⟩).2.2 hx⟩ (congrArg iA (by have := Z0b ⟨y3, b3⟩; simp only at this; omega)))
   ·intro hc
    refine Zi ?_
    refine Z4 ?_
    refine Z09 0 rfl (fun y3 hy3 => ?_)
    refine Z09 2 rfl (fun n3 hn3 => ?_)
    have j3 : LenJ x y3 n3 := by rw [hy3, hn3]; exact j2
    have b3 : y3 < 256 := by rw [hy3]; simp at hc; omega
    have e3 : n3 ≤ 56 := by rw [hn3]; omega
    refine Z0 ?_
    refine aM rfl rfl rfl rfl ?_
    refine aM rfl rfl rfl rfl ?_
    refine Z5 (w0 rfl) rfl (Zz (y := uA (y3 : Nat)) (Z00 rfl rfl) (congrArg uA (Z2l (by omega)))) ?_
    refine Z5 (w0 rfl) rfl (Zz (y := uA (byteAt len8 (y3 : Nat))) (Z0w rfl rfl rfl (by first | (exact Z0z (by decide +kernel) (by omega)) | omega) (by first | (exact Z0z (by decide +kernel) (by omega)) | omega)) (Z1h (by decide +kernel) _)) ?_
    refine Z5 (w0 rfl) rfl (Zz (y := iA (byteAt len8 (y3 : Nat))) (Z00 rfl rfl) (congrArg iA (Z0s (by have := Z0b ⟨y3, b3⟩; simp only at this; omega)))) ?_
    refine Z5 (w0 rfl) rfl (Z6 rfl rfl rfl (Z9 (by (have := Z0b ⟨y3, b3⟩; simp only at this; omega)))) ?_
    refine aA rfl rfl rfl rfl ?_
    refine Z3 ?_
    refine Z02 ?_
    exact Z69 rfl (Zy rfl Zu) (Z5x (n3 + (byteAt len8 (y3 : Nat)).toNat) ⟨by have := Z0b ⟨y3, b3⟩; simp only at this; omega, fun hx => j3.fin (Z0b ⟨y3, b3⟩).2.2 hx⟩ (congrArg iA (by have := Z0b ⟨y3, b3⟩; simp only at this; omega)))
theorem Z78 (x : Nat) (hx : x < 18446744073709551616) : ACalls Tryz.prog 69 [xA x] [] (GSome (fun k : Nat => iA k) (fun k => k ≤ 64 ∧ (0 < x → 2 ^ k ≤ 2 * x))) := by
 refine Zw (n := 8) Tryz.func69 rfl (by decide +kernel) rfl rfl ?_
 refine Z4 ?_
 refine Z0 ?_
 refine aA rfl rfl rfl rfl ?_
 refine Z3 ?_
 refine Z4 ?_
 refine Ze rfl ?_ ?_
 ·intro hc
  simp at hc
 ·intro hc
  refine Zi ?_
  refine Z4 ?_
  refine Z0 ?_
  refine aM rfl rfl rfl rfl ?_
  refine Z2o (w0 rfl) rfl rfl rfl rfl (Zex x hx) (fun v1 hv1 => ?_)
  refine aA rfl rfl rfl rfl ?_
  refine Z3 ?_
  refine Z02 ?_
  exact Z69 rfl (Zy rfl Zu) (Z5x _ hv1 rfl)
theorem Zbd (x : Nat) (h0 : 0 < x) (hx : x ≤ 140737488355328) : ACalls Tryz.prog 209 [iA x] [] (GSome (fun m : Nat => xA m) (fun m => 0 < m ∧ m ≤ 2 * x)) := by
 refine Zw (n := 7) Tryz.func209 rfl (by decide +kernel) rfl rfl ?_
 refine Z4 ?_
 refine Z0 ?_
 refine aA rfl rfl rfl rfl ?_
 refine Z3 ?_
 refine Z4 ?_
 refine Z0 ?_
 refine aM rfl rfl rfl rfl ?_
 refine Z5 (w0 rfl) rfl (Zz (y := xA x) (Z00 rfl rfl) (congrArg xA (Z44 (by omega)))) ?_
 refine Z2o (w0 rfl) rfl rfl rfl rfl (Z78 x (by omega)) (fun v1 hv1 => ?_)
 refine Z5 (w0 rfl) rfl (Zz (y := xA (2 ^ v1 : Nat)) (Z6k rfl rfl rfl (by omega)) (congrArg xA (Zfn h0 hx hv1))) ?_
 refine aA rfl rfl rfl rfl ?_
 refine Z3 ?_
 refine Z02 ?_
 exact Z69 rfl (Zy rfl Zu) (Z5x (2 ^ v1) ⟨Nat.two_pow_pos _, hv1.2 h0⟩ rfl)
theorem Zf0 (si : Nat) (c : Int) : ACalls Tryz.prog 210 [.ptr si 1 0 0] [(si, .rows 233 1 [[xA c]])] (GP (fun v : Int => xA v) (fun v => [(si, .rows 233 1 [[xA v]])]) (fun _ => True)) := by
 refine Zw (n := 33) Tryz.func210 rfl (by decide +kernel) rfl rfl ?_
 refine Z4 ?_
 refine Z0 ?_
 refine aA rfl rfl rfl rfl ?_
 refine Z3 ?_
 refine Z4 ?_
 refine Z1e 9 rfl (by kernel_rfl) ?_
 refine cM rfl rfl rfl rfl ?_
 refine Za (w0 rfl) rfl (Z0c rfl rfl rfl) ?_
 refine Zm 0 (w0 rfl) rfl rfl rfl rfl rfl Z0t ?_
 refine cM rfl rfl rfl rfl ?_
 refine Za (w0 rfl) rfl (Z0c rfl rfl rfl) ?_
 refine Zm 0 (w0 rfl) rfl rfl rfl rfl rfl Z0t ?_
 refine Za (w0 rfl) rfl (Z6k rfl rfl rfl (by decide)) ?_
 refine Za (w0 rfl) rfl (Z29 rfl (by simp) rfl rfl) ?_
 refine Za (w0 rfl) rfl (Z0c rfl rfl rfl) ?_
 refine .done ?_
 refine Z0r 0 (w0 rfl) rfl rfl rfl rfl rfl rfl rfl rfl rfl ?_
 refine Z3 ?_
 refine Z4 ?_
 refine Z1e 9 rfl (by kernel_rfl) ?_
 refine cM rfl rfl rfl rfl ?_
 refine Za (w0 rfl) rfl (Z0c rfl rfl rfl) ?_
 refine Zm 0 (w0 rfl) rfl rfl rfl rfl rfl Z0t ?_
 refine cM rfl rfl rfl rfl ?_
 refine Za (w0 rfl) rfl (Z0c rfl rfl rfl) ?_
 refine Zm 0 (w0 rfl) rfl rfl rfl rfl rfl Z0t ?_
 refine Za (w0 rfl) rfl (Z2a rfl rfl rfl (by decide)) ?_
 refine Za (w0 rfl) rfl (Z29 rfl (by simp) rfl rfl) ?_
 refine Za (w0 rfl) rfl (Z0c rfl rfl rfl) ?_
 refine .done ?_
 refine Z0r 0 (w0 rfl) rfl rfl rfl rfl rfl rfl rfl rfl rfl ?_
 refine Z3 ?_
 refine Z4 ?_
 refine Z1e 9 rfl (by kernel_rfl) ?_
 refine cM rfl rfl rfl rfl ?_
 refine Za (w0 rfl) rfl (Z0c rfl rfl rfl) ?_
 refine Zm 0 (w0 rfl) rfl rfl rfl rfl rfl Z0t ?_
 refine cM rfl rfl rfl rfl ?_
 refine Za (w0 rfl) rfl (Z0c rfl rfl rfl) ?_
 refine Zm 0 (w0 rfl) rfl rfl rfl rfl rfl Z0t ?_
 refine Za (w0 rfl) rfl (Z6k rfl rfl rfl (by decide)) ?_
 refine Za (w0 rfl) rfl (Z29 rfl (by simp) rfl rfl) ?_
 refine Za (w0 rfl) rfl (Z0c rfl rfl rfl) ?_
 refine .done ?_
 refine Z0r 0 (w0 rfl) rfl rfl rfl rfl rfl rfl rfl rfl rfl ?_
 refine Z3 ?_
 refine Z4 ?_
 refine Z0 ?_
 refine aM rfl rfl rfl rfl ?_
 refine Z5 (w0 rfl) rfl (Z0c rfl rfl rfl) ?_
 refine Z0h 0 (w0 rfl) rfl rfl rfl rfl rfl Z0t ?_
 refine aA rfl rfl rfl rfl ?_
 refine Z3 ?_
 refine Z02 ?_
 exact Zr rfl (Zy rfl Zu) (.cons_cons _ .slnil) (gp _ trivial rfl rfl)
theorem Zda (q n : Nat) (l : List MRef) (hn : l.length = n) (hN : n ≤ 140737488355328) (a b : Nat) (hab : a + 12 < b) (hb : b ≤ n) : ACalls Tryz.prog 130 [.own q 3 0 n, iA a, iA b, .fn (.func 11) []] [(q, .rows 24 3 (l.map MRef.cells))] (GP (fun _ : List MRef => mkRes []) (fun m => [(q, .rows 24 3 (m.map MRef.cells))]) (fun m => Sw a b l m)) := by
 refine Zw (n := 67) Tryz.func130 rfl (by decide +kernel) rfl rfl ?_
 refine Z4 ?_
 refine Z0 ?_
 refine aM rfl rfl rfl rfl ?_
 refine aM rfl rfl rfl rfl ?_
 refine Z5 (w0 rfl) rfl (Zz (y := iA (b - a : Nat)) (Z6 rfl rfl rfl (Zd (by omega))) (congrArg iA (by omega))) ?_
 refine aA rfl rfl rfl rfl ?_
 refine Z3 ?_
 refine Z4 ?_
 refine Z0 ?_
 refine aM rfl rfl rfl rfl ?_
 refine Z5 (w0 rfl) rfl (Zb rfl rfl rfl rfl) ?_
 refine Z3 ?_
 refine Ze rfl ?_ ?_
 ·intro hc
  refine Z4 ?_
  refine Z0 ?_
  refine aM rfl rfl rfl rfl ?_
  refine Z5 (w0 rfl) rfl (Z00 rfl rfl) ?_
  refine Z1a (w0 rfl) rfl (fun id => Z1f id rfl rfl rfl) (fun id1 => ?_)
  refine Z0r 0 (w0 rfl) rfl rfl rfl rfl rfl rfl rfl rfl rfl ?_
  refine Z3 ?_
  refine Z4 ?_
  refine Z0 ?_
  refine aM rfl rfl rfl rfl ?_
  refine Z2o (w0 rfl) rfl rfl rfl rfl (Zbd (b - a) (by omega) (by omega)) (fun v2 hv2 => ?_)
  refine aA rfl rfl rfl rfl ?_
  refine Z3 ?_
  refine Z4 ?_
  refine Z0 ?_
  refine aM rfl rfl rfl rfl ?_
  refine aM rfl rfl rfl rfl ?_
  refine Z5 (w0 rfl) rfl (Zz (y := iA ((b - a) / 4 : Nat)) (Z18 rfl rfl rfl (by decide) (Z0y (b - a) 4 (by omega))) (congrArg iA (Z43 (b - a) 4))) ?_
  refine Z5 (w0 rfl) rfl (Z6 rfl rfl rfl (Z20 (by omega))) ?_
  refine Z5 (w0 rfl) rfl (Z6 rfl rfl rfl (Z9 (by omega))) ?_
  refine Z5 (w0 rfl) rfl (Zz (y := iA (a + (b - a) / 4 * 2 - 1 : Nat)) (Z6 rfl rfl rfl (Zd (by omega))) (congrArg iA (by omega))) ?_
  refine aA rfl rfl rfl rfl ?_
  refine Z3 ?_
  refine Zn ?_
  refine Z06 (α := List MRef × Nat × Int) (fun x => ⟨[(11, iA x.2.1), (8, iA (b - a : Nat)), (9, .ptr id1 1 0 0), (10, xA v2), (0, .own q 3 0 n), (1, iA a), (3, .fn (.func 11) [])], [(q, .rows 24 3 (x.1.map MRef.cells)), (id1, .rows 233 1 [[xA x.2.2]])], [], 67⟩) (fun x => Sw a b l x.1 ∧ a ≤ x.2.1) (fun x => a + (b - a) / 4 * 2 + 2 - x.2.1) (l, a + (b - a) / 4 * 2 - 1, IntKind.u64.wrap (b - a : Nat)) ⟨.refl, (by (try simp only) <;> omega)⟩ ?_ ?_
  ·exact Z8 [1, 0] ⟨rfl, rfl, rfl, rfl, rfl, rfl, rfl, trivial⟩ rfl (by decide) rfl rfl
  rintro x hJ
  have hm := hJ.1.len
  refine Z4 ?_
  refine Z4 ?_
  refine Z0 ?_
  refine aM rfl rfl rfl rfl ?_
  refine aM rfl rfl rfl rfl ?_
  refine aM rfl rfl rfl rfl ?_
  refine Z5 (w0 rfl) rfl (Zz (y := iA ((b - a : Nat) / 4 : Nat)) (Z18 rfl rfl rfl (by decide) (Z0y (b - a : Nat) 4 (by omega))) (congrArg iA (Z43 (b - a : Nat) 4))) ?_
  refine Z5 (w0 rfl) rfl (Z6 rfl rfl rfl (Z20 (by omega))) ?_
  refine Z5 (w0 rfl) rfl (Z6 rfl rfl rfl (Z9 (by omega))) ?_
  refine Z5 (w0 rfl) rfl (Zz (y := iA (a + (b - a) / 4 * 2 + 1 : Nat)) (Z6 rfl rfl rfl (Z9 (by omega))) (congrArg iA (by omega))) ?_
  refine Z5 (w0 rfl) rfl (Zb rfl rfl rfl rfl) ?_
  refine Z3 ?_
  refine Ze rfl ?_ ?_
  ·intro hc
   have hx : x.2.1 ≤ a + (b - a) / 4 * 2 + 1 := by simp at hc; omega
   refine Zi ?_
   refine Z4 ?_
   refine Zn ?_
   refine Z4 ?_
   refine Z0 ?_
   refine Zh [_] _ (w0 rfl) rfl rfl rfl rfl (Zv (k := 1) rfl) (Zf0 _ _) (fun v3 hv3 => ?_)
   refine aM rfl rfl rfl rfl ?_
   refine Z5 (w0 rfl) rfl (Z6 rfl rfl rfl rfl) ?_
   refine Z5 (w0 rfl) rfl (Z29 rfl (by simp) rfl rfl) ?_
   refine Z5 (w0 rfl) rfl (Z00 rfl rfl) ?_
   refine aA rfl rfl rfl rfl ?_
   refine Z3 ?_
   refine Z4 ?_
   refine Z4 ?_
   refine Zd7 12 rfl (fun ot hot => ?_)
   have ho := Zfu (v := v3) (m := v2) hv2.1 (by omega)
   rw [← hot] at ho
   refine Z0 ?_
   refine aM rfl rfl rfl rfl ?_
   refine aM rfl rfl rfl rfl ?_
   refine Z5 (w0 rfl) rfl (Zb rfl rfl rfl rfl) ?_
   refine Z3 ?_
   refine Ze rfl ?_ ?_
   ·intro hc
    have hge : ((b - a : Nat) : Int) ≤ ot := by simpa using hc
    refine Z0 ?_
    refine aM rfl rfl rfl rfl ?_
    refine aM rfl rfl rfl rfl ?_
    refine Z5 (w0 rfl) rfl (Z6 rfl rfl rfl (Zd (by omega))) ?_
    refine aA rfl rfl rfl rfl ?_
    refine Z3 ?_
    refine Z6e 12 rfl (show _ = (((ot - (b - a : Nat)).toNat : Nat) : Int) by omega) ?_
    refine Z0i [0, 0, 0, 0, 0, 24, 0, 0, 0, 384, 960, 1984, 0, 0, 12288, 28672, 65475, 131011, 262143, 524287] [17, 19] [11, 15] rfl (by kernel_rfl) ?_
    refine wM rfl rfl rfl rfl rfl ?_
    refine wM rfl rfl rfl rfl rfl ?_
    refine wM rfl rfl rfl rfl rfl ?_
    refine wM rfl rfl rfl rfl rfl ?_
    refine wM rfl rfl rfl rfl rfl ?_
    refine Zg (w0 rfl) rfl (Z6 rfl rfl rfl (Z9 (by omega))) rfl ?_
    refine wM rfl rfl rfl rfl rfl ?_
    refine wM rfl rfl rfl rfl rfl ?_
    refine wM rfl rfl rfl rfl rfl ?_
    refine Zg (w0 rfl) rfl (Z6 rfl rfl rfl (Z9 (by omega))) rfl ?_
    refine Zg (w0 rfl) rfl (Z2 (a + (ot - (b - a : Nat)).toNat) rfl rfl rfl (by omega) (by omega) (by omega)) rfl ?_
    refine Zf 1 (w0 rfl) rfl rfl rfl rfl (Zo (by omega)) (Zk rfl) rfl rfl ?_
    refine wM rfl rfl rfl rfl rfl ?_
    refine wM rfl rfl rfl rfl rfl ?_
    refine Zg (w0 rfl) rfl (Z2 x.2.1 rfl rfl rfl (by omega) (by omega) (by omega)) rfl ?_
    refine Zf 1 (w0 rfl) rfl rfl rfl rfl (Zo (by omega)) (Zk rfl) rfl rfl ?_
    refine Zg (w0 rfl) rfl (Z2 x.2.1 rfl rfl rfl (by omega) (by omega) (by omega)) rfl ?_
    refine Zl (f := MRef.cells) 1 (fun _ => rfl) (fun _ => rfl) (w0 rfl) rfl rfl rfl rfl (by first | omega | (simp; omega)) rfl rfl ?_
    refine Zg (w0 rfl) rfl (Z2 (a + (ot - (b - a : Nat)).toNat) rfl rfl rfl (by omega) (by omega) (by omega)) rfl ?_
    refine Zl (f := MRef.cells) 1 (fun _ => rfl) (fun _ => rfl) (w0 rfl) rfl rfl rfl rfl (by first | omega | (simp; omega)) rfl rfl ?_
    refine .done ?_
    refine Z0 ?_
    refine aM rfl rfl rfl rfl ?_
    refine Z5 (w0 rfl) rfl (Z6 rfl rfl rfl (Z9 (by omega))) ?_
    refine aA rfl rfl rfl rfl ?_
    refine Z3 ?_
    refine ⟨(swp x.1 x.2.1 (a + (ot - (b - a : Nat)).toNat), x.2.1 + 1, v3), ⟨.step _ _ hJ.1 (by (try simp only) <;> omega) (by (try simp only) <;> omega) (by (try simp only) <;> omega), (by (try simp only) <;> omega)⟩, (by (try simp only) <;> omega), ?_⟩
    exact Z8 [1, 0] ⟨rfl, rfl, rfl, rfl, rfl, rfl, rfl, trivial⟩ rfl (by decide) rfl rfl
   ·intro hc
    have hlt : ot < ((b - a : Nat) : Int) := by simpa using hc
    refine Zi ?_
    refine Z6e 12 rfl (show _ = ((ot.toNat : Nat) : Int) by omega) ?_
    refine Z0i [0, 0, 0, 0, 0, 24, 0, 0, 0, 384, 960, 1984, 0, 0, 12288, 28672, 65475, 131011, 262143, 524287] [17, 19] [11, 15] rfl (by kernel_rfl) ?_
    refine wM rfl rfl rfl rfl rfl ?_
    refine wM rfl rfl rfl rfl rfl ?_
    refine wM rfl rfl rfl rfl rfl ?_
    refine wM rfl rfl rfl rfl rfl ?_
    refine wM rfl rfl rfl rfl rfl ?_
    refine Zg (w0 rfl) rfl (Z6 rfl rfl rfl (Z9 (by omega))) rfl ?_
    refine wM rfl rfl rfl rfl rfl ?_
    refine wM rfl rfl rfl rfl rfl ?_
    refine wM rfl rfl rfl rfl rfl ?_
    refine Zg (w0 rfl) rfl (Z6 rfl rfl rfl (Z9 (by omega))) rfl ?_
    refine Zg (w0 rfl) rfl (Z2 (a + ot.toNat) rfl rfl rfl (by omega) (by omega) (by omega)) rfl ?_
    refine Zf 1 (w0 rfl) rfl rfl rfl rfl (Zo (by omega)) (Zk rfl) rfl rfl ?_
    refine wM rfl rfl rfl rfl rfl ?_
    refine wM rfl rfl rfl rfl rfl ?_
    refine Zg (w0 rfl) rfl (Z2 x.2.1 rfl rfl rfl (by omega) (by omega) (by omega)) rfl ?_
    refine Zf 1 (w0 rfl) rfl rfl rfl rfl (Zo (by omega)) (Zk rfl) rfl rfl ?_
    refine Zg (w0 rfl) rfl (Z2 x.2.1 rfl rfl rfl (by omega) (by omega) (by omega)) rfl ?_
    refine Zl (f := MRef.cells) 1 (fun _ => rfl) (fun _ => rfl) (w0 rfl) rfl rfl rfl rfl (by first | omega | (simp; omega)) rfl rfl ?_
    refine Zg (w0 rfl) rfl (Z2 (a + ot.toNat) rfl rfl rfl (by omega) (by omega) (by omega)) rfl ?_
    refine Zl (f := MRef.cells) 1 (fun _ => rfl) (fun _ => rfl) (w0 rfl) rfl rfl rfl rfl (by first | omega | (simp; omega)) rfl rfl ?_
    refine .done ?_
    refine Z0 ?_
    refine aM rfl rfl rfl rfl ?_
    refine Z5 (w0 rfl) rfl (Z6 rfl rfl rfl (Z9 (by omega))) ?_
    refine aA rfl rfl rfl rfl ?_
    refine Z3 ?_
    refine ⟨(swp x.1 x.2.1 (a + ot.toNat), x.2.1 + 1, v3), ⟨.step _ _ hJ.1 (by (try simp only) <;> omega) (by (try simp only) <;> omega) (by (try simp only) <;> omega), (by (try simp only) <;> omega)⟩, (by (try simp only) <;> omega), ?_⟩
    exact Z8 [1, 0] ⟨rfl, rfl, rfl, rfl, rfl, rfl, rfl, trivial⟩ rfl (by decide) rfl rfl
  ·intro hc
   refine Z05 ?_
   exact Zr rfl Zu (.cons_cons _ (.cons _ .slnil)) (gp x.1 hJ.1 rfl rfl)
 ·intro hc
  exfalso; simp at hc; omega
set_option maxHeartbeats 1000000 in
theorem Zfx (q n : Nat) (hN : n ≤ 140737488355328) (k : Nat) : ∀ (l : List MRef) (hn : l.length = n) (a b : Nat) (lim : Int) (hk : b - a ≤ k) (ha : a ≤ b) (hb : b ≤ n) (hbd : Bd mLt a b l), ACalls Tryz.prog 68 [.own q 3 0 n, iA a, iA b, iA lim, .fn (.func 11) []] [(q, .rows 24 3 (l.map MRef.cells))] (GP (fun _ : List MRef => mkRes []) (fun m => [(q, .rows 24 3 (m.map MRef.cells))]) (fun m => Sw a b l m ∧ SOn mLt a b m)) := by
 induction k using Nat.strongRecOn with
 | _ k ih =>
 intro l hn a b lim hk ha hb hbd
 refine Zw (n := 148) Tryz.func68 rfl (by decide +kernel) rfl rfl ?_
 refine Z4 ?_
 refine Z0 ?_
 refine aA rfl rfl rfl rfl ?_
 refine Z3 ?_
 refine Z4 ?_
 refine Z0 ?_
 refine aA rfl rfl rfl rfl ?_
 refine Z3 ?_
 refine Zn ?_
 refine Z06 (α := List MRef × Nat × Nat × Int × Bool × Bool) (fun x => ⟨[(10, bA x.2.2.2.2.1), (11, bA x.2.2.2.2.2), (0, .own q 3 0 n), (1, iA x.2.1), (2, iA x.2.2.1), (3, iA x.2.2.2.1), (4, .fn (.func 11) [])], [(q, .rows 24 3 (x.1.map MRef.cells))], [], 148⟩) (fun x => Rest mLt a b l x.2.1 x.2.2.1 x.1) (fun x => x.2.2.1 - x.2.1) (l, a, b, lim, true, true) (Rest.start ha hbd) ?_ ?_
 ·exact Z8 [0] ⟨rfl, rfl, rfl, rfl, rfl, rfl, rfl, trivial⟩ rfl (by decide) rfl rfl
 rintro x hJ
 have hm := hJ.sw.len
 have hA := hJ.ha
 have hB := hJ.hb
 have hAB := hJ.hab
 refine Zn ?_
 refine Z4 ?_
 refine Z0 ?_
 refine aM rfl rfl rfl rfl ?_
 refine aM rfl rfl rfl rfl ?_
 refine Z5 (w0 rfl) rfl (Zz (y := iA (x.2.2.1 - x.2.1 : Nat)) (Z6 rfl rfl rfl (Zd (by omega))) (congrArg iA (by omega))) ?_
 refine aA rfl rfl rfl rfl ?_
 refine Z3 ?_
 refine Z4 ?_
 refine Z4 ?_
 refine Z0 ?_
 refine aM rfl rfl rfl rfl ?_
 refine Z5 (w0 rfl) rfl (Zb rfl rfl rfl rfl) ?_
 refine Z3 ?_
 refine Ze rfl ?_ ?_
 ·intro hc
  refine Z4 ?_
  refine Z0 ?_
  refine aM rfl rfl rfl rfl ?_
  refine aM rfl rfl rfl rfl ?_
  refine aM rfl rfl rfl rfl ?_
  refine aM rfl rfl rfl rfl ?_
  refine Zh [_] _ (w0 rfl) rfl rfl rfl rfl (Zv (k := 0) rfl) (Zal q n x.1 (by omega) hN x.2.1 x.2.2.1 hAB (by omega)) (fun v1 hv1 => ?_)
  refine Z3 ?_
  refine Z02 ?_
  exact Zr rfl Zu (.cons_cons _ .slnil) (gp v1 ⟨hJ.sw.trans (hv1.1.mono hA hB (by omega)), hJ.fin _ hv1.1 (hv1.2.on mLtT.ok)⟩ rfl rfl)
 ·intro hc
  have hlen : 12 < x.2.2.1 - x.2.1 := by simp at hc; omega
  refine Zi ?_
  refine Z4 ?_
  refine Z4 ?_
  refine Z0 ?_
  refine aM rfl rfl rfl rfl ?_
  refine Z5 (w0 rfl) rfl (Zb rfl rfl rfl rfl) ?_
  refine Z3 ?_
  refine Ze rfl ?_ ?_
  ·intro hc
   refine Z4 ?_
   refine Z0 ?_
   refine aM rfl rfl rfl rfl ?_
   refine aM rfl rfl rfl rfl ?_
   refine aM rfl rfl rfl rfl ?_
   refine aM rfl rfl rfl rfl ?_
   refine Zh [_] _ (w0 rfl) rfl rfl rfl rfl (Zv (k := 0) rfl) (Z8m q n x.1 (by omega) hN x.2.1 x.2.2.1 hAB (by omega)) (fun v2 hv2 => ?_)
   refine Z3 ?_
   refine Z02 ?_
   exact Zr rfl Zu (.cons_cons _ .slnil) (gp v2 ⟨hJ.sw.trans (hv2.1.mono hA hB (by omega)), hJ.fin _ hv2.1 hv2.2⟩ rfl rfl)
  ·intro hc
   refine Zi ?_
   refine Z4 ?_
   refine Z4 ?_
   refine Z0 ?_
   refine aM rfl rfl rfl rfl ?_
   refine Z5 (w0 rfl) rfl (Z0m rfl rfl) ?_
   refine Z3 ?_
   refine Ze rfl ?_ ?_
   ·intro hc
    refine Z4 ?_
    refine Z0 ?_
    refine aM rfl rfl rfl rfl ?_
    refine aM rfl rfl rfl rfl ?_
    refine aM rfl rfl rfl rfl ?_
    refine aM rfl rfl rfl rfl ?_
    refine Zh [_] _ (w0 rfl) rfl rfl rfl rfl (Zv (k := 0) rfl) (Zda q n x.1 (by omega) hN x.2.1 x.2.2.1 (by omega) (by omega)) (fun v3 hv3 => ?_)
    have hJ1 := hJ.move (by omega) hv3
    refine Z3 ?_
    refine Z0 ?_
    refine aM rfl rfl rfl rfl ?_
    refine Z5 (w0 rfl) rfl (Z6 rfl rfl rfl rfl) ?_
    refine aA rfl rfl rfl rfl ?_
    refine Z3 ?_
    refine Z4 ?_
    refine Z0 ?_
    refine aM rfl rfl rfl rfl ?_
    refine aM rfl rfl rfl rfl ?_
    refine aM rfl rfl rfl rfl ?_
    refine aM rfl rfl rfl rfl ?_
    refine Zh [_] _ (w0 rfl) rfl rfl rfl rfl (Zv (k := 0) rfl) (Z9g q n _ (by have := hJ1.sw.len; omega) hN x.2.1 x.2.2.1 (by omega) (by omega)) (fun v4 hv4 => ?_)
    refine aM rfl rfl rfl rfl ?_
    refine Z5 (w0 rfl) rfl (Zt rfl rfl rfl) ?_
    refine Z5 (w0 rfl) rfl (Zt rfl rfl rfl) ?_
    refine aA rfl rfl rfl rfl ?_
    refine aA rfl rfl rfl rfl ?_
    refine Z3 ?_
    refine Z4 ?_
    refine Z4 ?_
    refine Z09 13 rfl (fun pv hpv => ?_)
    have hp : x.2.1 ≤ pv ∧ pv < x.2.2.1 := by rw [hpv]; exact hv4
    refine Z0 ?_
    refine aM rfl rfl rfl rfl ?_
    refine Z5 (w0 rfl) rfl (Zb rfl rfl rfl rfl) ?_
    refine Z3 ?_
    refine Ze rfl ?_ ?_
    ·intro hc
     refine Z4 ?_
     refine Z0 ?_
     refine aM rfl rfl rfl rfl ?_
     refine aM rfl rfl rfl rfl ?_
     refine aM rfl rfl rfl rfl ?_
     refine aM rfl rfl rfl rfl ?_
     refine Zh [_] _ (w0 rfl) rfl rfl rfl rfl (Zv (k := 0) rfl) (Zef q n _ (by have := hJ1.sw.len; omega) hN x.2.1 x.2.2.1 (by omega) (by omega)) (fun v5 hv5 => ?_)
     have hJ2 := hJ1.move (by omega) hv5
     refine Z3 ?_
     refine Z4 ?_
     refine Z0 ?_
     refine aM rfl rfl rfl rfl ?_
     refine Z5 (w0 rfl) rfl (Z6 rfl rfl rfl (Zd (by omega))) ?_
     refine aM rfl rfl rfl rfl ?_
     refine aM rfl rfl rfl rfl ?_
     refine Z5 (w0 rfl) rfl (Z6 rfl rfl rfl (Zd (by omega))) ?_
     refine Z5 (w0 rfl) rfl (Zz (y := iA (x.2.2.1 - 1 - (pv - x.2.1) : Nat)) (Z6 rfl rfl rfl (Zd (by omega))) (congrArg iA (by omega))) ?_
     refine aA rfl rfl rfl rfl ?_
     refine Z3 ?_
     refine Z0 ?_
     refine aA rfl rfl rfl rfl ?_
     refine Z3 ?_
     refine Z4 ?_
     refine Z4 ?_
     refine Z09 13 rfl (fun p2 hp2 => ?_)
     have hp2' : x.2.1 ≤ p2 ∧ p2 < x.2.2.1 := by omega
     refine Z0 ?_
     refine aM rfl rfl rfl rfl ?_
     refine aM rfl rfl rfl rfl ?_
     refine Z1y (wT rfl rfl rfl rfl) rfl (fun hg => (Z7 rfl rfl)) ?_
     refine Z5 (w0 rfl) rfl (Z0l rfl rfl rfl (fun h => h)) ?_
     refine aM rfl rfl rfl rfl ?_
     refine Z1y (wT rfl rfl rfl rfl) rfl (fun hg => (Z7 rfl rfl)) ?_
     refine Z1y (wT rfl rfl rfl rfl) rfl (fun hg => (Zb rfl (Z04 hg rfl) rfl rfl)) ?_
     refine Z5 (w0 rfl) rfl (Z0l rfl rfl rfl (fun h => h)) ?_
     refine Z3 ?_
     refine Ze rfl ?_ ?_
     ·intro hc
      refine Z4 ?_
      refine Z0 ?_
      refine aM rfl rfl rfl rfl ?_
      refine aM rfl rfl rfl rfl ?_
      refine aM rfl rfl rfl rfl ?_
      refine aM rfl rfl rfl rfl ?_
      refine Zh [_] _ (w0 rfl) rfl rfl rfl rfl (Zv (k := 0) rfl) (Z2p q n _ (by have := hJ2.sw.len; omega) hN x.2.1 x.2.2.1 (by omega) (by omega) hJ2.bd) (fun v6 hv6 => ?_)
      have hJ3 := hJ2.move (by omega) hv6.1
      refine Z3 ?_
      refine Ze rfl ?_ ?_
      ·intro hc
       refine Z02 ?_
       exact Zr rfl Zu (.cons_cons _ .slnil) (gp v6.1 ⟨hJ3.sw, hJ2.fin _ hv6.1 ((hv6.2 hc).on mLtT.ok)⟩ rfl rfl)
      ·intro hc
       have hl3 := hJ3.sw.len
       refine Zi ?_
       refine Z4 ?_
       refine Z4 ?_
       refine Z0d [0, 1, 3, 7, 7, 7, 39, 119, 247, 7, 7, 1543, 3591, 8191, 16383, 32767, 65535] 17 rfl (by kernel_rfl) ?_
       refine cM rfl rfl rfl rfl ?_
       refine Za (w0 rfl) rfl (Zb rfl rfl rfl rfl) ?_
       refine cM rfl rfl rfl rfl ?_
       refine Zc (wT rfl rfl rfl rfl) rfl (fun hg => (Z7 rfl rfl)) ?_
       refine Zc (wT rfl rfl rfl rfl) rfl (fun hg => (Z7 rfl rfl)) ?_
       refine Zc (wT rfl rfl rfl rfl) rfl (fun hg => (Z7 rfl rfl)) ?_
       refine Zc (wT rfl rfl rfl rfl) rfl (fun hg => (Z6 rfl (Z04 hg rfl) rfl (Zd (by omega)))) ?_
       refine Zc (wT rfl rfl rfl rfl) rfl (fun hg => (Z2 (x.2.1 - 1) rfl (Z04 hg rfl) (Z04 hg rfl) (by (try simp at hg) <;> omega) (by (try simp at hg) <;> omega) (by omega))) ?_
       refine Zs (f := MRef.cells) 0 (wT rfl rfl rfl rfl) rfl rfl (fun hg => (Z04 hg rfl)) rfl (fun hg => by (try simp at hg) <;> omega) (fun _ => Zk rfl) ?_
       refine Zc (wT rfl rfl rfl rfl) rfl (fun hg => (Z7 rfl rfl)) ?_
       refine Zc (wT rfl rfl rfl rfl) rfl (fun hg => (Z7 rfl rfl)) ?_
       refine Zc (wT rfl rfl rfl rfl) rfl (fun hg => (Z2 p2 rfl (Z04 hg rfl) (Z04 hg rfl) (by (try simp at hg) <;> omega) (by (try simp at hg) <;> omega) (by omega))) ?_
       refine Zs (f := MRef.cells) 0 (wT rfl rfl rfl rfl) rfl rfl (fun hg => (Z04 hg rfl)) rfl (fun hg => by (try simp at hg) <;> omega) (fun _ => Zk rfl) ?_
       refine Zc (wT rfl rfl rfl rfl) rfl (fun hg => (Zq [] rfl (Z04 hg rfl) (Zj (Z04 hg rfl) (Zj (Z04 hg rfl) Z0e)) (Z0a _ _) List.nodup_nil)) ?_
       refine Zc (wT rfl rfl rfl rfl) rfl (fun hg => (Zb rfl (Z04 hg rfl) rfl rfl)) ?_
       refine Zc (wT rfl rfl rfl rfl) rfl (fun hg => (Z0m rfl (Z04 hg rfl))) ?_
       refine Za (w0 rfl) rfl (Z0l rfl rfl rfl (fun h => h)) ?_
       refine .done ?_
       refine Z3 ?_
       refine Ze rfl ?_ ?_
       ·intro hc
        have ha0 : 0 < x.2.1 := by have := Z71 hc; simpa using this
        have hpe := Z8b (Z72 hc)
        refine Z4 ?_
        refine Z0 ?_
        refine aM rfl rfl rfl rfl ?_
        refine aM rfl rfl rfl rfl ?_
        refine aM rfl rfl rfl rfl ?_
        refine aM rfl rfl rfl rfl ?_
        refine aM rfl rfl rfl rfl ?_
        refine Zh [_] _ (w0 rfl) rfl rfl rfl rfl (Zv (k := 0) rfl) (Z1u q n _ (by omega) hN x.2.1 x.2.2.1 p2 hp2'.1 hp2'.2 (by omega)) (fun v7 hv7 => ?_)
        refine aA rfl rfl rfl rfl ?_
        refine Z3 ?_
        refine Z4 ?_
        refine Z0 ?_
        refine aM rfl rfl rfl rfl ?_
        refine aA rfl rfl rfl rfl ?_
        refine Z3 ?_
        refine Z05 ?_
        refine ⟨(v7.1, v7.2, x.2.2.1, IntKind.i64.wrap (x.2.2.2.1 - 1), x.2.2.2.2.1, x.2.2.2.2.2), (by obtain ⟨j, e, he⟩ := hv7.2.2.2.2; exact (hJ3.move (by omega) hv7.1).equal mLtT.ok (by omega) ha0 (by rw [hv7.1.out (.inl (by omega)), hv7.2.2.2.1]; exact hpe) he e hv7.2.1 hv7.2.2.1), (by (try simp only) <;> (have := hv7.2.1; omega)), ?_⟩
        exact Z8 [0] ⟨rfl, rfl, rfl, rfl, rfl, rfl, rfl, trivial⟩ rfl (by decide) rfl rfl
       ·intro hc
        refine Zi ?_
        refine Z4 ?_
        refine Z0 ?_
        refine aM rfl rfl rfl rfl ?_
        refine aM rfl rfl rfl rfl ?_
        refine aM rfl rfl rfl rfl ?_
        refine aM rfl rfl rfl rfl ?_
        refine aM rfl rfl rfl rfl ?_
        refine Zh [_] _ (w0 rfl) rfl rfl rfl rfl (Zv (k := 0) rfl) (Z2h q n _ (by omega) hN x.2.1 x.2.2.1 p2 hp2'.1 hp2'.2 (by omega)) (fun v8 hv8 => ?_)
        refine aM rfl rfl rfl rfl ?_
        refine Z5 (w0 rfl) rfl (Zt rfl rfl rfl) ?_
        refine Z5 (w0 rfl) rfl (Zt rfl rfl rfl) ?_
        refine aA rfl rfl rfl rfl ?_
        refine aA rfl rfl rfl rfl ?_
        refine Z3 ?_
        refine Z4 ?_
        refine Z0 ?_
        refine aM rfl rfl rfl rfl ?_
        refine aA rfl rfl rfl rfl ?_
        refine Z3 ?_
        refine Z4 ?_
        have hJ4 := hJ3.move (by omega) hv8.1
        have hl4 := hJ4.sw.len
        have hmid : x.2.1 ≤ v8.2.1 ∧ v8.2.1 < x.2.2.1 := ⟨hv8.2.1, hv8.2.2.1⟩
        refine Z0 ?_
        refine aM rfl rfl rfl rfl ?_
        refine aM rfl rfl rfl rfl ?_
        refine Z5 (w0 rfl) rfl (Z6 rfl rfl rfl (Zd (by omega))) ?_
        refine aM rfl rfl rfl rfl ?_
        refine aM rfl rfl rfl rfl ?_
        refine Z5 (w0 rfl) rfl (Z6 rfl rfl rfl (Zd (by omega))) ?_
        refine aA rfl rfl rfl rfl ?_
        refine aA rfl rfl rfl rfl ?_
        refine Z3 ?_
        refine Z4 ?_
        refine Z0 ?_
        refine aM rfl rfl rfl rfl ?_
        refine Z5 (w0 rfl) rfl (Zz (y := iA ((x.2.2.1 - x.2.1) / 8 : Nat)) (Z18 rfl rfl rfl (by decide) (Z0y (x.2.2.1 - x.2.1) 8 (by omega))) (congrArg iA (Z43 (x.2.2.1 - x.2.1) 8))) ?_
        refine aA rfl rfl rfl rfl ?_
        refine Z3 ?_
        refine Z4 ?_
        refine Z0 ?_
        refine aM rfl rfl rfl rfl ?_
        refine aM rfl rfl rfl rfl ?_
        refine Z5 (w0 rfl) rfl (Zb rfl rfl rfl rfl) ?_
        refine Z3 ?_
        refine Ze rfl ?_ ?_
        ·intro hc
         refine Z4 ?_
         refine Z0 ?_
         refine aM rfl rfl rfl rfl ?_
         refine aM rfl rfl rfl rfl ?_
         refine Z5 (w0 rfl) rfl (Zb rfl rfl rfl rfl) ?_
         refine aA rfl rfl rfl rfl ?_
         refine Z3 ?_
         refine Z4 ?_
         refine Z0o 10 rfl (fun wb hwb => ?_)
         refine Z0 ?_
         refine aM rfl rfl rfl rfl ?_
         refine aM rfl rfl rfl rfl ?_
         refine aM rfl rfl rfl rfl ?_
         refine aM rfl rfl rfl rfl ?_
         refine aM rfl rfl rfl rfl ?_
         refine Zh [_] _ (w0 rfl) rfl rfl rfl rfl (Zv (k := 0) rfl) (ih (v8.2.1 - x.2.1) (by omega) _ (by omega) x.2.1 v8.2.1 _ (Nat.le_refl _) (by omega) (by omega) (hJ4.bd.le (by omega))) (fun v9 hv9 => ?_)
         refine Z3 ?_
         refine Z0 ?_
         refine aM rfl rfl rfl rfl ?_
         refine Z5 (w0 rfl) rfl (Z6 rfl rfl rfl (Z9 (by omega))) ?_
         refine aA rfl rfl rfl rfl ?_
         refine Z3 ?_
         refine ⟨(v9, v8.2.1 + 1, x.2.2.1, IntKind.i64.wrap (x.2.2.2.1 - 1), wb, v8.2.2), (hJ4.lower mLtT.ok (by omega) hmid hv8.2.2.2 hv9.1 hv9.2), (by (try simp only) <;> omega), ?_⟩
         exact Z8 [0] ⟨rfl, rfl, rfl, rfl, rfl, rfl, rfl, trivial⟩ rfl (by decide) rfl rfl
        ·intro hc
         refine Z4 ?_
         refine Z0 ?_
         refine aM rfl rfl rfl rfl ?_
         refine aM rfl rfl rfl rfl ?_
         refine Z5 (w0 rfl) rfl (Zb rfl rfl rfl rfl) ?_
         refine aA rfl rfl rfl rfl ?_
         refine Z3 ?_
         refine Z4 ?_
         refine Z0o 10 rfl (fun wb hwb => ?_)
         refine Z0 ?_
         refine aM rfl rfl rfl rfl ?_
         refine aM rfl rfl rfl rfl ?_
         refine Z5 (w0 rfl) rfl (Z6 rfl rfl rfl (Z9 (by omega))) ?_
         refine aM rfl rfl rfl rfl ?_
         refine aM rfl rfl rfl rfl ?_
         refine aM rfl rfl rfl rfl ?_
         refine Zh [_] _ (w0 rfl) rfl rfl rfl rfl (Zv (k := 0) rfl) (ih (x.2.2.1 - (v8.2.1 + 1)) (by omega) _ (by omega) (v8.2.1 + 1) x.2.2.1 _ (Nat.le_refl _) (by omega) (by omega) hv8.2.2.2.bd) (fun v10 hv10 => ?_)
         refine Z3 ?_
         refine Z0 ?_
         refine aM rfl rfl rfl rfl ?_
         refine aA rfl rfl rfl rfl ?_
         refine Z3 ?_
         refine ⟨(v10, x.2.1, v8.2.1, IntKind.i64.wrap (x.2.2.2.1 - 1), wb, v8.2.2), (hJ4.upper mLtT.ok (by omega) hmid hv8.2.2.2 hv10.1 hv10.2), (by (try simp only) <;> omega), ?_⟩
         exact Z8 [0] ⟨rfl, rfl, rfl, rfl, rfl, rfl, rfl, trivial⟩ rfl (by decide) rfl rfl
     ·intro hc
      have hJ3 := hJ2
      have hl3 := hJ3.sw.len
      refine Zi ?_
      refine Z4 ?_
      refine Z4 ?_
      refine Z0d [0, 1, 3, 7, 7, 7, 39, 119, 247, 7, 7, 1543, 3591, 8191, 16383, 32767, 65535] 17 rfl (by kernel_rfl) ?_
      refine cM rfl rfl rfl rfl ?_
      refine Za (w0 rfl) rfl (Zb rfl rfl rfl rfl) ?_
      refine cM rfl rfl rfl rfl ?_
      refine Zc (wT rfl rfl rfl rfl) rfl (fun hg => (Z7 rfl rfl)) ?_
      refine Zc (wT rfl rfl rfl rfl) rfl (fun hg => (Z7 rfl rfl)) ?_
      refine Zc (wT rfl rfl rfl rfl) rfl (fun hg => (Z7 rfl rfl)) ?_
      refine Zc (wT rfl rfl rfl rfl) rfl (fun hg => (Z6 rfl (Z04 hg rfl) rfl (Zd (by omega)))) ?_
      refine Zc (wT rfl rfl rfl rfl) rfl (fun hg => (Z2 (x.2.1 - 1) rfl (Z04 hg rfl) (Z04 hg rfl) (by (try simp at hg) <;> omega) (by (try simp at hg) <;> omega) (by omega))) ?_
      refine Zs (f := MRef.cells) 0 (wT rfl rfl rfl rfl) rfl rfl (fun hg => (Z04 hg rfl)) rfl (fun hg => by (try simp at hg) <;> omega) (fun _ => Zk rfl) ?_
      refine Zc (wT rfl rfl rfl rfl) rfl (fun hg => (Z7 rfl rfl)) ?_
      refine Zc (wT rfl rfl rfl rfl) rfl (fun hg => (Z7 rfl rfl)) ?_
      refine Zc (wT rfl rfl rfl rfl) rfl (fun hg => (Z2 p2 rfl (Z04 hg rfl) (Z04 hg rfl) (by (try simp at hg) <;> omega) (by (try simp at hg) <;> omega) (by omega))) ?_
      refine Zs (f := MRef.cells) 0 (wT rfl rfl rfl rfl) rfl rfl (fun hg => (Z04 hg rfl)) rfl (fun hg => by (try simp at hg) <;> omega) (fun _ => Zk rfl) ?_
      refine Zc (wT rfl rfl rfl rfl) rfl (fun hg => (Zq [] rfl (Z04 hg rfl) (Zj (Z04 hg rfl) (Zj (Z04 hg rfl) Z0e)) (Z0a _ _) List.nodup_nil)) ?_
      refine Zc (wT rfl rfl rfl rfl) rfl (fun hg => (Zb rfl (Z04 hg rfl) rfl rfl)) ?_
      refine Zc (wT rfl rfl rfl rfl) rfl (fun hg => (Z0m rfl (Z04 hg rfl))) ?_
      refine Za (w0 rfl) rfl (Z0l rfl rfl rfl (fun h => h)) ?_
      refine .done ?_
      refine Z3 ?_
      refine Ze rfl ?_ ?_
      ·intro hc
       have ha0 : 0 < x.2.1 := by have := Z71 hc; simpa using this
       have hpe := Z8b (Z72 hc)
       refine Z4 ?_
       refine Z0 ?_
       refine aM rfl rfl rfl rfl ?_
       refine aM rfl rfl rfl rfl ?_
       refine aM rfl rfl rfl rfl ?_
       refine aM rfl rfl rfl rfl ?_
       refine aM rfl rfl rfl rfl ?_
       refine Zh [_] _ (w0 rfl) rfl rfl rfl rfl (Zv (k := 0) rfl) (Z1u q n _ (by omega) hN x.2.1 x.2.2.1 p2 hp2'.1 hp2'.2 (by omega)) (fun v11 hv11 => ?_)
       refine aA rfl rfl rfl rfl ?_
       refine Z3 ?_
       refine Z4 ?_
       refine Z0 ?_
       refine aM rfl rfl rfl rfl ?_
       refine aA rfl rfl rfl rfl ?_
       refine Z3 ?_
       refine Z05 ?_
       refine ⟨(v11.1, v11.2, x.2.2.1, IntKind.i64.wrap (x.2.2.2.1 - 1), x.2.2.2.2.1, x.2.2.2.2.2), (by obtain ⟨j, e, he⟩ := hv11.2.2.2.2; exact (hJ3.move (by omega) hv11.1).equal mLtT.ok (by omega) ha0 (by rw [hv11.1.out (.inl (by omega)), hv11.2.2.2.1]; exact hpe) he e hv11.2.1 hv11.2.2.1), (by (try simp only) <;> (have := hv11.2.1; omega)), ?_⟩
       exact Z8 [0] ⟨rfl, rfl, rfl, rfl, rfl, rfl, rfl, trivial⟩ rfl (by decide) rfl rfl
      ·intro hc
       refine Zi ?_
       refine Z4 ?_
       refine Z0 ?_
       refine aM rfl rfl rfl rfl ?_
       refine aM rfl rfl rfl rfl ?_
       refine aM rfl rfl rfl rfl ?_
       refine aM rfl rfl rfl rfl ?_
       refine aM rfl rfl rfl rfl ?_
       refine Zh [_] _ (w0 rfl) rfl rfl rfl rfl (Zv (k := 0) rfl) (Z2h q n _ (by omega) hN x.2.1 x.2.2.1 p2 hp2'.1 hp2'.2 (by omega)) (fun v12 hv12 => ?_)
       refine aM rfl rfl rfl rfl ?_
       refine Z5 (w0 rfl) rfl (Zt rfl rfl rfl) ?_
       refine Z5 (w0 rfl) rfl (Zt rfl rfl rfl) ?_
       refine aA rfl rfl rfl rfl ?_
       refine aA rfl rfl rfl rfl ?_
       refine Z3 ?_
       refine Z4 ?_
       refine Z0 ?_
       refine aM rfl rfl rfl rfl ?_
       refine aA rfl rfl rfl rfl ?_
       refine Z3 ?_
       refine Z4 ?_
       have hJ4 := hJ3.move (by omega) hv12.1
       have hl4 := hJ4.sw.len
       have hmid : x.2.1 ≤ v12.2.1 ∧ v12.2.1 < x.2.2.1 := ⟨hv12.2.1, hv12.2.2.1⟩
       refine Z0 ?_
       refine aM rfl rfl rfl rfl ?_
       refine aM rfl rfl rfl rfl ?_
       refine Z5 (w0 rfl) rfl (Z6 rfl rfl rfl (Zd (by omega))) ?_
       refine aM rfl rfl rfl rfl ?_
       refine aM rfl rfl rfl rfl ?_
       refine Z5 (w0 rfl) rfl (Z6 rfl rfl rfl (Zd (by omega))) ?_
       refine aA rfl rfl rfl rfl ?_
       refine aA rfl rfl rfl rfl ?_
       refine Z3 ?_
       refine Z4 ?_
       refine Z0 ?_
       refine aM rfl rfl rfl rfl ?_
       refine Z5 (w0 rfl) rfl (Zz (y := iA ((x.2.2.1 - x.2.1) / 8 : Nat)) (Z18 rfl rfl rfl (by decide) (Z0y (x.2.2.1 - x.2.1) 8 (by omega))) (congrArg iA (Z43 (x.2.2.1 - x.2.1) 8))) ?_
       refine aA rfl rfl rfl rfl ?_
       refine Z3 ?_
       refine Z4 ?_
       refine Z0 ?_
       refine aM rfl rfl rfl rfl ?_
       refine aM rfl rfl rfl rfl ?_
       refine Z5 (w0 rfl) rfl (Zb rfl rfl rfl rfl) ?_
       refine Z3 ?_
       refine Ze rfl ?_ ?_
       ·intro hc
        refine Z4 ?_
        refine Z0 ?_
        refine aM rfl rfl rfl rfl ?_
        refine aM rfl rfl rfl rfl ?_
        refine Z5 (w0 rfl) rfl (Zb rfl rfl rfl rfl) ?_
        refine aA rfl rfl rfl rfl ?_
        refine Z3 ?_
        refine Z4 ?_
        refine Z0o 10 rfl (fun wb hwb => ?_)
        refine Z0 ?_
        refine aM rfl rfl rfl rfl ?_
        refine aM rfl rfl rfl rfl ?_
        refine aM rfl rfl rfl rfl ?_
        refine aM rfl rfl rfl rfl ?_
        refine aM rfl rfl rfl rfl ?_
        refine Zh [_] _ (w0 rfl) rfl rfl rfl rfl (Zv (k := 0) rfl) (ih (v12.2.1 - x.2.1) (by omega) _ (by omega) x.2.1 v12.2.1 _ (Nat.le_refl _) (by omega) (by omega) (hJ4.bd.le (by omega))) (fun v13 hv13 => ?_)
        refine Z3 ?_
        refine Z0 ?_
        refine aM rfl rfl rfl rfl ?_
        refine Z5 (w0 rfl) rfl (Z6 rfl rfl rfl (Z9 (by omega))) ?_
        refine aA rfl rfl rfl rfl ?_
        refine Z3 ?_
        refine ⟨(v13, v12.2.1 + 1, x.2.2.1, IntKind.i64.wrap (x.2.2.2.1 - 1), wb, v12.2.2), (hJ4.lower mLtT.ok (by omega) hmid hv12.2.2.2 hv13.1 hv13.2), (by (try simp only) <;> omega), ?_⟩
        exact Z8 [0] ⟨rfl, rfl, rfl, rfl, rfl, rfl, rfl, trivial⟩ rfl (by decide) rfl rfl
       ·intro hc
        refine Z4 ?_
        refine Z0 ?_
        refine aM rfl rfl rfl rfl ?_
        refine aM rfl rfl rfl rfl ?_
        refine Z5 (w0 rfl) rfl (Zb rfl rfl rfl rfl) ?_
        refine aA rfl rfl rfl rfl ?_
        refine Z3 ?_
        refine Z4 ?_
        refine Z0o 10 rfl (fun wb hwb => ?_)
        refine Z0 ?_
        refine aM rfl rfl rfl rfl ?_
        refine aM rfl rfl rfl rfl ?_
        refine Z5 (w0 rfl) rfl (Z6 rfl rfl rfl (Z9 (by omega))) ?_
        refine aM rfl rfl rfl rfl ?_
        refine aM rfl rfl rfl rfl ?_
        refine aM rfl rfl rfl rfl ?_
        refine Zh [_] _ (w0 rfl) rfl rfl rfl rfl (Zv (k := 0) rfl) (ih (x.2.2.1 - (v12.2.1 + 1)) (by omega) _ (by omega) (v12.2.1 + 1) x.2.2.1 _ (Nat.le_refl _) (by omega) (by omega) hv12.2.2.2.bd) (fun v14 hv14 => ?_)
        refine Z3 ?_
        refine Z0 ?_
        refine aM rfl rfl rfl rfl ?_
        refine aA rfl rfl rfl rfl ?_
        refine Z3 ?_
        refine ⟨(v14, x.2.1, v12.2.1, IntKind.i64.wrap (x.2.2.2.1 - 1), wb, v12.2.2), (hJ4.upper mLtT.ok (by omega) hmid hv12.2.2.2 hv14.1 hv14.2), (by (try simp only) <;> omega), ?_⟩
        exact Z8 [0] ⟨rfl, rfl, rfl, rfl, rfl, rfl, rfl, trivial⟩ rfl (by decide) rfl rfl
    ·intro hc
     have hJ2 := hJ1
     refine Zi ?_
     refine Z4 ?_
     refine Z4 ?_
     refine Z09 13 rfl (fun p2 hp2 => ?_)
     have hp2' : x.2.1 ≤ p2 ∧ p2 < x.2.2.1 := by omega
     refine Z0 ?_
     refine aM rfl rfl rfl rfl ?_
     refine aM rfl rfl rfl rfl ?_
     refine Z1y (wT rfl rfl rfl rfl) rfl (fun hg => (Z7 rfl rfl)) ?_
     refine Z5 (w0 rfl) rfl (Z0l rfl rfl rfl (fun h => h)) ?_
     refine aM rfl rfl rfl rfl ?_
     refine Z1y (wT rfl rfl rfl rfl) rfl (fun hg => (Z7 rfl rfl)) ?_
     refine Z1y (wT rfl rfl rfl rfl) rfl (fun hg => (Zb rfl (Z04 hg rfl) rfl rfl)) ?_
     refine Z5 (w0 rfl) rfl (Z0l rfl rfl rfl (fun h => h)) ?_
     refine Z3 ?_
     refine Ze rfl ?_ ?_
     ·intro hc
      refine Z4 ?_
      refine Z0 ?_
      refine aM rfl rfl rfl rfl ?_
      refine aM rfl rfl rfl rfl ?_
      refine aM rfl rfl rfl rfl ?_
      refine aM rfl rfl rfl rfl ?_
      refine Zh [_] _ (w0 rfl) rfl rfl rfl rfl (Zv (k := 0) rfl) (Z2p q n _ (by have := hJ2.sw.len; omega) hN x.2.1 x.2.2.1 (by omega) (by omega) hJ2.bd) (fun v15 hv15 => ?_)
      have hJ3 := hJ2.move (by omega) hv15.1
      refine Z3 ?_
      refine Ze rfl ?_ ?_
      ·intro hc
       refine Z02 ?_
       exact Zr rfl Zu (.cons_cons _ .slnil) (gp v15.1 ⟨hJ3.sw, hJ2.fin _ hv15.1 ((hv15.2 hc).on mLtT.ok)⟩ rfl rfl)
      ·intro hc
       have hl3 := hJ3.sw.len
       refine Zi ?_
       refine Z4 ?_
       refine Z4 ?_
       refine Z0d [0, 1, 3, 7, 7, 7, 39, 119, 247, 7, 7, 1543, 3591, 8191, 16383, 32767, 65535] 17 rfl (by kernel_rfl) ?_
       refine cM rfl rfl rfl rfl ?_
       refine Za (w0 rfl) rfl (Zb rfl rfl rfl rfl) ?_
       refine cM rfl rfl rfl rfl ?_
       refine Zc (wT rfl rfl rfl rfl) rfl (fun hg => (Z7 rfl rfl)) ?_
       refine Zc (wT rfl rfl rfl rfl) rfl (fun hg => (Z7 rfl rfl)) ?_
       refine Zc (wT rfl rfl rfl rfl) rfl (fun hg => (Z7 rfl rfl)) ?_
       refine Zc (wT rfl rfl rfl rfl) rfl (fun hg => (Z6 rfl (Z04 hg rfl) rfl (Zd (by omega)))) ?_
       refine Zc (wT rfl rfl rfl rfl) rfl (fun hg => (Z2 (x.2.1 - 1) rfl (Z04 hg rfl) (Z04 hg rfl) (by (try simp at hg) <;> omega) (by (try simp at hg) <;> omega) (by omega))) ?_
       refine Zs (f := MRef.cells) 0 (wT rfl rfl rfl rfl) rfl rfl (fun hg => (Z04 hg rfl)) rfl (fun hg => by (try simp at hg) <;> omega) (fun _ => Zk rfl) ?_
       refine Zc (wT rfl rfl rfl rfl) rfl (fun hg => (Z7 rfl rfl)) ?_
       refine Zc (wT rfl rfl rfl rfl) rfl (fun hg => (Z7 rfl rfl)) ?_
       refine Zc (wT rfl rfl rfl rfl) rfl (fun hg => (Z2 p2 rfl (Z04 hg rfl) (Z04 hg rfl) (by (try simp at hg) <;> omega) (by (try simp at hg) <;> omega) (by omega))) ?_
       refine Zs (f := MRef.cells) 0 (wT rfl rfl rfl rfl) rfl rfl (fun hg => (Z04 hg rfl)) rfl (fun hg => by (try simp at hg) <;> omega) (fun _ => Zk rfl) ?_
       refine Zc (wT rfl rfl rfl rfl) rfl (fun hg => (Zq [] rfl (Z04 hg rfl) (Zj (Z04 hg rfl) (Zj (Z04 hg rfl) Z0e)) (Z0a _ _) List.nodup_nil)) ?_
       refine Zc (wT rfl rfl rfl rfl) rfl (fun hg => (Zb rfl (Z04 hg rfl) rfl rfl)) ?_
       refine Zc (wT rfl rfl rfl rfl) rfl (fun hg => (Z0m rfl (Z04 hg rfl))) ?_
       refine Za (w0 rfl) rfl (Z0l rfl rfl rfl (fun h => h)) ?_
       refine .done ?_
       refine Z3 ?_
       refine Ze rfl ?_ ?_
       ·intro hc
        have ha0 : 0 < x.2.1 := by have := Z71 hc; simpa using this
        have hpe := Z8b (Z72 hc)
        refine Z4 ?_
        refine Z0 ?_
        refine aM rfl rfl rfl rfl ?_
        refine aM rfl rfl rfl rfl ?_
        refine aM rfl rfl rfl rfl ?_
        refine aM rfl rfl rfl rfl ?_
        refine aM rfl rfl rfl rfl ?_
        refine Zh [_] _ (w0 rfl) rfl rfl rfl rfl (Zv (k := 0) rfl) (Z1u q n _ (by omega) hN x.2.1 x.2.2.1 p2 hp2'.1 hp2'.2 (by omega)) (fun v16 hv16 => ?_)
        refine aA rfl rfl rfl rfl ?_
        refine Z3 ?_
        refine Z4 ?_
        refine Z0 ?_
        refine aM rfl rfl rfl rfl ?_
        refine aA rfl rfl rfl rfl ?_
        refine Z3 ?_
        refine Z05 ?_
        refine ⟨(v16.1, v16.2, x.2.2.1, IntKind.i64.wrap (x.2.2.2.1 - 1), x.2.2.2.2.1, x.2.2.2.2.2), (by obtain ⟨j, e, he⟩ := hv16.2.2.2.2; exact (hJ3.move (by omega) hv16.1).equal mLtT.ok (by omega) ha0 (by rw [hv16.1.out (.inl (by omega)), hv16.2.2.2.1]; exact hpe) he e hv16.2.1 hv16.2.2.1), (by (try simp only) <;> (have := hv16.2.1; omega)), ?_⟩
        exact Z8 [0] ⟨rfl, rfl, rfl, rfl, rfl, rfl, rfl, trivial⟩ rfl (by decide) rfl rfl
       ·intro hc
        refine Zi ?_
        refine Z4 ?_
        refine Z0 ?_
        refine aM rfl rfl rfl rfl ?_
        refine aM rfl rfl rfl rfl ?_
        refine aM rfl rfl rfl rfl ?_
        refine aM rfl rfl rfl rfl ?_
        refine aM rfl rfl rfl rfl ?_
        refine Zh [_] _ (w0 rfl) rfl rfl rfl rfl (Zv (k := 0) rfl) (Z2h q n _ (by omega) hN x.2.1 x.2.2.1 p2 hp2'.1 hp2'.2 (by omega)) (fun v17 hv17 => ?_)
        refine aM rfl rfl rfl rfl ?_
        refine Z5 (w0 rfl) rfl (Zt rfl rfl rfl) ?_
        refine Z5 (w0 rfl) rfl (Zt rfl rfl rfl) ?_
        refine aA rfl rfl rfl rfl ?_
        refine aA rfl rfl rfl rfl ?_
        refine Z3 ?_
        refine Z4 ?_
        refine Z0 ?_
        refine aM rfl rfl rfl rfl ?_
        refine aA rfl rfl rfl rfl ?_
        refine Z3 ?_
        refine Z4 ?_
        have hJ4 := hJ3.move (by omega) hv17.1
        have hl4 := hJ4.sw.len
        have hmid : x.2.1 ≤ v17.2.1 ∧ v17.2.1 < x.2.2.1 := ⟨hv17.2.1, hv17.2.2.1⟩
        refine Z0 ?_
        refine aM rfl rfl rfl rfl ?_
        refine aM rfl rfl rfl rfl ?_
        refine Z5 (w0 rfl) rfl (Z6 rfl rfl rfl (Zd (by omega))) ?_
        refine aM rfl rfl rfl rfl ?_
        refine aM rfl rfl rfl rfl ?_
        refine Z5 (w0 rfl) rfl (Z6 rfl rfl rfl (Zd (by omega))) ?_
        refine aA rfl rfl rfl rfl ?_
        refine aA rfl rfl rfl rfl ?_
        refine Z3 ?_
        refine Z4 ?_
        refine Z0 ?_
        refine aM rfl rfl rfl rfl ?_
        refine Z5 (w0 rfl) rfl (Zz (y := iA ((x.2.2.1 - x.2.1) / 8 : Nat)) (Z18 rfl rfl rfl (by decide) (Z0y (x.2.2.1 - x.2.1) 8 (by omega))) (congrArg iA (Z43 (x.2.2.1 - x.2.1) 8))) ?_
        refine aA rfl rfl rfl rfl ?_
        refine Z3 ?_
        refine Z4 ?_
        refine Z0 ?_
        refine aM rfl rfl rfl rfl ?_
        refine aM rfl rfl rfl rfl ?_
        refine Z5 (w0 rfl) rfl (Zb rfl rfl rfl rfl) ?_
        refine Z3 ?_
        refine Ze rfl ?_ ?_
        ·intro hc
         refine Z4 ?_
         refine Z0 ?_
         refine aM rfl rfl rfl rfl ?_
         refine aM rfl rfl rfl rfl ?_
         refine Z5 (w0 rfl) rfl (Zb rfl rfl rfl rfl) ?_
         refine aA rfl rfl rfl rfl ?_
         refine Z3 ?_
         refine Z4 ?_
         refine Z0o 10 rfl (fun wb hwb => ?_)
         refine Z0 ?_
         refine aM rfl rfl rfl rfl ?_
         refine aM rfl rfl rfl rfl ?_
         refine aM rfl rfl rfl rfl ?_
         refine aM rfl rfl rfl rfl ?_
         refine aM rfl rfl rfl rfl ?_
         refine Zh [_] _ (w0 rfl) rfl rfl rfl rfl (Zv (k := 0) rfl) (ih (v17.2.1 - x.2.1) (by omega) _ (by omega) x.2.1 v17.2.1 _ (Nat.le_refl _) (by omega) (by omega) (hJ4.bd.le (by omega))) (fun v18 hv18 => ?_)
         refine Z3 ?_
         refine Z0 ?_
         refine aM rfl rfl rfl rfl ?_
         refine Z5 (w0 rfl) rfl (Z6 rfl rfl rfl (Z9 (by omega))) ?_
         refine aA rfl rfl rfl rfl ?_
         refine Z3 ?_
         refine ⟨(v18, v17.2.1 + 1, x.2.2.1, IntKind.i64.wrap (x.2.2.2.1 - 1), wb, v17.2.2), (hJ4.lower mLtT.ok (by omega) hmid hv17.2.2.2 hv18.1 hv18.2), (by (try simp only) <;> omega), ?_⟩
         exact Z8 [0] ⟨rfl, rfl, rfl, rfl, rfl, rfl, rfl, trivial⟩ rfl (by decide) rfl rfl
        ·intro hc
         refine Z4 ?_
         refine Z0 ?_
         refine aM rfl rfl rfl rfl ?_
         refine aM rfl rfl rfl rfl ?_
         refine Z5 (w0 rfl) rfl (Zb rfl rfl rfl rfl) ?_
         refine aA rfl rfl rfl rfl ?_
         refine Z3 ?_
         refine Z4 ?_
         refine Z0o 10 rfl (fun wb hwb => ?_)
         refine Z0 ?_
         refine aM rfl rfl rfl rfl ?_
         refine aM rfl rfl rfl rfl ?_
         refine Z5 (w0 rfl) rfl (Z6 rfl rfl rfl (Z9 (by omega))) ?_
         refine aM rfl rfl rfl rfl ?_
         refine aM rfl rfl rfl rfl ?_
         refine aM rfl rfl rfl rfl ?_
         refine Zh [_] _ (w0 rfl) rfl rfl rfl rfl (Zv (k := 0) rfl) (ih (x.2.2.1 - (v17.2.1 + 1)) (by omega) _ (by omega) (v17.2.1 + 1) x.2.2.1 _ (Nat.le_refl _) (by omega) (by omega) hv17.2.2.2.bd) (fun v19 hv19 => ?_)
         refine Z3 ?_
         refine Z0 ?_
         refine aM rfl rfl rfl rfl ?_
         refine aA rfl rfl rfl rfl ?_
         refine Z3 ?_
         refine ⟨(v19, x.2.1, v17.2.1, IntKind.i64.wrap (x.2.2.2.1 - 1), wb, v17.2.2), (hJ4.upper mLtT.ok (by omega) hmid hv17.2.2.2 hv19.1 hv19.2), (by (try simp only) <;> omega), ?_⟩
         exact Z8 [0] ⟨rfl, rfl, rfl, rfl, rfl, rfl, rfl, trivial⟩ rfl (by decide) rfl rfl
     ·intro hc
      have hJ3 := hJ2
      have hl3 := hJ3.sw.len
      refine Zi ?_
      refine Z4 ?_
      refine Z4 ?_
      refine Z0d [0, 1, 3, 7, 7, 7, 39, 119, 247, 7, 7, 1543, 3591, 8191, 16383, 32767, 65535] 17 rfl (by kernel_rfl) ?_
      refine cM rfl rfl rfl rfl ?_
      refine Za (w0 rfl) rfl (Zb rfl rfl rfl rfl) ?_
      refine cM rfl rfl rfl rfl ?_
      refine Zc (wT rfl rfl rfl rfl) rfl (fun hg => (Z7 rfl rfl)) ?_
      refine Zc (wT rfl rfl rfl rfl) rfl (fun hg => (Z7 rfl rfl)) ?_
      refine Zc (wT rfl rfl rfl rfl) rfl (fun hg => (Z7 rfl rfl)) ?_
      refine Zc (wT rfl rfl rfl rfl) rfl (fun hg => (Z6 rfl (Z04 hg rfl) rfl (Zd (by omega)))) ?_
      refine Zc (wT rfl rfl rfl rfl) rfl (fun hg => (Z2 (x.2.1 - 1) rfl (Z04 hg rfl) (Z04 hg rfl) (by (try simp at hg) <;> omega) (by (try simp at hg) <;> omega) (by omega))) ?_
      refine Zs (f := MRef.cells) 0 (wT rfl rfl rfl rfl) rfl rfl (fun hg => (Z04 hg rfl)) rfl (fun hg => by (try simp at hg) <;> omega) (fun _ => Zk rfl) ?_
      refine Zc (wT rfl rfl rfl rfl) rfl (fun hg => (Z7 rfl rfl)) ?_
      refine Zc (wT rfl rfl rfl rfl) rfl (fun hg => (Z7 rfl rfl)) ?_
      refine Zc (wT rfl rfl rfl rfl) rfl (fun hg => (Z2 p2 rfl (Z04 hg rfl) (Z04 hg rfl) (by (try simp at hg) <;> omega) (by (try simp at hg) <;> omega) (by omega))) ?_
      refine Zs (f := MRef.cells) 0 (wT rfl rfl rfl rfl) rfl rfl (fun hg => (Z04 hg rfl)) rfl (fun hg => by (try simp at hg) <;> omega) (fun _ => Zk rfl) ?_
      refine Zc (wT rfl rfl rfl rfl) rfl (fun hg => (Zq [] rfl (Z04 hg rfl) (Zj (Z04 hg rfl) (Zj (Z04 hg rfl) Z0e)) (Z0a _ _) List.nodup_nil)) ?_
      refine Zc (wT rfl rfl rfl rfl) rfl (fun hg => (Zb rfl (Z04 hg rfl) rfl rfl)) ?_
      refine Zc (wT rfl rfl rfl rfl) rfl (fun hg => (Z0m rfl (Z04 hg rfl))) ?_
      refine Za (w0 rfl) rfl (Z0l rfl rfl rfl (fun h => h)) ?_
      refine .done ?_
      refine Z3 ?_
      refine Ze rfl ?_ ?_
      ·intro hc
       have ha0 : 0 < x.2.1 := by have := Z71 hc; simpa using this
       have hpe := Z8b (Z72 hc)
       refine Z4 ?_
       refine Z0 ?_
       refine aM rfl rfl rfl rfl ?_
       refine aM rfl rfl rfl rfl ?_
       refine aM rfl rfl rfl rfl ?_
       refine aM rfl rfl rfl rfl ?_
       refine aM rfl rfl rfl rfl ?_
       refine Zh [_] _ (w0 rfl) rfl rfl rfl rfl (Zv (k := 0) rfl) (Z1u q n _ (by omega) hN x.2.1 x.2.2.1 p2 hp2'.1 hp2'.2 (by omega)) (fun v20 hv20 => ?_)
       refine aA rfl rfl rfl rfl ?_
       refine Z3 ?_
       refine Z4 ?_
       refine Z0 ?_
       refine aM rfl rfl rfl rfl ?_
       refine aA rfl rfl rfl rfl ?_
       refine Z3 ?_
       refine Z05 ?_
       refine ⟨(v20.1, v20.2, x.2.2.1, IntKind.i64.wrap (x.2.2.2.1 - 1), x.2.2.2.2.1, x.2.2.2.2.2), (by obtain ⟨j, e, he⟩ := hv20.2.2.2.2; exact (hJ3.move (by omega) hv20.1).equal mLtT.ok (by omega) ha0 (by rw [hv20.1.out (.inl (by omega)), hv20.2.2.2.1]; exact hpe) he e hv20.2.1 hv20.2.2.1), (by (try simp only) <;> (have := hv20.2.1; omega)), ?_⟩
       exact Z8 [0] ⟨rfl, rfl, rfl, rfl, rfl, rfl, rfl, trivial⟩ rfl (by decide) rfl rfl
      ·intro hc
       refine Zi ?_
       refine Z4 ?_
       refine Z0 ?_
       refine aM rfl rfl rfl rfl ?_
       refine aM rfl rfl rfl rfl ?_
       refine aM rfl rfl rfl rfl ?_
       refine aM rfl rfl rfl rfl ?_
       refine aM rfl rfl rfl rfl ?_
       refine Zh [_] _ (w0 rfl) rfl rfl rfl rfl (Zv (k := 0) rfl) (Z2h q n _ (by omega) hN x.2.1 x.2.2.1 p2 hp2'.1 hp2'.2 (by omega)) (fun v21 hv21 => ?_)
       refine aM rfl rfl rfl rfl ?_
       refine Z5 (w0 rfl) rfl (Zt rfl rfl rfl) ?_
       refine Z5 (w0 rfl) rfl (Zt rfl rfl rfl) ?_
       refine aA rfl rfl rfl rfl ?_
       refine aA rfl rfl rfl rfl ?_
       refine Z3 ?_
       refine Z4 ?_
       refine Z0 ?_
       refine aM rfl rfl rfl rfl ?_
       refine aA rfl rfl rfl rfl ?_
       refine Z3 ?_
       refine Z4 ?_
       have hJ4 := hJ3.move (by omega) hv21.1
       have hl4 := hJ4.sw.len
       have hmid : x.2.1 ≤ v21.2.1 ∧ v21.2.1 < x.2.2.1 := ⟨hv21.2.1, hv21.2.2.1⟩
       refine Z0 ?_
       refine aM rfl rfl rfl rfl ?_
       refine aM rfl rfl rfl rfl ?_
       refine Z5 (w0 rfl) rfl (Z6 rfl rfl rfl (Zd (by omega))) ?_
       refine aM rfl rfl rfl rfl ?_
       refine aM rfl rfl rfl rfl ?_
       refine Z5 (w0 rfl) rfl (Z6 rfl rfl rfl (Zd (by omega))) ?_
       refine aA rfl rfl rfl rfl ?_
       refine aA rfl rfl rfl rfl ?_
       refine Z3 ?_
       refine Z4 ?_
       refine Z0 ?_
       refine aM rfl rfl rfl rfl ?_
       refine Z5 (w0 rfl) rfl (Zz (y := iA ((x.2.2.1 - x.2.1) / 8 : Nat)) (Z18 rfl rfl rfl (by decide) (Z0y (x.2.2.1 - x.2.1) 8 (by omega))) (congrArg iA (Z43 (x.2.2.1 - x.2.1) 8))) ?_
       refine aA rfl rfl rfl rfl ?_
       refine Z3 ?_
       refine Z4 ?_
       refine Z0 ?_
       refine aM rfl rfl rfl rfl ?_
       refine aM rfl rfl rfl rfl ?_
       refine Z5 (w0 rfl) rfl (Zb rfl rfl rfl rfl) ?_
       refine Z3 ?_
       refine Ze rfl ?_ ?_
       ·intro hc
        refine Z4 ?_
        refine Z0 ?_
        refine aM rfl rfl rfl rfl ?_
        refine aM rfl rfl rfl rfl ?_
        refine Z5 (w0 rfl) rfl (Zb rfl rfl rfl rfl) ?_
        refine aA rfl rfl rfl rfl ?_
        refine Z3 ?_
        refine Z4 ?_
        refine Z0o 10 rfl (fun wb hwb => ?_)
        refine Z0 ?_
        refine aM rfl rfl rfl rfl ?_
        refine aM rfl rfl rfl rfl ?_
        refine aM rfl rfl rfl rfl ?_
        refine aM rfl rfl rfl rfl ?_
        refine aM rfl rfl rfl rfl ?_
        refine Zh [_] _ (w0 rfl) rfl rfl rfl rfl (Zv (k := 0) rfl) (ih (v21.2.1 - x.2.1) (by omega) _ (by omega) x.2.1 v21.2.1 _ (Nat.le_refl _) (by omega) (by omega) (hJ4.bd.le (by omega))) (fun v22 hv22 => ?_)
        refine Z3 ?_
        refine Z0 ?_
        refine aM rfl rfl rfl rfl ?_
        refine Z5 (w0 rfl) rfl (Z6 rfl rfl rfl (Z9 (by omega))) ?_
        refine aA rfl rfl rfl rfl ?_
        refine Z3 ?_
        refine ⟨(v22, v21.2.1 + 1, x.2.2.1, IntKind.i64.wrap (x.2.2.2.1 - 1), wb, v21.2.2), (hJ4.lower mLtT.ok (by omega) hmid hv21.2.2.2 hv22.1 hv22.2), (by (try simp only) <;> omega), ?_⟩
        exact Z8 [0] ⟨rfl, rfl, rfl, rfl, rfl, rfl, rfl, trivial⟩ rfl (by decide) rfl rfl
       ·intro hc
        refine Z4 ?_
        refine Z0 ?_
        refine aM rfl rfl rfl rfl ?_
        refine aM rfl rfl rfl rfl ?_
        refine Z5 (w0 rfl) rfl (Zb rfl rfl rfl rfl) ?_
        refine aA rfl rfl rfl rfl ?_
        refine Z3 ?_
        refine Z4 ?_
        refine Z0o 10 rfl (fun wb hwb => ?_)
        refine Z0 ?_
        refine aM rfl rfl rfl rfl ?_
        refine aM rfl rfl rfl rfl ?_
        refine Z5 (w0 rfl) rfl (Z6 rfl rfl rfl (Z9 (by omega))) ?_
        refine aM rfl rfl rfl rfl ?_
        refine aM rfl rfl rfl rfl ?_
        refine aM rfl rfl rfl rfl ?_
        refine Zh [_] _ (w0 rfl) rfl rfl rfl rfl (Zv (k := 0) rfl) (ih (x.2.2.1 - (v21.2.1 + 1)) (by omega) _ (by omega) (v21.2.1 + 1) x.2.2.1 _ (Nat.le_refl _) (by omega) (by omega) hv21.2.2.2.bd) (fun v23 hv23 => ?_)
        refine Z3 ?_
        refine Z0 ?_
        refine aM rfl rfl rfl rfl ?_
        refine aA rfl rfl rfl rfl ?_
        refine Z3 ?_
        refine ⟨(v23, x.2.1, v21.2.1, IntKind.i64.wrap (x.2.2.2.1 - 1), wb, v21.2.2), (hJ4.upper mLtT.ok (by omega) hmid hv21.2.2.2 hv23.1 hv23.2), (by (try simp only) <;> omega), ?_⟩
        exact Z8 [0] ⟨rfl, rfl, rfl, rfl, rfl, rfl, rfl, trivial⟩ rfl (by decide) rfl rfl
   ·intro hc
    have hJ1 := hJ
    refine Zi ?_
    refine Z4 ?_
    refine Z0 ?_
    refine aM rfl rfl rfl rfl ?_
    refine aM rfl rfl rfl rfl ?_
    refine aM rfl rfl rfl rfl ?_
    refine aM rfl rfl rfl rfl ?_
    refine Zh [_] _ (w0 rfl) rfl rfl rfl rfl (Zv (k := 0) rfl) (Z9g q n _ (by have := hJ1.sw.len; omega) hN x.2.1 x.2.2.1 (by omega) (by omega)) (fun v24 hv24 => ?_)
    refine aM rfl rfl rfl rfl ?_
    refine Z5 (w0 rfl) rfl (Zt rfl rfl rfl) ?_
    refine Z5 (w0 rfl) rfl (Zt rfl rfl rfl) ?_
    refine aA rfl rfl rfl rfl ?_
    refine aA rfl rfl rfl rfl ?_
    refine Z3 ?_
    refine Z4 ?_
    refine Z4 ?_
    refine Z09 13 rfl (fun pv hpv => ?_)
    have hp : x.2.1 ≤ pv ∧ pv < x.2.2.1 := by rw [hpv]; exact hv24
    refine Z0 ?_
    refine aM rfl rfl rfl rfl ?_
    refine Z5 (w0 rfl) rfl (Zb rfl rfl rfl rfl) ?_
    refine Z3 ?_
    refine Ze rfl ?_ ?_
    ·intro hc
     refine Z4 ?_
     refine Z0 ?_
     refine aM rfl rfl rfl rfl ?_
     refine aM rfl rfl rfl rfl ?_
     refine aM rfl rfl rfl rfl ?_
     refine aM rfl rfl rfl rfl ?_
     refine Zh [_] _ (w0 rfl) rfl rfl rfl rfl (Zv (k := 0) rfl) (Zef q n _ (by have := hJ1.sw.len; omega) hN x.2.1 x.2.2.1 (by omega) (by omega)) (fun v25 hv25 => ?_)
     have hJ2 := hJ1.move (by omega) hv25
     refine Z3 ?_
     refine Z4 ?_
     refine Z0 ?_
     refine aM rfl rfl rfl rfl ?_
     refine Z5 (w0 rfl) rfl (Z6 rfl rfl rfl (Zd (by omega))) ?_
     refine aM rfl rfl rfl rfl ?_
     refine aM rfl rfl rfl rfl ?_
     refine Z5 (w0 rfl) rfl (Z6 rfl rfl rfl (Zd (by omega))) ?_
     refine Z5 (w0 rfl) rfl (Zz (y := iA (x.2.2.1 - 1 - (pv - x.2.1) : Nat)) (Z6 rfl rfl rfl (Zd (by omega))) (congrArg iA (by omega))) ?_
     refine aA rfl rfl rfl rfl ?_
     refine Z3 ?_
     refine Z0 ?_
     refine aA rfl rfl rfl rfl ?_
     refine Z3 ?_
     refine Z4 ?_
     refine Z4 ?_
     refine Z09 13 rfl (fun p2 hp2 => ?_)
     have hp2' : x.2.1 ≤ p2 ∧ p2 < x.2.2.1 := by omega
     refine Z0 ?_
     refine aM rfl rfl rfl rfl ?_
     refine aM rfl rfl rfl rfl ?_
     refine Z1y (wT rfl rfl rfl rfl) rfl (fun hg => (Z7 rfl rfl)) ?_
     refine Z5 (w0 rfl) rfl (Z0l rfl rfl rfl (fun h => h)) ?_
     refine aM rfl rfl rfl rfl ?_
     refine Z1y (wT rfl rfl rfl rfl) rfl (fun hg => (Z7 rfl rfl)) ?_
     refine Z1y (wT rfl rfl rfl rfl) rfl (fun hg => (Zb rfl (Z04 hg rfl) rfl rfl)) ?_
     refine Z5 (w0 rfl) rfl (Z0l rfl rfl rfl (fun h => h)) ?_
     refine Z3 ?_
     refine Ze rfl ?_ ?_
     ·intro hc
      refine Z4 ?_
      refine Z0 ?_
      refine aM rfl rfl rfl rfl ?_
      refine aM rfl rfl rfl rfl ?_
      refine aM rfl rfl rfl rfl ?_
      refine aM rfl rfl rfl rfl ?_
      refine Zh [_] _ (w0 rfl) rfl rfl rfl rfl (Zv (k := 0) rfl) (Z2p q n _ (by have := hJ2.sw.len; omega) hN x.2.1 x.2.2.1 (by omega) (by omega) hJ2.bd) (fun v26 hv26 => ?_)
      have hJ3 := hJ2.move (by omega) hv26.1
      refine Z3 ?_
      refine Ze rfl ?_ ?_
      ·intro hc
       refine Z02 ?_
       exact Zr rfl Zu (.cons_cons _ .slnil) (gp v26.1 ⟨hJ3.sw, hJ2.fin _ hv26.1 ((hv26.2 hc).on mLtT.ok)⟩ rfl rfl)
      ·intro hc
       have hl3 := hJ3.sw.len
       refine Zi ?_
       refine Z4 ?_
       refine Z4 ?_
       refine Z0d [0, 1, 3, 7, 7, 7, 39, 119, 247, 7, 7, 1543, 3591, 8191, 16383, 32767, 65535] 17 rfl (by kernel_rfl) ?_
       refine cM rfl rfl rfl rfl ?_
       refine Za (w0 rfl) rfl (Zb rfl rfl rfl rfl) ?_
       refine cM rfl rfl rfl rfl ?_
       refine Zc (wT rfl rfl rfl rfl) rfl (fun hg => (Z7 rfl rfl)) ?_
       refine Zc (wT rfl rfl rfl rfl) rfl (fun hg => (Z7 rfl rfl)) ?_
       refine Zc (wT rfl rfl rfl rfl) rfl (fun hg => (Z7 rfl rfl)) ?_
       refine Zc (wT rfl rfl rfl rfl) rfl (fun hg => (Z6 rfl (Z04 hg rfl) rfl (Zd (by omega)))) ?_
       refine Zc (wT rfl rfl rfl rfl) rfl (fun hg => (Z2 (x.2.1 - 1) rfl (Z04 hg rfl) (Z04 hg rfl) (by (try simp at hg) <;> omega) (by (try simp at hg) <;> omega) (by omega))) ?_
       refine Zs (f := MRef.cells) 0 (wT rfl rfl rfl rfl) rfl rfl (fun hg => (Z04 hg rfl)) rfl (fun hg => by (try simp at hg) <;> omega) (fun _ => Zk rfl) ?_
       refine Zc (wT rfl rfl rfl rfl) rfl (fun hg => (Z7 rfl rfl)) ?_
       refine Zc (wT rfl rfl rfl rfl) rfl (fun hg => (Z7 rfl rfl)) ?_
       refine Zc (wT rfl rfl rfl rfl) rfl (fun hg => (Z2 p2 rfl (Z04 hg rfl) (Z04 hg rfl) (by (try simp at hg) <;> omega) (by (try simp at hg) <;> omega) (by omega))) ?_
       refine Zs (f := MRef.cells) 0 (wT rfl rfl rfl rfl) rfl rfl (fun hg => (Z04 hg rfl)) rfl (fun hg => by (try simp at hg) <;> omega) (fun _ => Zk rfl) ?_
       refine Zc (wT rfl rfl rfl rfl) rfl (fun hg => (Zq [] rfl (Z04 hg rfl) (Zj (Z04 hg rfl) (Zj (Z04 hg rfl) Z0e)) (Z0a _ _) List.nodup_nil)) ?_
       refine Zc (wT rfl rfl rfl rfl) rfl (fun hg => (Zb rfl (Z04 hg rfl) rfl rfl)) ?_
       refine Zc (wT rfl rfl rfl rfl) rfl (fun hg => (Z0m rfl (Z04 hg rfl))) ?_
       refine Za (w0 rfl) rfl (Z0l rfl rfl rfl (fun h => h)) ?_
       refine .done ?_
       refine Z3 ?_
       refine Ze rfl ?_ ?_
       ·intro hc
        have ha0 : 0 < x.2.1 := by have := Z71 hc; simpa using this
        have hpe := Z8b (Z72 hc)
        refine Z4 ?_
        refine Z0 ?_
        refine aM rfl rfl rfl rfl ?_
        refine aM rfl rfl rfl rfl ?_
        refine aM rfl rfl rfl rfl ?_
        refine aM rfl rfl rfl rfl ?_
        refine aM rfl rfl rfl rfl ?_
        refine Zh [_] _ (w0 rfl) rfl rfl rfl rfl (Zv (k := 0) rfl) (Z1u q n _ (by omega) hN x.2.1 x.2.2.1 p2 hp2'.1 hp2'.2 (by omega)) (fun v27 hv27 => ?_)
        refine aA rfl rfl rfl rfl ?_
        refine Z3 ?_
        refine Z4 ?_
        refine Z0 ?_
        refine aM rfl rfl rfl rfl ?_
        refine aA rfl rfl rfl rfl ?_
        refine Z3 ?_
        refine Z05 ?_
        refine ⟨(v27.1, v27.2, x.2.2.1, x.2.2.2.1, x.2.2.2.2.1, x.2.2.2.2.2), (by obtain ⟨j, e, he⟩ := hv27.2.2.2.2; exact (hJ3.move (by omega) hv27.1).equal mLtT.ok (by omega) ha0 (by rw [hv27.1.out (.inl (by omega)), hv27.2.2.2.1]; exact hpe) he e hv27.2.1 hv27.2.2.1), (by (try simp only) <;> (have := hv27.2.1; omega)), ?_⟩
        exact Z8 [0] ⟨rfl, rfl, rfl, rfl, rfl, rfl, rfl, trivial⟩ rfl (by decide) rfl rfl
       ·intro hc
        refine Zi ?_
        refine Z4 ?_
        refine Z0 ?_
        refine aM rfl rfl rfl rfl ?_
        refine aM rfl rfl rfl rfl ?_
        refine aM rfl rfl rfl rfl ?_
        refine aM rfl rfl rfl rfl ?_
        refine aM rfl rfl rfl rfl ?_
        refine Zh [_] _ (w0 rfl) rfl rfl rfl rfl (Zv (k := 0) rfl) (Z2h q n _ (by omega) hN x.2.1 x.2.2.1 p2 hp2'.1 hp2'.2 (by omega)) (fun v28 hv28 => ?_)
        refine aM rfl rfl rfl rfl ?_
        refine Z5 (w0 rfl) rfl (Zt rfl rfl rfl) ?_
        refine Z5 (w0 rfl) rfl (Zt rfl rfl rfl) ?_
        refine aA rfl rfl rfl rfl ?_
        refine aA rfl rfl rfl rfl ?_
        refine Z3 ?_
        refine Z4 ?_
        refine Z0 ?_
        refine aM rfl rfl rfl rfl ?_
        refine aA rfl rfl rfl rfl ?_
        refine Z3 ?_
        refine Z4 ?_
        have hJ4 := hJ3.move (by omega) hv28.1
        have hl4 := hJ4.sw.len
        have hmid : x.2.1 ≤ v28.2.1 ∧ v28.2.1 < x.2.2.1 := ⟨hv28.2.1, hv28.2.2.1⟩
        refine Z0 ?_
        refine aM rfl rfl rfl rfl ?_
        refine aM rfl rfl rfl rfl ?_
        refine Z5 (w0 rfl) rfl (Z6 rfl rfl rfl (Zd (by omega))) ?_
        refine aM rfl rfl rfl rfl ?_
        refine aM rfl rfl rfl rfl ?_
        refine Z5 (w0 rfl) rfl (Z6 rfl rfl rfl (Zd (by omega))) ?_
        refine aA rfl rfl rfl rfl ?_
        refine aA rfl rfl rfl rfl ?_
        refine Z3 ?_
        refine Z4 ?_
        refine Z0 ?_
        refine aM rfl rfl rfl rfl ?_
        refine Z5 (w0 rfl) rfl (Zz (y := iA ((x.2.2.1 - x.2.1) / 8 : Nat)) (Z18 rfl rfl rfl (by decide) (Z0y (x.2.2.1 - x.2.1) 8 (by omega))) (congrArg iA (Z43 (x.2.2.1 - x.2.1) 8))) ?_
        refine aA rfl rfl rfl rfl ?_
        refine Z3 ?_
        refine Z4 ?_
        refine Z0 ?_
        refine aM rfl rfl rfl rfl ?_
        refine aM rfl rfl rfl rfl ?_
        refine Z5 (w0 rfl) rfl (Zb rfl rfl rfl rfl) ?_
        refine Z3 ?_
        refine Ze rfl ?_ ?_
        ·intro hc
         refine Z4 ?_
         refine Z0 ?_
         refine aM rfl rfl rfl rfl ?_
         refine aM rfl rfl rfl rfl ?_
         refine Z5 (w0 rfl) rfl (Zb rfl rfl rfl rfl) ?_
         refine aA rfl rfl rfl rfl ?_
         refine Z3 ?_
         refine Z4 ?_
         refine Z0o 10 rfl (fun wb hwb => ?_)
         refine Z0 ?_
         refine aM rfl rfl rfl rfl ?_
         refine aM rfl rfl rfl rfl ?_
         refine aM rfl rfl rfl rfl ?_
         refine aM rfl rfl rfl rfl ?_
         refine aM rfl rfl rfl rfl ?_
         refine Zh [_] _ (w0 rfl) rfl rfl rfl rfl (Zv (k := 0) rfl) (ih (v28.2.1 - x.2.1) (by omega) _ (by omega) x.2.1 v28.2.1 _ (Nat.le_refl _) (by omega) (by omega) (hJ4.bd.le (by omega))) (fun v29 hv29 => ?_)
         refine Z3 ?_
         refine Z0 ?_
         refine aM rfl rfl rfl rfl ?_
         refine Z5 (w0 rfl) rfl (Z6 rfl rfl rfl (Z9 (by omega))) ?_
         refine aA rfl rfl rfl rfl ?_
         refine Z3 ?_
         refine ⟨(v29, v28.2.1 + 1, x.2.2.1, x.2.2.2.1, wb, v28.2.2), (hJ4.lower mLtT.ok (by omega) hmid hv28.2.2.2 hv29.1 hv29.2), (by (try simp only) <;> omega), ?_⟩
         exact Z8 [0] ⟨rfl, rfl, rfl, rfl, rfl, rfl, rfl, trivial⟩ rfl (by decide) rfl rfl
        ·intro hc
         refine Z4 ?_
         refine Z0 ?_
         refine aM rfl rfl rfl rfl ?_
         refine aM rfl rfl rfl rfl ?_
         refine Z5 (w0 rfl) rfl (Zb rfl rfl rfl rfl) ?_
         refine aA rfl rfl rfl rfl ?_
         refine Z3 ?_
         refine Z4 ?_
         refine Z0o 10 rfl (fun wb hwb => ?_)
         refine Z0 ?_
         refine aM rfl rfl rfl rfl ?_
         refine aM rfl rfl rfl rfl ?_
         refine Z5 (w0 rfl) rfl (Z6 rfl rfl rfl (Z9 (by omega))) ?_
         refine aM rfl rfl rfl rfl ?_
         refine aM rfl rfl rfl rfl ?_
         refine aM rfl rfl rfl rfl ?_
         refine Zh [_] _ (w0 rfl) rfl rfl rfl rfl (Zv (k := 0) rfl) (ih (x.2.2.1 - (v28.2.1 + 1)) (by omega) _ (by omega) (v28.2.1 + 1) x.2.2.1 _ (Nat.le_refl _) (by omega) (by omega) hv28.2.2.2.bd) (fun v30 hv30 => ?_)
         refine Z3 ?_
         refine Z0 ?_
         refine aM rfl rfl rfl rfl ?_
         refine aA rfl rfl rfl rfl ?_
         refine Z3 ?_
         refine ⟨(v30, x.2.1, v28.2.1, x.2.2.2.1, wb, v28.2.2), (hJ4.upper mLtT.ok (by omega) hmid hv28.2.2.2 hv30.1 hv30.2), (by (try simp only) <;> omega), ?_⟩
         exact Z8 [0] ⟨rfl, rfl, rfl, rfl, rfl, rfl, rfl, trivial⟩ rfl (by decide) rfl rfl
     ·intro hc
      have hJ3 := hJ2
      have hl3 := hJ3.sw.len
      refine Zi ?_
      refine Z4 ?_
      refine Z4 ?_
      refine Z0d [0, 1, 3, 7, 7, 7, 39, 119, 247, 7, 7, 1543, 3591, 8191, 16383, 32767, 65535] 17 rfl (by kernel_rfl) ?_
      refine cM rfl rfl rfl rfl ?_
      refine Za (w0 rfl) rfl (Zb rfl rfl rfl rfl) ?_
      refine cM rfl rfl rfl rfl ?_
      refine Zc (wT rfl rfl rfl rfl) rfl (fun hg => (Z7 rfl rfl)) ?_
      refine Zc (wT rfl rfl rfl rfl) rfl (fun hg => (Z7 rfl rfl)) ?_
      refine Zc (wT rfl rfl rfl rfl) rfl (fun hg => (Z7 rfl rfl)) ?_
      refine Zc (wT rfl rfl rfl rfl) rfl (fun hg => (Z6 rfl (Z04 hg rfl) rfl (Zd (by omega)))) ?_
      refine Zc (wT rfl rfl rfl rfl) rfl (fun hg => (Z2 (x.2.1 - 1) rfl (Z04 hg rfl) (Z04 hg rfl) (by (try simp at hg) <;> omega) (by (try simp at hg) <;> omega) (by omega))) ?_
      refine Zs (f := MRef.cells) 0 (wT rfl rfl rfl rfl) rfl rfl (fun hg => (Z04 hg rfl)) rfl (fun hg => by (try simp at hg) <;> omega) (fun _ => Zk rfl) ?_
      refine Zc (wT rfl rfl rfl rfl) rfl (fun hg => (Z7 rfl rfl)) ?_
      refine Zc (wT rfl rfl rfl rfl) rfl (fun hg => (Z7 rfl rfl)) ?_
      refine Zc (wT rfl rfl rfl rfl) rfl (fun hg => (Z2 p2 rfl (Z04 hg rfl) (Z04 hg rfl) (by (try simp at hg) <;> omega) (by (try simp at hg) <;> omega) (by omega))) ?_
      refine Zs (f := MRef.cells) 0 (wT rfl rfl rfl rfl) rfl rfl (fun hg => (Z04 hg rfl)) rfl (fun hg => by (try simp at hg) <;> omega) (fun _ => Zk rfl) ?_
      refine Zc (wT rfl rfl rfl rfl) rfl (fun hg => (Zq [] rfl (Z04 hg rfl) (Zj (Z04 hg rfl) (Zj (Z04 hg rfl) Z0e)) (Z0a _ _) List.nodup_nil)) ?_
      refine Zc (wT rfl rfl rfl rfl) rfl (fun hg => (Zb rfl (Z04 hg rfl) rfl rfl)) ?_
      refine Zc (wT rfl rfl rfl rfl) rfl (fun hg => (Z0m rfl (Z04 hg rfl))) ?_
      refine Za (w0 rfl) rfl (Z0l rfl rfl rfl (fun h => h)) ?_
      refine .done ?_
      refine Z3 ?_
      refine Ze rfl ?_ ?_
      ·intro hc
       have ha0 : 0 < x.2.1 := by have := Z71 hc; simpa using this
       have hpe := Z8b (Z72 hc)
       refine Z4 ?_
       refine Z0 ?_
       refine aM rfl rfl rfl rfl ?_
       refine aM rfl rfl rfl rfl ?_
       refine aM rfl rfl rfl rfl ?_
       refine aM rfl rfl rfl rfl ?_
       refine aM rfl rfl rfl rfl ?_
       refine Zh [_] _ (w0 rfl) rfl rfl rfl rfl (Zv (k := 0) rfl) (Z1u q n _ (by omega) hN x.2.1 x.2.2.1 p2 hp2'.1 hp2'.2 (by omega)) (fun v31 hv31 => ?_)
       refine aA rfl rfl rfl rfl ?_
       refine Z3 ?_
       refine Z4 ?_
       refine Z0 ?_
       refine aM rfl rfl rfl rfl ?_
       refine aA rfl rfl rfl rfl ?_
       refine Z3 ?_
       refine Z05 ?_
       refine ⟨(v31.1, v31.2, x.2.2.1, x.2.2.2.1, x.2.2.2.2.1, x.2.2.2.2.2), (by obtain ⟨j, e, he⟩ := hv31.2.2.2.2; exact (hJ3.move (by omega) hv31.1).equal mLtT.ok (by omega) ha0 (by rw [hv31.1.out (.inl (by omega)), hv31.2.2.2.1]; exact hpe) he e hv31.2.1 hv31.2.2.1), (by (try simp only) <;> (have := hv31.2.1; omega)), ?_⟩
       exact Z8 [0] ⟨rfl, rfl, rfl, rfl, rfl, rfl, rfl, trivial⟩ rfl (by decide) rfl rfl
      ·intro hc
       refine Zi ?_
       refine Z4 ?_
       refine Z0 ?_
       refine aM rfl rfl rfl rfl ?_
       refine aM rfl rfl rfl rfl ?_
       refine aM rfl rfl rfl rfl ?_
       refine aM rfl rfl rfl rfl ?_
       refine aM rfl rfl rfl rfl ?_
       refine Zh [_] _ (w0 rfl) rfl rfl rfl rfl (Zv (k := 0) rfl) (Z2h q n _ (by omega) hN x.2.1 x.2.2.1 p2 hp2'.1 hp2'.2 (by omega)) (fun v32 hv32 => ?_)
       refine aM rfl rfl rfl rfl ?_
       refine Z5 (w0 rfl) rfl (Zt rfl rfl rfl) ?_
       refine Z5 (w0 rfl) rfl (Zt rfl rfl rfl) ?_
       refine aA rfl rfl rfl rfl ?_
       refine aA rfl rfl rfl rfl ?_
       refine Z3 ?_
       refine Z4 ?_
       refine Z0 ?_
       refine aM rfl rfl rfl rfl ?_
       refine aA rfl rfl rfl rfl ?_
       refine Z3 ?_
       refine Z4 ?_
       have hJ4 := hJ3.move (by omega) hv32.1
       have hl4 := hJ4.sw.len
       have hmid : x.2.1 ≤ v32.2.1 ∧ v32.2.1 < x.2.2.1 := ⟨hv32.2.1, hv32.2.2.1⟩
       refine Z0 ?_
       refine aM rfl rfl rfl rfl ?_
       refine aM rfl rfl rfl rfl ?_
       refine Z5 (w0 rfl) rfl (Z6 rfl rfl rfl (Zd (by omega))) ?_
       refine aM rfl rfl rfl rfl ?_
       refine aM rfl rfl rfl rfl ?_
       refine Z5 (w0 rfl) rfl (Z6 rfl rfl rfl (Zd (by omega))) ?_
       refine aA rfl rfl rfl rfl ?_
       refine aA rfl rfl rfl rfl ?_
       refine Z3 ?_
       refine Z4 ?_
       refine Z0 ?_
       refine aM rfl rfl rfl rfl ?_
       refine Z5 (w0 rfl) rfl (Zz (y := iA ((x.2.2.1 - x.2.1) / 8 : Nat)) (Z18 rfl rfl rfl (by decide) (Z0y (x.2.2.1 - x.2.1) 8 (by omega))) (congrArg iA (Z43 (x.2.2.1 - x.2.1) 8))) ?_
       refine aA rfl rfl rfl rfl ?_
       refine Z3 ?_
       refine Z4 ?_
       refine Z0 ?_
       refine aM rfl rfl rfl rfl ?_
       refine aM rfl rfl rfl rfl ?_
       refine Z5 (w0 rfl) rfl (Zb rfl rfl rfl rfl) ?_
       refine Z3 ?_
       refine Ze rfl ?_ ?_
       ·intro hc
        refine Z4 ?_
        refine Z0 ?_
        refine aM rfl rfl rfl rfl ?_
        refine aM rfl rfl rfl rfl ?_
        refine Z5 (w0 rfl) rfl (Zb rfl rfl rfl rfl) ?_
        refine aA rfl rfl rfl rfl ?_
        refine Z3 ?_
        refine Z4 ?_
        refine Z0o 10 rfl (fun wb hwb => ?_)
        refine Z0 ?_
        refine aM rfl rfl rfl rfl ?_
        refine aM rfl rfl rfl rfl ?_
        refine aM rfl rfl rfl rfl ?_
        refine aM rfl rfl rfl rfl ?_
        refine aM rfl rfl rfl rfl ?_
        refine Zh [_] _ (w0 rfl) rfl rfl rfl rfl (Zv (k := 0) rfl) (ih (v32.2.1 - x.2.1) (by omega) _ (by omega) x.2.1 v32.2.1 _ (Nat.le_refl _) (by omega) (by omega) (hJ4.bd.le (by omega))) (fun v33 hv33 => ?_)
        refine Z3 ?_
        refine Z0 ?_
        refine aM rfl rfl rfl rfl ?_
        refine Z5 (w0 rfl) rfl (Z6 rfl rfl rfl (Z9 (by omega))) ?_
        refine aA rfl rfl rfl rfl ?_
        refine Z3 ?_
        refine ⟨(v33, v32.2.1 + 1, x.2.2.1, x.2.2.2.1, wb, v32.2.2), (hJ4.lower mLtT.ok (by omega) hmid hv32.2.2.2 hv33.1 hv33.2), (by (try simp only) <;> omega), ?_⟩
        exact Z8 [0] ⟨rfl, rfl, rfl, rfl, rfl, rfl, rfl, trivial⟩ rfl (by decide) rfl rfl
       ·intro hc
        refine Z4 ?_
        refine Z0 ?_
        refine aM rfl rfl rfl rfl ?_
        refine aM rfl rfl rfl rfl ?_
        refine Z5 (w0 rfl) rfl (Zb rfl rfl rfl rfl) ?_
        refine aA rfl rfl rfl rfl ?_
        refine Z3 ?_
        refine Z4 ?_
        refine Z0o 10 rfl (fun wb hwb => ?_)
        refine Z0 ?_
        refine aM rfl rfl rfl rfl ?_
        refine aM rfl rfl rfl rfl ?_
        refine Z5 (w0 rfl) rfl (Z6 rfl rfl rfl (Z9 (by omega))) ?_
        refine aM rfl rfl rfl rfl ?_
        refine aM rfl rfl rfl rfl ?_
        refine aM rfl rfl rfl rfl ?_
        refine Zh [_] _ (w0 rfl) rfl rfl rfl rfl (Zv (k := 0) rfl) (ih (x.2.2.1 - (v32.2.1 + 1)) (by omega) _ (by omega) (v32.2.1 + 1) x.2.2.1 _ (Nat.le_refl _) (by omega) (by omega) hv32.2.2.2.bd) (fun v34 hv34 => ?_)
        refine Z3 ?_
        refine Z0 ?_
        refine aM rfl rfl rfl rfl ?_
        refine aA rfl rfl rfl rfl ?_
        refine Z3 ?_
        refine ⟨(v34, x.2.1, v32.2.1, x.2.2.2.1, wb, v32.2.2), (hJ4.upper mLtT.ok (by omega) hmid hv32.2.2.2 hv34.1 hv34.2), (by (try simp only) <;> omega), ?_⟩
        exact Z8 [0] ⟨rfl, rfl, rfl, rfl, rfl, rfl, rfl, trivial⟩ rfl (by decide) rfl rfl
    ·intro hc
     have hJ2 := hJ1
     refine Zi ?_
     refine Z4 ?_
     refine Z4 ?_
     refine Z09 13 rfl (fun p2 hp2 => ?_)
     have hp2' : x.2.1 ≤ p2 ∧ p2 < x.2.2.1 := by omega
     refine Z0 ?_
     refine aM rfl rfl rfl rfl ?_
     refine aM rfl rfl rfl rfl ?_
     refine Z1y (wT rfl rfl rfl rfl) rfl (fun hg => (Z7 rfl rfl)) ?_
     refine Z5 (w0 rfl) rfl (Z0l rfl rfl rfl (fun h => h)) ?_
     refine aM rfl rfl rfl rfl ?_
     refine Z1y (wT rfl rfl rfl rfl) rfl (fun hg => (Z7 rfl rfl)) ?_
     refine Z1y (wT rfl rfl rfl rfl) rfl (fun hg => (Zb rfl (Z04 hg rfl) rfl rfl)) ?_
     refine Z5 (w0 rfl) rfl (Z0l rfl rfl rfl (fun h => h)) ?_
     refine Z3 ?_
     refine Ze rfl ?_ ?_
     ·intro hc
      refine Z4 ?_
      refine Z0 ?_
      refine aM rfl rfl rfl rfl ?_
      refine aM rfl rfl rfl rfl ?_
      refine aM rfl rfl rfl rfl ?_
      refine aM rfl rfl rfl rfl ?_
      refine Zh [_] _ (w0 rfl) rfl rfl rfl rfl (Zv (k := 0) rfl) (Z2p q n _ (by have := hJ2.sw.len; omega) hN x.2.1 x.2.2.1 (by omega) (by omega) hJ2.bd) (fun v35 hv35 => ?_)
      have hJ3 := hJ2.move (by omega) hv35.1
      refine Z3 ?_
      refine Ze rfl ?_ ?_
      ·intro hc
       refine Z02 ?_
       exact Zr rfl Zu (.cons_cons _ .slnil) (gp v35.1 ⟨hJ3.sw, hJ2.fin _ hv35.1 ((hv35.2 hc).on mLtT.ok)⟩ rfl rfl)
      ·intro hc
       have hl3 := hJ3.sw.len
       refine Zi ?_
       refine Z4 ?_
       refine Z4 ?_
       refine Z0d [0, 1, 3, 7, 7, 7, 39, 119, 247, 7, 7, 1543, 3591, 8191, 16383, 32767, 65535] 17 rfl (by kernel_rfl) ?_
       refine cM rfl rfl rfl rfl ?_
       refine Za (w0 rfl) rfl (Zb rfl rfl rfl rfl) ?_
       refine cM rfl rfl rfl rfl ?_
       refine Zc (wT rfl rfl rfl rfl) rfl (fun hg => (Z7 rfl rfl)) ?_
       refine Zc (wT rfl rfl rfl rfl) rfl (fun hg => (Z7 rfl rfl)) ?_
       refine Zc (wT rfl rfl rfl rfl) rfl (fun hg => (Z7 rfl rfl)) ?_
       refine Zc (wT rfl rfl rfl rfl) rfl (fun hg => (Z6 rfl (Z04 hg rfl) rfl (Zd (by omega)))) ?_
       refine Zc (wT rfl rfl rfl rfl) rfl (fun hg => (Z2 (x.2.1 - 1) rfl (Z04 hg rfl) (Z04 hg rfl) (by (try simp at hg) <;> omega) (by (try simp at hg) <;> omega) (by omega))) ?_
       refine Zs (f := MRef.cells) 0 (wT rfl rfl rfl rfl) rfl rfl (fun hg => (Z04 hg rfl)) rfl (fun hg => by (try simp at hg) <;> omega) (fun _ => Zk rfl) ?_
       refine Zc (wT rfl rfl rfl rfl) rfl (fun hg => (Z7 rfl rfl)) ?_
       refine Zc (wT rfl rfl rfl rfl) rfl (fun hg => (Z7 rfl rfl)) ?_
       refine Zc (wT rfl rfl rfl rfl) rfl (fun hg => (Z2 p2 rfl (Z04 hg rfl) (Z04 hg rfl) (by (try simp at hg) <;> omega) (by (try simp at hg) <;> omega) (by omega))) ?_
       refine Zs (f := MRef.cells) 0 (wT rfl rfl rfl rfl) rfl rfl (fun hg => (Z04 hg rfl)) rfl (fun hg => by (try simp at hg) <;> omega) (fun _ => Zk rfl) ?_
       refine Zc (wT rfl rfl rfl rfl) rfl (fun hg => (Zq [] rfl (Z04 hg rfl) (Zj (Z04 hg rfl) (Zj (Z04 hg rfl) Z0e)) (Z0a _ _) List.nodup_nil)) ?_
       refine Zc (wT rfl rfl rfl rfl) rfl (fun hg => (Zb rfl (Z04 hg rfl) rfl rfl)) ?_
       refine Zc (wT rfl rfl rfl rfl) rfl (fun hg => (Z0m rfl (Z04 hg rfl))) ?_
       refine Za (w0 rfl) rfl (Z0l rfl rfl rfl (fun h => h)) ?_
       refine .done ?_
       refine Z3 ?_
       refine Ze rfl ?_ ?_
       ·intro hc
        have ha0 : 0 < x.2.1 := by have := Z71 hc; simpa using this
        have hpe := Z8b (Z72 hc)
        refine Z4 ?_
        refine Z0 ?_
        refine aM rfl rfl rfl rfl ?_
        refine aM rfl rfl rfl rfl ?_
        refine aM rfl rfl rfl rfl ?_
        refine aM rfl rfl rfl rfl ?_
        refine aM rfl rfl rfl rfl ?_
        refine Zh [_] _ (w0 rfl) rfl rfl rfl rfl (Zv (k := 0) rfl) (Z1u q n _ (by omega) hN x.2.1 x.2.2.1 p2 hp2'.1 hp2'.2 (by omega)) (fun v36 hv36 => ?_)
        refine aA rfl rfl rfl rfl ?_
        refine Z3 ?_
        refine Z4 ?_
        refine Z0 ?_
        refine aM rfl rfl rfl rfl ?_
        refine aA rfl rfl rfl rfl ?_
        refine Z3 ?_
        refine Z05 ?_
        refine ⟨(v36.1, v36.2, x.2.2.1, x.2.2.2.1, x.2.2.2.2.1, x.2.2.2.2.2), (by obtain ⟨j, e, he⟩ := hv36.2.2.2.2; exact (hJ3.move (by omega) hv36.1).equal mLtT.ok (by omega) ha0 (by rw [hv36.1.out (.inl (by omega)), hv36.2.2.2.1]; exact hpe) he e hv36.2.1 hv36.2.2.1), (by (try simp only) <;> (have := hv36.2.1; omega)), ?_⟩
        exact Z8 [0] ⟨rfl, rfl, rfl, rfl, rfl, rfl, rfl, trivial⟩ rfl (by decide) rfl rfl
       ·intro hc
        refine Zi ?_
        refine Z4 ?_
        refine Z0 ?_
        refine aM rfl rfl rfl rfl ?_
        refine aM rfl rfl rfl rfl ?_
        refine aM rfl rfl rfl rfl ?_
        refine aM rfl rfl rfl rfl ?_
        refine aM rfl rfl rfl rfl ?_
        refine Zh [_] _ (w0 rfl) rfl rfl rfl rfl (Zv (k := 0) rfl) (Z2h q n _ (by omega) hN x.2.1 x.2.2.1 p2 hp2'.1 hp2'.2 (by omega)) (fun v37 hv37 => ?_)
        refine aM rfl rfl rfl rfl ?_
        refine Z5 (w0 rfl) rfl (Zt rfl rfl rfl) ?_
        refine Z5 (w0 rfl) rfl (Zt rfl rfl rfl) ?_
        refine aA rfl rfl rfl rfl ?_
        refine aA rfl rfl rfl rfl ?_
        refine Z3 ?_
        refine Z4 ?_
        refine Z0 ?_
        refine aM rfl rfl rfl rfl ?_
        refine aA rfl rfl rfl rfl ?_
        refine Z3 ?_
        refine Z4 ?_
        have hJ4 := hJ3.move (by omega) hv37.1
        have hl4 := hJ4.sw.len
        have hmid : x.2.1 ≤ v37.2.1 ∧ v37.2.1 < x.2.2.1 := ⟨hv37.2.1, hv37.2.2.1⟩
        refine Z0 ?_
        refine aM rfl rfl rfl rfl ?_
        refine aM rfl rfl rfl rfl ?_
        refine Z5 (w0 rfl) rfl (Z6 rfl rfl rfl (Zd (by omega))) ?_
        refine aM rfl rfl rfl rfl ?_
        refine aM rfl rfl rfl rfl ?_
        refine Z5 (w0 rfl) rfl (Z6 rfl rfl rfl (Zd (by omega))) ?_
        refine aA rfl rfl rfl rfl ?_
        refine aA rfl rfl rfl rfl ?_
        refine Z3 ?_
        refine Z4 ?_
        refine Z0 ?_
        refine aM rfl rfl rfl rfl ?_
        refine Z5 (w0 rfl) rfl (Zz (y := iA ((x.2.2.1 - x.2.1) / 8 : Nat)) (Z18 rfl rfl rfl (by decide) (Z0y (x.2.2.1 - x.2.1) 8 (by omega))) (congrArg iA (Z43 (x.2.2.1 - x.2.1) 8))) ?_
        refine aA rfl rfl rfl rfl ?_
        refine Z3 ?_
        refine Z4 ?_
        refine Z0 ?_
        refine aM rfl rfl rfl rfl ?_
        refine aM rfl rfl rfl rfl ?_
        refine Z5 (w0 rfl) rfl (Zb rfl rfl rfl rfl) ?_
        refine Z3 ?_
        refine Ze rfl ?_ ?_
        ·intro hc
         refine Z4 ?_
         refine Z0 ?_
         refine aM rfl rfl rfl rfl ?_
         refine aM rfl rfl rfl rfl ?_
         refine Z5 (w0 rfl) rfl (Zb rfl rfl rfl rfl) ?_
         refine aA rfl rfl rfl rfl ?_
         refine Z3 ?_
         refine Z4 ?_
         refine Z0o 10 rfl (fun wb hwb => ?_)
         refine Z0 ?_
         refine aM rfl rfl rfl rfl ?_
         refine aM rfl rfl rfl rfl ?_
         refine aM rfl rfl rfl rfl ?_
         refine aM rfl rfl rfl rfl ?_
         refine aM rfl rfl rfl rfl ?_
         refine Zh [_] _ (w0 rfl) rfl rfl rfl rfl (Zv (k := 0) rfl) (ih (v37.2.1 - x.2.1) (by omega) _ (by omega) x.2.1 v37.2.1 _ (Nat.le_refl _) (by omega) (by omega) (hJ4.bd.le (by omega))) (fun v38 hv38 => ?_)
         refine Z3 ?_
         refine Z0 ?_
         refine aM rfl rfl rfl rfl ?_
         refine Z5 (w0 rfl) rfl (Z6 rfl rfl rfl (Z9 (by omega))) ?_
         refine aA rfl rfl rfl rfl ?_
         refine Z3 ?_
         refine ⟨(v38, v37.2.1 + 1, x.2.2.1, x.2.2.2.1, wb, v37.2.2), (hJ4.lower mLtT.ok (by omega) hmid hv37.2.2.2 hv38.1 hv38.2), (by (try simp only) <;> omega), ?_⟩
         exact Z8 [0] ⟨rfl, rfl, rfl, rfl, rfl, rfl, rfl, trivial⟩ rfl (by decide) rfl rfl
        ·intro hc
         refine Z4 ?_
         refine Z0 ?_
         refine aM rfl rfl rfl rfl ?_
         refine aM rfl rfl rfl rfl ?_
         refine Z5 (w0 rfl) rfl (Zb rfl rfl rfl rfl) ?_
         refine aA rfl rfl rfl rfl ?_
         refine Z3 ?_
         refine Z4 ?_
         refine Z0o 10 rfl (fun wb hwb => ?_)
         refine Z0 ?_
         refine aM rfl rfl rfl rfl ?_
         refine aM rfl rfl rfl rfl ?_
         refine Z5 (w0 rfl) rfl (Z6 rfl rfl rfl (Z9 (by omega))) ?_
         refine aM rfl rfl rfl rfl ?_
         refine aM rfl rfl rfl rfl ?_
         refine aM rfl rfl rfl rfl ?_
         refine Zh [_] _ (w0 rfl) rfl rfl rfl rfl (Zv (k := 0) rfl) (ih (x.2.2.1 - (v37.2.1 + 1)) (by omega) _ (by omega) (v37.2.1 + 1) x.2.2.1 _ (Nat.le_refl _) (by omega) (by omega) hv37.2.2.2.bd) (fun v39 hv39 => ?_)
         refine Z3 ?_
         refine Z0 ?_
         refine aM rfl rfl rfl rfl ?_
         refine aA rfl rfl rfl rfl ?_
         refine Z3 ?_
         refine ⟨(v39, x.2.1, v37.2.1, x.2.2.2.1, wb, v37.2.2), (hJ4.upper mLtT.ok (by omega) hmid hv37.2.2.2 hv39.1 hv39.2), (by (try simp only) <;> omega), ?_⟩
         exact Z8 [0] ⟨rfl, rfl, rfl, rfl, rfl, rfl, rfl, trivial⟩ rfl (by decide) rfl rfl
     ·intro hc
      have hJ3 := hJ2
      have hl3 := hJ3.sw.len
      refine Zi ?_
      refine Z4 ?_
      refine Z4 ?_
      refine Z0d [0, 1, 3, 7, 7, 7, 39, 119, 247, 7, 7, 1543, 3591, 8191, 16383, 32767, 65535] 17 rfl (by kernel_rfl) ?_
      refine cM rfl rfl rfl rfl ?_
      refine Za (w0 rfl) rfl (Zb rfl rfl rfl rfl) ?_
      refine cM rfl rfl rfl rfl ?_
      refine Zc (wT rfl rfl rfl rfl) rfl (fun hg => (Z7 rfl rfl)) ?_
      refine Zc (wT rfl rfl rfl rfl) rfl (fun hg => (Z7 rfl rfl)) ?_
      refine Zc (wT rfl rfl rfl rfl) rfl (fun hg => (Z7 rfl rfl)) ?_
      refine Zc (wT rfl rfl rfl rfl) rfl (fun hg => (Z6 rfl (Z04 hg rfl) rfl (Zd (by omega)))) ?_
      refine Zc (wT rfl rfl rfl rfl) rfl (fun hg => (Z2 (x.2.1 - 1) rfl (Z04 hg rfl) (Z04 hg rfl) (by (try simp at hg) <;> omega) (by (try simp at hg) <;> omega) (by omega))) ?_
      refine Zs (f := MRef.cells) 0 (wT rfl rfl rfl rfl) rfl rfl (fun hg => (Z04 hg rfl)) rfl (fun hg => by (try simp at hg) <;> omega) (fun _ => Zk rfl) ?_
      refine Zc (wT rfl rfl rfl rfl) rfl (fun hg => (Z7 rfl rfl)) ?_
      refine Zc (wT rfl rfl rfl rfl) rfl (fun hg => (Z7 rfl rfl)) ?_
      refine Zc (wT rfl rfl rfl rfl) rfl (fun hg => (Z2 p2 rfl (Z04 hg rfl) (Z04 hg rfl) (by (try simp at hg) <;> omega) (by (try simp at hg) <;> omega) (by omega))) ?_
      refine Zs (f := MRef.cells) 0 (wT rfl rfl rfl rfl) rfl rfl (fun hg => (Z04 hg rfl)) rfl (fun hg => by (try simp at hg) <;> omega) (fun _ => Zk rfl) ?_
      refine Zc (wT rfl rfl rfl rfl) rfl (fun hg => (Zq [] rfl (Z04 hg rfl) (Zj (Z04 hg rfl) (Zj (Z04 hg rfl) Z0e)) (Z0a _ _) List.nodup_nil)) ?_
      refine Zc (wT rfl rfl rfl rfl) rfl (fun hg => (Zb rfl (Z04 hg rfl) rfl rfl)) ?_
      refine Zc (wT rfl rfl rfl rfl) rfl (fun hg => (Z0m rfl (Z04 hg rfl))) ?_
      refine Za (w0 rfl) rfl (Z0l rfl rfl rfl (fun h => h)) ?_
      refine .done ?_
      refine Z3 ?_
      refine Ze rfl ?_ ?_
      ·intro hc
       have ha0 : 0 < x.2.1 := by have := Z71 hc; simpa using this
       have hpe := Z8b (Z72 hc)
       refine Z4 ?_
       refine Z0 ?_
       refine aM rfl rfl rfl rfl ?_
       refine aM rfl rfl rfl rfl ?_
       refine aM rfl rfl rfl rfl ?_
       refine aM rfl rfl rfl rfl ?_
       refine aM rfl rfl rfl rfl ?_
       refine Zh [_] _ (w0 rfl) rfl rfl rfl rfl (Zv (k := 0) rfl) (Z1u q n _ (by omega) hN x.2.1 x.2.2.1 p2 hp2'.1 hp2'.2 (by omega)) (fun v40 hv40 => ?_)
       refine aA rfl rfl rfl rfl ?_
       refine Z3 ?_
       refine Z4 ?_
       refine Z0 ?_
       refine aM rfl rfl rfl rfl ?_
       refine aA rfl rfl rfl rfl ?_
       refine Z3 ?_
       refine Z05 ?_
       refine ⟨(v40.1, v40.2, x.2.2.1, x.2.2.2.1, x.2.2.2.2.1, x.2.2.2.2.2), (by obtain ⟨j, e, he⟩ := hv40.2.2.2.2; exact (hJ3.move (by omega) hv40.1).equal mLtT.ok (by omega) ha0 (by rw [hv40.1.out (.inl (by omega)), hv40.2.2.2.1]; exact hpe) he e hv40.2.1 hv40.2.2.1), (by (try simp only) <;> (have := hv40.2.1; omega)), ?_⟩
       exact Z8 [0] ⟨rfl, rfl, rfl, rfl, rfl, rfl, rfl, trivial⟩ rfl (by decide) rfl rfl
      ·intro hc
       refine Zi ?_
       refine Z4 ?_
       refine Z0 ?_
       refine aM rfl rfl rfl rfl ?_
       refine aM rfl rfl rfl rfl ?_
       refine aM rfl rfl rfl rfl ?_
       refine aM rfl rfl rfl rfl ?_
       refine aM rfl rfl rfl rfl ?_
       refine Zh [_] _ (w0 rfl) rfl rfl rfl rfl (Zv (k := 0) rfl) (Z2h q n _ (by omega) hN x.2.1 x.2.2.1 p2 hp2'.1 hp2'.2 (by omega)) (fun v41 hv41 => ?_)
       refine aM rfl rfl rfl rfl ?_
       refine Z5 (w0 rfl) rfl (Zt rfl rfl rfl) ?_
       refine Z5 (w0 rfl) rfl (Zt rfl rfl rfl) ?_
       refine aA rfl rfl rfl rfl ?_
       refine aA rfl rfl rfl rfl ?_
       refine Z3 ?_
       refine Z4 ?_
       refine Z0 ?_
       refine aM rfl rfl rfl rfl ?_
       refine aA rfl rfl rfl rfl ?_
       refine Z3 ?_
       refine Z4 ?_
       have hJ4 := hJ3.move (by omega) hv41.1
       have hl4 := hJ4.sw.len
       have hmid : x.2.1 ≤ v41.2.1 ∧ v41.2.1 < x.2.2.1 := ⟨hv41.2.1, hv41.2.2.1⟩
       refine Z0 ?_
       refine aM rfl rfl rfl rfl ?_
       refine aM rfl rfl rfl rfl ?_
       refine Z5 (w0 rfl) rfl (Z6 rfl rfl rfl (Zd (by omega))) ?_
       refine aM rfl rfl rfl rfl ?_
       refine aM rfl rfl rfl rfl ?_
       refine Z5 (w0 rfl) rfl (Z6 rfl rfl rfl (Zd (by omega))) ?_
       refine aA rfl rfl rfl rfl ?_
       refine aA rfl rfl rfl rfl ?_
       refine Z3 ?_
       refine Z4 ?_
       refine Z0 ?_
       refine aM rfl rfl rfl rfl ?_
       refine Z5 (w0 rfl) rfl (Zz (y := iA ((x.2.2.1 - x.2.1) / 8 : Nat)) (Z18 rfl rfl rfl (by decide) (Z0y (x.2.2.1 - x.2.1) 8 (by omega))) (congrArg iA (Z43 (x.2.2.1 - x.2.1) 8))) ?_
       refine aA rfl rfl rfl rfl ?_
       refine Z3 ?_
       refine Z4 ?_
       refine Z0 ?_
       refine aM rfl rfl rfl rfl ?_
       refine aM rfl rfl rfl rfl ?_
       refine Z5 (w0 rfl) rfl (Zb rfl rfl rfl rfl) ?_
       refine Z3 ?_
       refine Ze rfl ?_ ?_
       ·intro hc
        refine Z4 ?_
        refine Z0 ?_
        refine aM rfl rfl rfl rfl ?_
        refine aM rfl rfl rfl rfl ?_
        refine Z5 (w0 rfl) rfl (Zb rfl rfl rfl rfl) ?_
        refine aA rfl rfl rfl rfl ?_
        refine Z3 ?_
        refine Z4 ?_
        refine Z0o 10 rfl (fun wb hwb => ?_)
        refine Z0 ?_
        refine aM rfl rfl rfl rfl ?_
        refine aM rfl rfl rfl rfl ?_
        refine aM rfl rfl rfl rfl ?_
        refine aM rfl rfl rfl rfl ?_
        refine aM rfl rfl rfl rfl ?_
        refine Zh [_] _ (w0 rfl) rfl rfl rfl rfl (Zv (k := 0) rfl) (ih (v41.2.1 - x.2.1) (by omega) _ (by omega) x.2.1 v41.2.1 _ (Nat.le_refl _) (by omega) (by omega) (hJ4.bd.le (by omega))) (fun v42 hv42 => ?_)
        refine Z3 ?_
        refine Z0 ?_
        refine aM rfl rfl rfl rfl ?_
        refine Z5 (w0 rfl) rfl (Z6 rfl rfl rfl (Z9 (by omega))) ?_
        refine aA rfl rfl rfl rfl ?_
        refine Z3 ?_
        refine ⟨(v42, v41.2.1 + 1, x.2.2.1, x.2.2.2.1, wb, v41.2.2), (hJ4.lower mLtT.ok (by omega) hmid hv41.2.2.2 hv42.1 hv42.2), (by (try simp only) <;> omega), ?_⟩
        exact Z8 [0] ⟨rfl, rfl, rfl, rfl, rfl, rfl, rfl, trivial⟩ rfl (by decide) rfl rfl
       ·intro hc
        refine Z4 ?_
        refine Z0 ?_
        refine aM rfl rfl rfl rfl ?_
        refine aM rfl rfl rfl rfl ?_
        refine Z5 (w0 rfl) rfl (Zb rfl rfl rfl rfl) ?_
        refine aA rfl rfl rfl rfl ?_
        refine Z3 ?_
        refine Z4 ?_
        refine Z0o 10 rfl (fun wb hwb => ?_)
        refine Z0 ?_
        refine aM rfl rfl rfl rfl ?_
        refine aM rfl rfl rfl rfl ?_
        refine Z5 (w0 rfl) rfl (Z6 rfl rfl rfl (Z9 (by omega))) ?_
        refine aM rfl rfl rfl rfl ?_
        refine aM rfl rfl rfl rfl ?_
        refine aM rfl rfl rfl rfl ?_
        refine Zh [_] _ (w0 rfl) rfl rfl rfl rfl (Zv (k := 0) rfl) (ih (x.2.2.1 - (v41.2.1 + 1)) (by omega) _ (by omega) (v41.2.1 + 1) x.2.2.1 _ (Nat.le_refl _) (by omega) (by omega) hv41.2.2.2.bd) (fun v43 hv43 => ?_)
        refine Z3 ?_
        refine Z0 ?_
        refine aM rfl rfl rfl rfl ?_
        refine aA rfl rfl rfl rfl ?_
        refine Z3 ?_
        refine ⟨(v43, x.2.1, v41.2.1, x.2.2.2.1, wb, v41.2.2), (hJ4.upper mLtT.ok (by omega) hmid hv41.2.2.2 hv43.1 hv43.2), (by (try simp only) <;> omega), ?_⟩
        exact Z8 [0] ⟨rfl, rfl, rfl, rfl, rfl, rfl, rfl, trivial⟩ rfl (by decide) rfl rfl
theorem Zbf (q n : Nat) (l : List MRef) (hn : l.length = n) (hN : n ≤ 140737488355328)  : ACalls Tryz.prog 25 [.own q 3 0 n, .fn (.func 11) []] [(q, .rows 24 3 (l.map MRef.cells))] (GP (fun _ : List MRef => mkRes []) (fun m => [(q, .rows 24 3 (m.map MRef.cells))]) (fun m => m.Perm l ∧ SOn mLt 0 n m)) := by
 refine Zw (n := 14) Tryz.func25 rfl (by decide +kernel) rfl rfl ?_
 refine Z4 ?_
 refine Z0 ?_
 refine aM rfl rfl rfl rfl ?_
 refine Z5 (w0 rfl) rfl (Z1p rfl rfl rfl rfl) ?_
 refine aA rfl rfl rfl rfl ?_
 refine Z3 ?_
 refine Z0 ?_
 refine aM rfl rfl rfl rfl ?_
 refine aM rfl rfl rfl rfl ?_
 refine aM rfl rfl rfl rfl ?_
 refine Z5 (w0 rfl) rfl (Zz (y := xA n) (Z00 rfl rfl) (congrArg xA (Z44 (by omega)))) ?_
 refine Z2o (w0 rfl) rfl rfl rfl rfl (Z78 n (by omega)) (fun v1 hv1 => ?_)
 refine aM rfl rfl rfl rfl ?_
 refine Zh [_] _ (w0 rfl) rfl rfl rfl rfl (Zv (k := 0) rfl) (Zfx q n hN n l hn 0 n _ (by omega) (by omega) (Nat.le_refl _) (.inl rfl)) (fun v2 hv2 => ?_)
 refine Z3 ?_
 exact Zr rfl Zu (.cons_cons _ .slnil) (gp v2 ⟨hv2.1.perm, hv2.2⟩ rfl rfl)
end Go.Sx
namespace Go.Sx
open Go
variable {P : Program} {ro : Option Nat} {Q : Exit → St → Prop} {s : St} {ops : Array Oper} {o : Oper} {rest : List Oper} {T : List (Nat × AV)}
theorem Zan {t t' : TypeId} {p q : Operand} {k : IntKind} {x y : Int} (ho : o.op = .binOp .andNot t p q t') (hp : ev T p = some (.v (.int k x))) (hq : ev T q = some (.v (.int k y))) : Eff P o T [] (.v (.int k (bitsI .andNot k x y))) [] :=
 Z01 (by intro c; rw [ho]; nofun) fun C H a w hw hn hv => by
  have h2 := VR.val (hv p (by rw [ho]; simp [Op.operands]) _ hp)
  have h3 := VR.val (hv q (by rw [ho]; simp [Op.operands]) _ hq)
  refine ⟨_, ?_, .v _⟩
  simp [execOp, ho, h2, h3, eqGuard, binOp, Op.intBits, bitsI, Sem.run_bind, Result.andThen]
def byteRows (x : ByteArray) : List (List AV) := x.data.toList.map fun b => [.v (.int .u8 b.toNat)]
theorem Z2g (x : ByteArray) : (byteRows x).length = x.size := by
 unfold byteRows
 rw [List.length_map, Array.length_toList]; rfl
theorem Z4t {C : Ctx} {H : AHeap} {w : World} {Z : List Nat} {t tx ty e bytes id id' k : Nat} {v : Value} {x : ByteArray} {xs : List (List AV)} [hu : UD P t (.slice e)] [hux : UD P tx .string] [ha : AP P e 1 bytes]
  (hs : WR C H w) (hH : H[k]? = some (id, .rows e 1 xs)) (hp : VR C (.own id 1 0 xs.length) v)
  (hml : (xs.length + x.size) * bytes ≤ 140737488355328) (hm : xs.length + x.size ≤ maxLen) (hid : id' ∉ C.U) (hidz : id' ∉ Z) :
  ∃ v' w' C', (Builtin.append_ #[t, tx] ty #[v, .string x]).run P w = .ok v' w' ∧ VR C' (.own id' 1 0 (xs.length + x.size)) v' ∧ WR C' (H.set k (id', .rows e 1 (xs ++ byteRows x))) w' ∧ Ext Z C H w C' (H.set k (id', .rows e 1 (xs ++ byteRows x))) w' := by
 obtain ⟨i, z, hi, hz, hsz, hby, hzs, hpos⟩ := AP.open ha.ap
 have hmem := List.mem_of_getElem? hH
 have hown : SlA H 1 (.own id 1 0 xs.length) xs := ⟨rfl, e, xs, hmem, by omega, by simp⟩
 obtain ⟨hu', hlenx, hor⟩ := hs.ids _ _ hmem
 obtain ⟨adp, cp, hv, hnilp, _, hcellsp⟩ := hown.cells hs hp
 have hsrc := Src.ofString (P := P) w hux.ud x
 have hlb := byteCells_length x
 have hlen : ∀ e : List AV, e ∈ byteRows x → e.length = 1 := by
  intro e he; obtain ⟨b, _, rfl⟩ := List.mem_map.1 he; rfl
 have hav : ∀ x, ∀ z, z ∈ Z → z ∉ C.U → z ∉ (C.bindO id' x).U := by
  intro x z hz' hn
  simp only [Ctx.bindO, List.mem_cons, not_or]
  exact ⟨fun e => hidz (e ▸ hz'), hn⟩
 have hle : ∀ x, C.Le (C.bindO id' x) := fun x => Ctx.le_bindO hid
 have hn4 : ∀ (i : Nat) (e : List AV) (j : Nat) (cc : AV), (byteRows x)[i]? = some e → e[j]? = some cc → ∃ u, (byteCells x)[i * 1 + j]? = some u ∧ ∀ C : Ctx, VR C cc u := by
  intro i e j cc h1 h2
  unfold byteRows at h1
  rw [List.getElem?_map] at h1
  cases h3 : x.data.toList[i]? with
  | none => rw [h3] at h1; cases h1
  | some b =>
   rw [h3] at h1; simp at h1; subst h1
   have hj := Z08 h2
   simp at hj; subst hj
   simp at h2; subst h2
   refine ⟨.int .u8 b.toNat, ?_, fun C => .v _⟩
   unfold byteCells
   rw [Nat.mul_one, Nat.add_zero, List.getElem?_map, h3]; rfl
 have grow : ∀ (olds zs : List Value) (N : Nat), olds.length = xs.length * 1 → (olds ++ byteCells x ++ zs).length = N →
   (∀ (i : Nat) (e : List AV) (j : Nat) (cc : AV), xs[i]? = some e → e[j]? = some cc → ∃ u, olds[i * 1 + j]? = some u ∧ VR C cc u) →
   (∀ u, u ∈ olds → u.oneCell' = true) →
   WR (C.bindO id' (some (w.heap.size, N))) (H.set k (id', .rows e 1 (xs ++ byteRows x))) (w.drew.alloc (.cells (olds ++ byteCells x ++ zs).toArray e)) ∧
    Ext Z C H w (C.bindO id' (some (w.heap.size, N))) (H.set k (id', .rows e 1 (xs ++ byteRows x))) (w.drew.alloc (.cells (olds ++ byteCells x ++ zs).toArray e)) := by
  intro olds zs N h1 h3 h4 h6
  have hal : ∀ b, b < w.heap.size → (w.drew.alloc (.cells (olds ++ byteCells x ++ zs).toArray e)).heap[b]? = w.heap[b]? := fun b hb => heap_alloc_old w.drew _ (h := hb)
  refine Z0p hs hH (hle _) rfl (.inr hid) List.mem_cons_self (hav _) rfl rfl rfl (by simp) (fun b N' hm => .inr ?_) (fun b hb _ => hal b hb) ?_
  ·rw [Ctx.bindO_m] at hm; cases hm; exact Nat.le_refl _
  ·exact Zem (w := w) (Ctx.bindO_m ..) (heap_alloc_new w.drew _) h3 hlenx hlen h1 (by rw [hlb, Z2g, Nat.mul_one]) (fun i e' j cc a b => let ⟨u, x, y⟩ := h4 i e' j cc a b; ⟨u, x, y.mono (hle _)⟩) (fun i e' j cc a b => let ⟨u, x, y⟩ := hn4 i e' j cc a b; ⟨u, x, y _⟩) h6 hsrc.one
 have hvgrow : ∀ cap, xs.length + x.size ≤ cap → cap ≤ maxLen → VR (C.bindO id' (some (w.heap.size, cap * 1))) (.own id' 1 0 (xs.length + x.size)) (.slice (some ⟨w.heap.size, 0, none⟩) (xs.length + x.size) cap) := by
  intro cap h1 h2
  have := VR.own (C := C.bindO id' (some (w.heap.size, cap * 1))) id' 1 0 (xs.length + x.size) w.heap.size (cap * 1) cap (Ctx.bindO_m ..) List.mem_cons_self (by simp) h1 h2
  simpa using this
 have hzc : ∀ m cap, m ≤ cap → m * 1 + (Builtin.zeroCells z.cells (cap - m)).size = cap * 1 := by
  intro m cap h
  rw [size_zeroCells, hzs, ← Nat.add_mul]; congr 1; omega
 have hm63 : ((xs.length + x.size : Nat) : Int) ≤ 9223372036854775807 := by simp only [maxLen] at hm; omega
 -- there is no room
 have nogo : ∀ (base : Option Addr) (cap : Nat) (olds : List Value), (Builtin.firstCells i.size xs.length (.slice base xs.length cap)).run P w.drew = .ok olds.toArray w.drew → cap < xs.length + x.size → olds.length = xs.length * 1 →
   (∀ (i : Nat) (e : List AV) (j : Nat) (cc : AV), xs[i]? = some e → e[j]? = some cc → ∃ u, olds[i * 1 + j]? = some u ∧ VR C cc u) → (∀ u, u ∈ olds → u.oneCell' = true) →
   ∃ v' w' C', (Builtin.append_ #[t, tx] ty #[.slice base xs.length cap, .string x]).run P w = .ok v' w' ∧ VR C' (.own id' 1 0 (xs.length + x.size)) v' ∧ WR C' (H.set k (id', .rows e 1 (xs ++ byteRows x))) w' ∧ Ext Z C H w C' (H.set k (id', .rows e 1 (xs ++ byteRows x))) w' := by
  intro base cap olds hold hg h1 h2 h3
  have hcap1 := grownCap_ge w (xs.length + x.size) cap e
  have hcapm := grownCap_le_maxLen w (xs.length + x.size) cap e hm
  have hrun := run_append_grow_src (P := P) w t tx ty e i z hu.ud hi hz base xs.length cap olds hold (.string x) x.size (byteCells x) (by rw [hsz]; exact hsrc) hg hm63 (by rw [hby]; exact growslice_fits hg hml)
  obtain ⟨h4, h5⟩ := grow olds (Builtin.zeroCells z.cells (grownCap w (xs.length + x.size) cap e - (xs.length + x.size))).toList (grownCap w (xs.length + x.size) cap e * 1) h1
   (by have := hzc (xs.length + x.size) _ hcap1; simp only [List.length_append, Array.length_toList, hlb, h1]; omega) h2 h3
  have e0 : ((olds ++ byteCells x).toArray ++ Builtin.zeroCells z.cells (grownCap w (xs.length + x.size) cap e - (xs.length + x.size))) = (olds ++ byteCells x ++ (Builtin.zeroCells z.cells (grownCap w (xs.length + x.size) cap e - (xs.length + x.size))).toList).toArray := by simp
  rw [e0] at hrun
  exact ⟨_, _, _, hrun, hvgrow _ hcap1 hcapm, h4, h5⟩
 have hp' := hp
 generalize hxn : xs.length = n at hp'
 cases hp' with
 | ownNil _ _ hmn =>
  have hx0 : xs = [] := List.length_eq_zero_iff.1 hxn
  subst hx0
  rcases Nat.eq_zero_or_pos x.size with h0 | h0
  ·have hx : byteRows x = [] := List.length_eq_zero_iff.1 (by rw [Z2g]; exact h0)
   refine ⟨.slice none 0 0, w, C.bindO id' (C.m id), ?_, ?_, ?_⟩
   ·have hb : byteCells x = [] := List.length_eq_zero_iff.1 (by rw [hlb]; exact h0)
    have hc := hsrc.cells
    rw [h0] at hc
    rw [hb] at hc
    simp [Builtin.append_, Go.run_underlying hu.ud, Go.run_underlying hux.ud, sizeOf, typeInfo, hi, hsz, Builtin.lenOf, h0, hc, Result.andThen, Sem.run_bind]
   ·have := VR.ownNil (C := C.bindO id' (C.m id)) id' 1 (by rw [Ctx.bindO_m]; exact hmn) List.mem_cons_self
    simpa [h0] using this
   ·rw [hx]
    refine Z0p hs hH (hle _) rfl (.inr hid) List.mem_cons_self (hav _) rfl rfl rfl (Nat.le_refl _) (fun b N hm => .inl ⟨N, by rw [Ctx.bindO_m] at hm; exact hm⟩) (fun _ _ _ => rfl) ?_
    exact ⟨nofun, .inl ⟨by rw [Ctx.bindO_m]; exact hmn, rfl⟩⟩
  ·have := nogo none 0 [] (by simp [Builtin.firstCells]) (by simpa using h0) rfl (by intro i e j cc h; simp at h) nofun
   simpa using this
 | own _ _ _ _ b N cap hmb _ hcap hlc hcm =>
  subst hxn
  rcases hor with ⟨hm0, _⟩ | ⟨b', N', cells, hmb', hh, hsN, hfit, hrow⟩
  ·rw [hmb] at hm0; cases hm0
  ·rw [hmb] at hmb'; cases hmb'
   simp only [Nat.zero_mul, Nat.zero_add] at hcap hv ⊢
   rcases Nat.lt_or_ge cap (xs.length + x.size) with hg | hg
   ·obtain ⟨olds, ho1, ho2, ho3, ho4⟩ := hcellsp ⟨b, 0, none⟩ (by simpa using (by cases hv; rfl : (some (⟨b, 0, none⟩ : Addr)) = adp).symm)
    exact nogo (some ⟨b, 0, none⟩) cap olds (by rw [hsz]; exact run_firstCells_some w.drew 1 xs.length ⟨b, 0, none⟩ xs.length cap olds ho1 (by simpa using ho2)) hg ho1 ho4 ho3
   ·have hNs : xs.length + x.size ≤ cells.size := by rw [hsN, ← hcap]; omega
    have hst := run_storeCells_at P b xs.length e (byteCells x) 0 cells w hh (by rw [hlb]; omega) hsrc.one
    simp only [Nat.add_zero] at hst
    have hrun : (Builtin.append_ #[t, tx] ty #[.slice (some ⟨b, 0, none⟩) xs.length cap, .string x]).run P w = .ok (.slice (some ⟨b, 0, none⟩) (xs.length + x.size) cap) (w.setRow b (cells.toList.take xs.length ++ byteCells x ++ cells.toList.drop (xs.length + (byteCells x).length)).toArray) := by
     have hc := hsrc.cells
     simp [Builtin.append_, Go.run_underlying hu.ud, Go.run_underlying hux.ud, sizeOf, typeInfo, hi, hsz, Builtin.lenOf, hg, hc, hst, Z3i, Result.andThen, Sem.run_bind]
    refine ⟨_, _, C.bindO id' (C.m id), hrun, ?_, ?_⟩
    ·have := VR.own (C := C.bindO id' (C.m id)) id' 1 0 (xs.length + x.size) b N cap (by rw [Ctx.bindO_m]; exact hmb) List.mem_cons_self (by simpa using hcap) hg hcm
     simpa using this
    ·refine Z0p hs hH (hle _) rfl (.inr hid) List.mem_cons_self (hav _) rfl rfl rfl (by simp) (fun b2 N2 hm2 => .inl ⟨N2, by rw [Ctx.bindO_m] at hm2; exact hm2⟩) (fun b2 hb2 hne => setRow_other w b b2 _ (by rintro rfl; exact hne N hmb)) ?_
     refine ⟨?_, .inr ⟨b, N, _, by rw [Ctx.bindO_m]; exact hmb, setRow_heap w b cells _ e (0, 0) hh, ?_, ?_, ?_⟩⟩
     ·intro e' he'
      rcases List.mem_append.1 he' with h | h
      ·exact hlenx e' h
      ·exact hlen e' h
     ·simp only [List.size_toArray, List.length_append, List.length_take, List.length_drop, Array.length_toList, hlb]
      omega
     ·rw [List.length_append, Z2g]; omega
     ·intro i' e' j cc he' hcc
      rw [List.getElem?_toArray, Z0x _ _ _ _ (by rw [hlb, Array.length_toList]; exact hNs), hlb]
      rw [List.getElem?_append] at he'
      split at he'
      ·rename_i hlt
       have hj : j < 1 := by rw [← hlenx e' (List.mem_of_getElem? he')]; exact Z08 hcc
       rw [if_pos (by omega), Array.getElem?_toList]
       obtain ⟨u, h1, h2, h3⟩ := hrow i' e' j cc he' hcc
       exact ⟨u, h1, h2.mono (hle _), h3⟩
      ·rename_i hge
       obtain ⟨u, h1, h2⟩ := hn4 (i' - xs.length) e' j cc he' hcc
       have hlt := Z08 h1
       rw [hlb] at hlt
       rw [if_neg (by omega), if_pos (by omega)]
       refine ⟨u, ?_, h2 _, hsrc.one u (List.mem_of_getElem? h1)⟩
       rw [← h1]; congr 1; omega
end Go.Sx
namespace Go.Sx
open Go
variable {P : Program} {ro : Option Nat} {Q : Exit → St → Prop} {s : St} {ops : Array Oper} {o : Oper} {rest : List Oper} {T : List (Nat × AV)}
theorem Z23 {t e n : Nat} {b : Bool} {p q : Operand} {id off len : Nat} {kd : IntKind} {k : Int} [h : UD P t (.slice e)] [k1 : TK P e b n] (ho : o.op = .slice t p (some q) none none)
  (hp : ev T p = some (.own id n off len)) (hq : ev T q = some (.v (.int kd k))) (h0 : 0 ≤ k) (h1 : k < len) : Eff P o T [] (.own id n (off + k.toNat) (len - k.toNat)) [] :=
 Z01 (by intro c; rw [ho]; nofun) fun C H a w hw hn hv => by
  have h2 := hv p (by rw [ho]; simp [Op.operands]) _ hp
  have h3 := VR.val (hv q (by rw [ho]; simp [Op.operands]) _ hq)
  generalize hpv : a.eval p = u at h2
  cases h2 with
  | own _ _ _ _ bb N cap hid hu hcap hlen hml =>
   have hkc : k ≤ (len : Int) := by omega
   have hne : ¬ cap = k.toNat := by omega
   have hmul : (off + k.toNat) * n = off * n + k.toNat * n := Nat.add_mul ..
   have hv := VR.own (C := C) id n (off + k.toNat) (len - k.toNat) bb N (cap - k.toNat) hid hu (by rw [← hcap]; congr 1; omega) (by omega) (by omega)
   rw [hmul] at hv
   refine ⟨_, ?_, hv⟩
   simp [execOp, ho, hpv, h3, Instr.sliceAt, Instr.slice, Instr.sliceBounds, run_underlying (d := .slice e), Z0g k1.tk, Z1s rfl h0 hkc, Sem.run_bind, Result.andThen, Sem.run_pure, Addr.add, hne]
  | ownNil => omega
end Go.Sx
namespace Go.Sx
open Go
section
variable {P : Program} {T : List (Nat × AV)} {o : Oper}
end
section
variable {P : Program} {ro : Option Nat} {Q : Exit → St → Prop} {s : St} {ops : Array Oper} {o : Oper} {rest : List Oper}
theorem Z8d {t e id el off len n : Nat} {p : Operand} {z : Value} {es : List (List AV)} (k : Nat) [hu : UD P t (.slice e)] [hz : ZV P e z] (hzc : z.cells.size = n) (hz1 : ∀ v, v ∈ z.cells.toList → v.oneCell' = true) (hw : Wanted ops s.T o true) (hd : dok o.dst s.n = true)
  (ho : o.op = .call { callee := .builtin .clear, args := #[p], argTypes := #[t] }) (hp : ev s.T p = some (.own id n off len)) (hH : s.H[k]? = some (id, .rows el n es))
  (h : AOps P ro ops rest Q { s with T := put s.T o.dst (.tup []), H := s.H.set k (id, .rows el n (es.take off)) }) : AOps P ro ops (o :: rest) Q s := by
 refine Z10 hw ?_
 intro Z C0 H0 w0 C a w hx0 hs
 obtain ⟨hu', hlenx, hor⟩ := hs.wr.ids _ _ (List.mem_of_getElem? hH)
 have htup : ∀ C' : Ctx, VR C' (.tup []) (.tuple #[]) := fun C' => .tup _ _ rfl (fun i c x hc => by simp at hc)
 have hle1 : ∀ e' : List AV, e' ∈ es.take off → e'.length = n := fun e' he => hlenx e' (List.mem_of_mem_take he)
 have hsem : ∀ (v : Value) (w' : World), (Builtin.clear_ #[t] o.type #[a.eval p]).run P w = .ok v w' → (o.semAt ro a.eval).run P w = .ok (.value v) w' := fun v w' hv => by
  rw [Oper.semAt_eq _ _ _ (by intro c; rw [ho]; nofun)]
  simp [execOp, ho, resolve, invoke, builtin, hv, Result.andThen, Sem.run_bind]
 have stay : (∀ b N cells, C.m id = some (b, N) → w.heap[b]? = some (.cells cells el (0, 0)) → True) → (o.semAt ro a.eval).run P w = .ok (.value (.tuple #[])) w →
   o.uponIn (Wd ro) 0 P a (Sat Z C0 H0 w0 (AOps P ro ops rest Q)) (fun e a' w' => match e with | .panic ch => Sat Z C0 H0 w0 ((fun ch => Q (.panic ch)) ch) a' w' | _ => False) ((o.semAt ro a.eval).run P w) := by
  intro _ hr
  rw [hr]
  obtain ⟨hw1, he1⟩ := Z0p (Z := Z) (C' := C) (id' := id) (o' := .rows el n (es.take off)) (w' := w) hs.wr hH (.refl C) rfl (.inl rfl) hu' (fun _ _ h => h) rfl rfl rfl (Nat.le_refl _) (fun b N' hm' => .inl ⟨N', hm'⟩) (fun _ _ _ => rfl) (by
   refine ⟨hle1, ?_⟩
   rcases hor with ⟨hm0, rfl⟩ | ⟨b', N', cells, hmb', hh, hsN, hfit, hrow⟩
   ·exact .inl ⟨hm0, by simp⟩
   ·refine .inr ⟨b', N', cells, hmb', hh, hsN, ?_, ?_⟩
    ·rw [List.length_take]
     exact Nat.le_trans (Nat.mul_le_mul_right _ (Nat.min_le_right _ _)) hfit
    ·intro i e' j c he' hc
     rw [List.getElem?_take] at he'
     split at he'
     ·exact hrow i e' j c he' hc
     ·cases he')
  exact ⟨C, _, h, hs.put he1.le hw1 (Z0k hd) (htup C), hx0.trans he1⟩
 have hpv := hs.ev hp
 generalize hav : a.eval p = u at hpv hsem
 cases hpv with
 | ownNil _ _ hid hiu =>
  exact stay (fun _ _ _ _ _ => trivial) (hsem _ _ (by simp [Builtin.clear_, Go.run_underlying hu.ud]))
 | own _ _ _ _ b N cap hid _ hcap hlc hcm =>
  cases len with
  | zero => exact stay (fun _ _ _ _ _ => trivial) (hsem _ _ (by simp [Builtin.clear_, Go.run_underlying hu.ud]))
  | succ m =>
   rcases hor with ⟨hm0, _⟩ | ⟨b', N', cells, hmb', hh, hsN, hfit, hrow⟩
   ·rw [hid] at hm0; cases hm0
   ·rw [hid] at hmb'; cases hmb'
    have hL1 : (Builtin.zeroCells z.cells (m + 1)).toList.length = (m + 1) * n := by simp [Builtin.zeroCells, hzc]
    have hL2 : ∀ v, v ∈ (Builtin.zeroCells z.cells (m + 1)).toList → v.oneCell' = true := by
     intro v hv'
     simp only [Builtin.zeroCells, Array.toList_map, Array.toList_range, List.mem_map, List.mem_range] at hv'
     obtain ⟨i, hi, rfl⟩ := hv'
     have hn0 : 0 < z.cells.size := by
      rcases Nat.eq_zero_or_pos z.cells.size with h0 | h0
      ·rw [h0] at hi; omega
      ·exact h0
     have hm := Nat.mod_lt i hn0
     rw [getElem!_pos z.cells (i % z.cells.size) hm]
     exact hz1 _ (Array.getElem_mem_toList hm)
    generalize hLL : (Builtin.zeroCells z.cells (m + 1)).toList = L at hL1 hL2
    have hfit' : off * n + (m + 1) * n ≤ N := by
     rw [← hcap, ← Nat.add_mul]; exact Nat.mul_le_mul_right _ (by omega)
    have hst := run_storeCells_at (P := P) b (off * n) el L 0 cells w hh (by omega) hL2
    simp only [Nat.add_zero] at hst
    have hr := hsem (.tuple #[]) (w.setRow b (cells.toList.take (off * n) ++ L ++ cells.toList.drop (off * n + L.length)).toArray) (by
     simp [Builtin.clear_, Go.run_underlying hu.ud, Z2z hz.zv, hLL, hst, Sem.run_bind, Result.andThen])
    rw [hr]
    obtain ⟨hw1, he1⟩ := Z0p (Z := Z) (C' := C) (id' := id) (o' := .rows el n (es.take off)) (w' := w.setRow b (cells.toList.take (off * n) ++ L ++ cells.toList.drop (off * n + L.length)).toArray) hs.wr hH (.refl C) rfl (.inl rfl) hu' (fun _ _ h => h) rfl rfl rfl (by simp [World.setRow])
     (fun b N' hm' => .inl ⟨N', hm'⟩) (fun b2 hb2 hne => setRow_other w b b2 _ (by rintro rfl; exact hne _ hid)) (by
      refine ⟨hle1, .inr ⟨b, N, _, hid, setRow_heap w b cells _ el (0, 0) hh, ?_, ?_, ?_⟩⟩
      ·simp only [List.size_toArray, List.length_append, List.length_take, List.length_drop, Array.length_toList]
       omega
      ·rw [List.length_take]
       exact Nat.le_trans (Nat.mul_le_mul_right _ (Nat.min_le_right _ _)) hfit
      ·intro i e' j c he' hc
       rw [List.getElem?_take] at he'
       split at he'
       ·rename_i hio
        obtain ⟨x, h3, h4⟩ := hrow i e' j c he' hc
        have hj : j < n := by have := hlenx e' (List.mem_of_getElem? he'); have := Z08 hc; omega
        have hij : i * n + j < off * n := by
         have : (i + 1) * n ≤ off * n := Nat.mul_le_mul_right _ (by omega)
         rw [Nat.add_mul] at this; omega
        refine ⟨x, ?_, h4⟩
        have hlt := (Array.getElem?_eq_some_iff.1 h3).1
        rw [List.getElem?_toArray, List.append_assoc, List.getElem?_append_left (by simp only [List.length_take, Array.length_toList]; omega), List.getElem?_take, if_pos (by omega), Array.getElem?_toList]
        exact h3
       ·cases he')
    exact ⟨C, _, h, hs.put he1.le hw1 (Z0k hd) (htup C), hx0.trans he1⟩
end
theorem Z5y {P : Program} {f : Nat} {xs : List AV} {el n : Nat} {α : Type} {g : α → List AV} {φ : List α → Prop}
  (h : ACalls P f xs [] (GP (fun r : Nat × List α => .own r.1 n 0 r.2.length) (fun r => [(r.1, .rows el n (r.2.map g))]) (fun r => φ r.2))) : ACalls P f xs [] (GSome (fun l : List α => .lst (l.map g)) φ) := by
 refine ⟨h.ok, fun Z C w vs hw hv => (h.run Z C w vs hw hv).mono ?_⟩
 rintro e w' ⟨C', H', x, ⟨⟨q, l⟩, hφ, rfl, rfl⟩, hw', he', hx⟩
 cases e with
 | panicked ch => exact hx.elim
 | outgrown => exact hx.elim
 | returned v =>
  obtain ⟨b, ob, h1, h2, h3, h4, h5, h6⟩ := frz hw'
  refine ⟨C'.hpSet b ob, [], _, ⟨l, hφ, rfl, rfl⟩, h4, he'.trans ⟨h5, fun _ _ h => h, rfl, rfl, rfl, Nat.le_refl _, fun _ _ _ => rfl, ?_, ?_, ?_⟩, h6 v _ (by simp) hx⟩
  ·intro x o hx
   simp only [Ctx.hpSet] at hx
   split at hx
   ·rename_i e
    obtain ⟨_, N, hm⟩ := h2 x e
    exact .inr (.inr ⟨q, _, N, List.mem_cons_self, hm⟩)
   ·exact .inl ⟨o, hx⟩
  ·rintro x ⟨i, o, N, hi, hm⟩
   cases hi
  ·intro i o hi
   cases hi
theorem Z9t {P : Program} {f : Nat} {xs : List AV} {α : Type} {g : α → AV} {φ : α → Prop} {v : α} (h : ACalls P f xs [] (GSome g φ)) (he : ∀ a, φ a → a = v) : ACalls P f xs [] (Gives (g v)) :=
 h.mono fun e H' ⟨a, h1, h2, h3⟩ => ⟨by rw [h2, he a h1], h3⟩
theorem Z4q {P : Program} {f : Nat} {xs : List AV} {el n : Nat} {α : Type} {g : α → List AV} {l : List α}
  (h : ACalls P f xs [] (GP (fun q : Nat => .own q n 0 l.length) (fun q => [(q, .rows el n (l.map g))]) (fun _ => True))) : ACalls P f xs [] (Gives (.lst (l.map g))) := by
 refine Z9t (g := fun l : List α => .lst (l.map g)) (φ := fun m => m = l) (Z5y (el := el) (n := n) (h.mono fun e H' hR => ?_)) (fun a h => h)
 obtain ⟨q, _, h1, h2⟩ := hR
 exact ⟨(q, l), rfl, h1, h2⟩
end Go.Sx
namespace Go.Sx
open Go
variable {P : Program} {ro : Option Nat} {Q : Exit → St → Prop} {s : St} {ops : Array Oper} {o : Oper} {rest : List Oper} {T : List (Nat × AV)}
end Go.Sx
