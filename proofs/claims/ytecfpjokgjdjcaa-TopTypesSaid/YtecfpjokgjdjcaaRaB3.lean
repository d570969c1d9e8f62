/- The library's sort of texts, walked. -/
import Derived.Test.YtecfpjokgjdjcaaRaB2
set_option linter.unusedVariables false
set_option linter.unusedSimpArgs false
set_option linter.unusedSectionVars false
set_option linter.unnecessarySimpa false
namespace Go.Sx
open Go Go.Proofs
theorem Zci (x : Str) : ACalls Try.prog 91 [sA x] [] (Gives (bA false)) := by
 refine Zj (n := 6) Try.func91 rfl (by decide +kernel) rfl rfl ?_
 refine Z5 ?_
 refine Z2 ?_
 refine Z1 (w0 rfl) rfl (Z3 rfl rfl) ?_
 refine Z4 ?_
 refine Z5 ?_
 refine Z2 ?_
 refine Z1 (w0 rfl) rfl (Z0 rfl rfl) ?_
 refine Z1 (w0 rfl) rfl (Z0 rfl rfl) ?_
 refine Z1 (w0 rfl) rfl (Z0n rfl rfl rfl rfl) ?_
 refine Z1 (w0 rfl) rfl (Z3 rfl rfl) ?_
 refine Z4 ?_
 refine Zs ?_
 exact Z0y rfl (Zf rfl Ze) (gb (by have := Z1y x; unfold beqS at this; simp [this]))
theorem Z11 (x y : Str) : ACalls Try.prog 77 [sA x, sA y] [] (Gives (bA (ltS x y))) := by
 refine Zj (n := 17) Try.func77 rfl (by decide +kernel) rfl rfl ?_
 refine Z5 ?_
 refine Z2 ?_
 refine Z1 (w0 rfl) rfl (Z3 rfl rfl) ?_
 refine Z4 ?_
 refine Z5 ?_
 refine Z2 ?_
 refine Z1 (w0 rfl) rfl (Z0 rfl rfl) ?_
 refine Z1 (w0 rfl) rfl (Zp [] rfl rfl rfl (Zci _) List.nodup_nil) ?_
 refine Z1 (w0 rfl) rfl (Z0 rfl rfl) ?_
 refine Z0f (wT rfl rfl rfl rfl) rfl (fun hg => (Z0 rfl rfl)) ?_
 refine Z0f (wT rfl rfl rfl rfl) rfl (fun hg => (Zp [] rfl rfl (Zn (Z05 hg rfl) Z0e) (Zci _) List.nodup_nil)) ?_
 refine Z0f (wT rfl rfl rfl rfl) rfl (fun hg => (Z0j rfl (Z05 hg rfl))) ?_
 refine Z1 (w0 rfl) rfl (Z0h rfl rfl rfl (fun h => h)) ?_
 refine Z1 (w0 rfl) rfl (Z0 rfl rfl) ?_
 refine Z0f (wF rfl rfl rfl rfl) rfl (fun hg => (Z0 rfl rfl)) ?_
 refine Z0f (wF rfl rfl rfl rfl) rfl (fun hg => (Z0 rfl rfl)) ?_
 refine Z0f (wF rfl rfl rfl rfl) rfl (fun hg => (Z0n rfl (Z05 hg rfl) (Z05 hg rfl) rfl)) ?_
 refine Z1 (w0 rfl) rfl (Zak rfl rfl rfl (fun h => by rw [h]; rfl)) ?_
 refine Z1 (w0 rfl) rfl (Z3 rfl rfl) ?_
 refine Z4 ?_
 refine Zs ?_
 exact Z0y rfl (Zf rfl Ze) (gb rfl)
theorem Zch (q n : Nat) (l : List Str) (hn : l.length = n) (hN : n ≤ 140737488355328) (a b : Nat) (ha : a ≤ b) (hb : b ≤ n) : ACalls Try.prog 71 [.own q 1 0 n, iA a, iA b] [(q, .rows 9 1 (l.map fun x => [sA x]))] (GP (fun _ : List Str => mkRes []) (fun m => [(q, .rows 9 1 (m.map fun x => [sA x]))]) (fun m => Sw a b l m ∧ SAdj ltS a b m)) := by
 refine Zj (n := 49) Try.func71 rfl (by decide +kernel) rfl rfl ?_
 refine Z5 ?_
 refine Z2 ?_
 refine Z1 (w0 rfl) rfl (Z0 rfl rfl) ?_
 refine Z1 (w0 rfl) rfl (Z7 rfl rfl rfl (Zd (by first | omega | (simp only [List.length_map]; omega)))) ?_
 refine Z1 (w0 rfl) rfl (Z3 rfl rfl) ?_
 refine Z4 ?_
 refine Zm ?_
 refine Z06 (α := List Str × Nat) (fun x => ⟨[(6, iA x.2), (0, .own q 1 0 n), (1, iA a), (2, iA b)], [(q, .rows 9 1 (x.1.map fun x => [sA x]))], [], 49⟩) (fun x => Sw a b l x.1 ∧ a + 1 ≤ x.2 ∧ SAdj ltS a x.2 x.1) (fun x => b - x.2) (l, a + 1) ⟨.refl, Nat.le_refl _, SAdj.refl1 (Nat.le_refl _)⟩ ?_ ?_
 ·exact Zc [0] ⟨rfl, rfl, rfl, rfl, trivial⟩ rfl (by decide) rfl rfl
 rintro x hJ
 have hm := hJ.1.len
 refine Z5 ?_
 refine Z5 ?_
 refine Z2 ?_
 refine Z1 (w0 rfl) rfl (Z0 rfl rfl) ?_
 refine Z1 (w0 rfl) rfl (Z0 rfl rfl) ?_
 refine Z1 (w0 rfl) rfl (Zb rfl rfl rfl rfl) ?_
 refine Z4 ?_
 refine Za rfl ?_ ?_
 ·intro hc
  have hx : x.2 < b := by simpa using hc
  refine Zh ?_
  refine Z5 ?_
  refine Zm ?_
  refine Z5 ?_
  refine Z2 ?_
  refine Z1 (w0 rfl) rfl (Z0 rfl rfl) ?_
  refine Z1 (w0 rfl) rfl (Z3 rfl rfl) ?_
  refine Z4 ?_
  refine Zm ?_
  refine Z06 (α := List Str × Nat) (fun z => ⟨[(7, iA z.2), (6, iA x.2), (0, .own q 1 0 n), (1, iA a), (2, iA b)], [(q, .rows 9 1 (z.1.map fun x => [sA x]))], [], 49⟩) (fun z => Sw a b l z.1 ∧ a ≤ z.2 ∧ z.2 ≤ x.2 ∧ Ins ltS a z.2 x.2 z.1) (fun z => z.2) (x.1, x.2) ⟨hJ.1, (by (try simp only) <;> omega), Nat.le_refl _, Ins.start hJ.2.2⟩ ?_ ?_
  ·exact Zc [0] ⟨rfl, rfl, rfl, rfl, rfl, trivial⟩ rfl (by decide) rfl rfl
  rintro z hJ2
  have hm2 := hJ2.1.len
  refine Z5 ?_
  refine Z5 ?_
  refine Z0i [0, 0, 3, 7, 15, 15, 63, 127, 15, 15, 527, 1807, 3855, 8191, 16383] 15 rfl (by kernel_rfl) ?_
  refine Z9 (w0 rfl) rfl (Z0 rfl rfl) ?_
  refine Z9 (w0 rfl) rfl (Z0 rfl rfl) ?_
  refine Z9 (w0 rfl) rfl (Zb rfl rfl rfl rfl) ?_
  refine Z9 (w0 rfl) rfl (Z0 rfl rfl) ?_
  refine Zi (wT rfl rfl rfl rfl) rfl (fun hg => (Z0 rfl rfl)) ?_
  refine Zi (wT rfl rfl rfl rfl) rfl (fun hg => (Z0 rfl rfl)) ?_
  refine Zi (wT rfl rfl rfl rfl) rfl (fun hg => (Z6 z.2 rfl (Z05 hg rfl) (Z05 hg rfl) (by (try simp at hg) <;> first | omega | (simp only [List.length_map]; omega) | (simp only [List.length_map, List.length_drop]; omega)) (by (try simp at hg) <;> first | omega | (simp only [List.length_map]; omega) | (simp only [List.length_map, List.length_drop]; omega)) (by omega))) ?_
  refine Zt 0 (wT rfl rfl rfl rfl) rfl rfl (fun hg => (Z05 hg rfl)) rfl (fun hg => by (try simp at hg) <;> (first | assumption | omega | (simp only [List.length_drop]; omega))) (fun _ => Zo) ?_
  refine Zi (wT rfl rfl rfl rfl) rfl (fun hg => (Z0 rfl rfl)) ?_
  refine Zi (wT rfl rfl rfl rfl) rfl (fun hg => (Z0 rfl rfl)) ?_
  refine Zi (wT rfl rfl rfl rfl) rfl (fun hg => (Z7 rfl (Z05 hg rfl) rfl (Zg (by first | omega | (simp only [List.length_map]; omega))))) ?_
  refine Zi (wT rfl rfl rfl rfl) rfl (fun hg => (Z6 (z.2 - 1) rfl (Z05 hg rfl) (Z05 hg rfl) (by (try simp at hg) <;> first | omega | (simp only [List.length_map]; omega) | (simp only [List.length_map, List.length_drop]; omega)) (by (try simp at hg) <;> first | omega | (simp only [List.length_map]; omega) | (simp only [List.length_map, List.length_drop]; omega)) (by omega))) ?_
  refine Zt 0 (wT rfl rfl rfl rfl) rfl rfl (fun hg => (Z05 hg rfl)) rfl (fun hg => by (try simp at hg) <;> (first | assumption | omega | (simp only [List.length_drop]; omega))) (fun _ => Zo) ?_
  refine Zi (wT rfl rfl rfl rfl) rfl (fun hg => (Zp [] rfl rfl (Zn (Z05 hg rfl) (Zn (Z05 hg rfl) Z0e)) (Z11 _ _) List.nodup_nil)) ?_
  refine Z9 (w0 rfl) rfl (Z0h rfl rfl rfl (fun h => h)) ?_
  refine .done ?_
  refine Z4 ?_
  refine Za rfl ?_ ?_
  ·intro hc
   have hk : a < z.2 := by have := Z78 hc; simpa using this
   have hlt : ltS (z.1.getD z.2 default) (z.1.getD (z.2 - 1) default) = true := Z6k hc
   refine Zh ?_
   refine Z5 ?_
   refine Zm ?_
   refine Z0m [0, 0, 0, 0, 8, 0, 0, 64, 224, 480, 0, 0, 3072, 7168, 16355, 32739, 65535, 131071] [15, 17] [9, 13] rfl (by kernel_rfl) ?_
   refine Z8 (w0 rfl) rfl (Z0 rfl rfl) rfl ?_
   refine Z8 (w0 rfl) rfl (Z0 rfl rfl) rfl ?_
   refine Z8 (w0 rfl) rfl (Z0 rfl rfl) rfl ?_
   refine Z8 (w0 rfl) rfl (Z0 rfl rfl) rfl ?_
   refine Z8 (w0 rfl) rfl (Z7 rfl rfl rfl (Zg (by first | omega | (simp only [List.length_map]; omega)))) rfl ?_
   refine Z8 (w0 rfl) rfl (Z0 rfl rfl) rfl ?_
   refine Z8 (w0 rfl) rfl (Z0 rfl rfl) rfl ?_
   refine Z8 (w0 rfl) rfl (Z7 rfl rfl rfl (Zg (by first | omega | (simp only [List.length_map]; omega)))) rfl ?_
   refine Z8 (w0 rfl) rfl (Z6 (z.2 - 1) rfl rfl rfl (by first | omega | (simp only [List.length_map]; omega) | (simp only [List.length_map, List.length_drop]; omega)) (by first | omega | (simp only [List.length_map]; omega) | (simp only [List.length_map, List.length_drop]; omega)) (by omega)) rfl ?_
   refine Zk 0 (w0 rfl) rfl rfl rfl rfl (Z02 (by first | assumption | omega | (simp only [List.length_drop]; omega))) Zo rfl rfl ?_
   refine Z8 (w0 rfl) rfl (Z0 rfl rfl) rfl ?_
   refine Z8 (w0 rfl) rfl (Z0 rfl rfl) rfl ?_
   refine Z8 (w0 rfl) rfl (Z6 z.2 rfl rfl rfl (by first | omega | (simp only [List.length_map]; omega) | (simp only [List.length_map, List.length_drop]; omega)) (by first | omega | (simp only [List.length_map]; omega) | (simp only [List.length_map, List.length_drop]; omega)) (by omega)) rfl ?_
   refine Zk 0 (w0 rfl) rfl rfl rfl rfl (Z02 (by first | assumption | omega | (simp only [List.length_drop]; omega))) Zo rfl rfl ?_
   refine Z8 (w0 rfl) rfl (Z6 z.2 rfl rfl rfl (by first | omega | (simp only [List.length_map]; omega) | (simp only [List.length_map, List.length_drop]; omega)) (by first | omega | (simp only [List.length_map]; omega) | (simp only [List.length_map, List.length_drop]; omega)) (by omega)) rfl ?_
   refine Zq 0 rfl (w0 rfl) rfl rfl rfl rfl (by first | omega | (simp; omega)) rfl rfl ?_
   refine Z8 (w0 rfl) rfl (Z6 (z.2 - 1) rfl rfl rfl (by first | omega | (simp only [List.length_map]; omega) | (simp only [List.length_map, List.length_drop]; omega)) (by first | omega | (simp only [List.length_map]; omega) | (simp only [List.length_map, List.length_drop]; omega)) (by omega)) rfl ?_
   refine Zq 0 rfl (w0 rfl) rfl rfl rfl rfl (by first | omega | (simp; omega)) rfl rfl ?_
   refine .done ?_
   refine Z2 ?_
   refine Z1 (w0 rfl) rfl (Z0 rfl rfl) ?_
   refine Z1 (w0 rfl) rfl (Z7 rfl rfl rfl (Zg (by first | omega | (simp only [List.length_map]; omega)))) ?_
   refine Z1 (w0 rfl) rfl (Z3 rfl rfl) ?_
   refine Z4 ?_
   refine ⟨(swp z.1 z.2 (z.2 - 1), z.2 - 1), ⟨.step _ _ hJ2.1 (by (try simp only) <;> omega) (by (try simp only) <;> omega) (by (try simp only) <;> omega), (by (try simp only) <;> omega), (by (try simp only) <;> omega), hJ2.2.2.2.step ltS_ok hk (by (try simp only) <;> omega) (by (try simp only) <;> omega) hlt⟩, (by (try simp only) <;> omega), ?_⟩
   exact Zc [0] ⟨(congrArg (fun n => some (iA n)) (by (try simp only) <;> omega)), rfl, rfl, rfl, rfl, trivial⟩ rfl (by decide) rfl rfl
  ·intro hc
   have hst : z.2 ≤ a ∨ ltS (z.1.getD z.2 default) (z.1.getD (z.2 - 1) default) = false := by rcases Bool.and_eq_false_iff.1 hc with h | h; exact .inl (by simpa using h); exact .inr h
   have hdn := hJ2.2.2.2.done hst
   refine Zy ?_
   refine Z2 ?_
   refine Z1 (w0 rfl) rfl (Z0 rfl rfl) ?_
   refine Z1 (w0 rfl) rfl (Z7 rfl rfl rfl (Zd (by first | omega | (simp only [List.length_map]; omega)))) ?_
   refine Z1 (w0 rfl) rfl (Z3 rfl rfl) ?_
   refine Z4 ?_
   refine ⟨(z.1, x.2 + 1), ⟨hJ2.1, (by (try simp only) <;> omega), hdn⟩, (by (try simp only) <;> omega), ?_⟩
   exact Zc [0] ⟨rfl, rfl, rfl, rfl, trivial⟩ rfl (by decide) rfl rfl
 ·intro hc
  have hx : ¬ x.2 < b := by simpa using hc
  refine Zy ?_
  exact Zr rfl Ze (.cons_cons _ .slnil) (gp x.1 ⟨hJ.1, fun k h1 h2 => hJ.2.2 k h1 (by omega)⟩ rfl rfl)
theorem Zgb (q n : Nat) (l : List Str) (hn : l.length = n) (hN : n ≤ 140737488355328) (lo hi f : Nat) (hf : f + hi ≤ n) (hlo : lo ≤ n) (hh : Heap ltS (lo + 1) hi f l) : ACalls Try.prog 86 [.own q 1 0 n, iA lo, iA hi, iA f] [(q, .rows 9 1 (l.map fun x => [sA x]))] (GP (fun _ : List Str => mkRes []) (fun m => [(q, .rows 9 1 (m.map fun x => [sA x]))]) (fun m => Sw f (f + hi) l m ∧ Heap ltS lo hi f m)) := by
 refine Zj (n := 76) Try.func86 rfl (by decide +kernel) rfl rfl ?_
 refine Z5 ?_
 refine Z2 ?_
 refine Z1 (w0 rfl) rfl (Z0 rfl rfl) ?_
 refine Z1 (w0 rfl) rfl (Z3 rfl rfl) ?_
 refine Z4 ?_
 refine Zm ?_
 refine Z06 (α := List Str × Nat) (fun z => ⟨[(8, iA z.2), (0, .own q 1 0 n), (2, iA hi), (3, iA f)], [(q, .rows 9 1 (z.1.map fun x => [sA x]))], [], 76⟩) (fun z => Sw f (f + hi) l z.1 ∧ lo ≤ z.2 ∧ (z.2 < hi ∨ z.2 = lo) ∧ Sift ltS lo hi f z.2 z.1) (fun z => hi - z.2) (l, lo) ⟨.refl, Nat.le_refl _, .inr rfl, Sift.start hh⟩ ?_ ?_
 ·exact Zc [0] ⟨rfl, rfl, rfl, rfl, trivial⟩ rfl (by decide) rfl rfl
 rintro z hJ
 have hm := hJ.1.len
 have hz := hJ.2.2.1
 refine Zm ?_
 refine Z5 ?_
 refine Z2 ?_
 refine Z1 (w0 rfl) rfl (Z0 rfl rfl) ?_
 refine Z1 (w0 rfl) rfl (Z7 rfl rfl rfl (Z1x (by first | omega | (simp only [List.length_map]; omega)))) ?_
 refine Z1 (w0 rfl) rfl (Z7 rfl rfl rfl (Zd (by first | omega | (simp only [List.length_map]; omega)))) ?_
 refine Z1 (w0 rfl) rfl (Z3 rfl rfl) ?_
 refine Z4 ?_
 refine Z5 ?_
 refine Z5 ?_
 refine Z2 ?_
 refine Z1 (w0 rfl) rfl (Z0 rfl rfl) ?_
 refine Z1 (w0 rfl) rfl (Z0 rfl rfl) ?_
 refine Z1 (w0 rfl) rfl (Zb rfl rfl rfl rfl) ?_
 refine Z4 ?_
 refine Za rfl ?_ ?_
 ·intro hc
  have hleaf : hi ≤ 2 * z.2 + 1 := by simp at hc; omega
  refine Zy ?_
  exact Zr rfl Ze (.cons_cons _ .slnil) (gp z.1 ⟨hJ.1, hJ.2.2.2.leaf hleaf⟩ rfl rfl)
 ·intro hc
  have hch : 2 * z.2 + 1 < hi := by simp at hc; omega
  refine Zh ?_
  refine Z5 ?_
  refine Z5 ?_
  refine Z0i [0, 1, 0, 7, 15, 31, 31, 31, 223, 511, 1023, 31, 31, 31, 12319, 28703, 63519, 129055, 262143, 524287] 20 rfl (by kernel_rfl) ?_
  refine Z9 (w0 rfl) rfl (Z0 rfl rfl) ?_
  refine Z9 (w0 rfl) rfl (Z7 rfl rfl rfl (Zd (by first | omega | (simp only [List.length_map]; omega)))) ?_
  refine Z9 (w0 rfl) rfl (Z0 rfl rfl) ?_
  refine Z9 (w0 rfl) rfl (Zb rfl rfl rfl rfl) ?_
  refine Z9 (w0 rfl) rfl (Z0 rfl rfl) ?_
  refine Zi (wT rfl rfl rfl rfl) rfl (fun hg => (Z0 rfl rfl)) ?_
  refine Zi (wT rfl rfl rfl rfl) rfl (fun hg => (Z0 rfl rfl)) ?_
  refine Zi (wT rfl rfl rfl rfl) rfl (fun hg => (Z0 rfl rfl)) ?_
  refine Zi (wT rfl rfl rfl rfl) rfl (fun hg => (Z7 rfl (Z05 hg rfl) (Z05 hg rfl) (Zd (by first | omega | (simp only [List.length_map]; omega))))) ?_
  refine Zi (wT rfl rfl rfl rfl) rfl (fun hg => (Z6 (f + ((2 * z.2) + 1)) rfl (Z05 hg rfl) (Z05 hg rfl) (by (try simp at hg) <;> first | omega | (simp only [List.length_map]; omega) | (simp only [List.length_map, List.length_drop]; omega)) (by (try simp at hg) <;> first | omega | (simp only [List.length_map]; omega) | (simp only [List.length_map, List.length_drop]; omega)) (by omega))) ?_
  refine Zt 0 (wT rfl rfl rfl rfl) rfl rfl (fun hg => (Z05 hg rfl)) rfl (fun hg => by (try simp at hg) <;> (first | assumption | omega | (simp only [List.length_drop]; omega))) (fun _ => Zo) ?_
  refine Zi (wT rfl rfl rfl rfl) rfl (fun hg => (Z0 rfl rfl)) ?_
  refine Zi (wT rfl rfl rfl rfl) rfl (fun hg => (Z0 rfl rfl)) ?_
  refine Zi (wT rfl rfl rfl rfl) rfl (fun hg => (Z0 rfl rfl)) ?_
  refine Zi (wT rfl rfl rfl rfl) rfl (fun hg => (Z7 rfl (Z05 hg rfl) (Z05 hg rfl) (Zd (by first | omega | (simp only [List.length_map]; omega))))) ?_
  refine Zi (wT rfl rfl rfl rfl) rfl (fun hg => (Z7 rfl (Z05 hg rfl) rfl (Zd (by first | omega | (simp only [List.length_map]; omega))))) ?_
  refine Zi (wT rfl rfl rfl rfl) rfl (fun hg => (Z6 ((f + ((2 * z.2) + 1)) + 1) rfl (Z05 hg rfl) (Z05 hg rfl) (by (try simp at hg) <;> first | omega | (simp only [List.length_map]; omega) | (simp only [List.length_map, List.length_drop]; omega)) (by (try simp at hg) <;> first | omega | (simp only [List.length_map]; omega) | (simp only [List.length_map, List.length_drop]; omega)) (by omega))) ?_
  refine Zt 0 (wT rfl rfl rfl rfl) rfl rfl (fun hg => (Z05 hg rfl)) rfl (fun hg => by (try simp at hg) <;> (first | assumption | omega | (simp only [List.length_drop]; omega))) (fun _ => Zo) ?_
  refine Zi (wT rfl rfl rfl rfl) rfl (fun hg => (Zp [] rfl rfl (Zn (Z05 hg rfl) (Zn (Z05 hg rfl) Z0e)) (Z11 _ _) List.nodup_nil)) ?_
  refine Z9 (w0 rfl) rfl (Z0h rfl rfl rfl (fun h => h)) ?_
  refine .done ?_
  refine Z4 ?_
  refine Za rfl ?_ ?_
  ·intro hc
   have hc1 : 2 * z.2 + 1 + 1 < hi := by have := Z78 hc; simp at this; omega
   have hl1 : ltS (hp z.1 f (2 * z.2 + 1)) (hp z.1 f (2 * z.2 + 1 + 1)) = true := Z6k hc
   have hmax : ∀ c, (c = 2 * z.2 + 1 ∨ c = 2 * z.2 + 2) → c < hi → ltS (hp z.1 f (2 * z.2 + 1 + 1)) (hp z.1 f c) = false := fun c h1 h2 => by rcases h1 with rfl | rfl; exact ltS_ok.asy _ _ hl1; exact ltS_ok.irr _
   refine Z2 ?_
   refine Z1 (w0 rfl) rfl (Z0 rfl rfl) ?_
   refine Z1 (w0 rfl) rfl (Z7 rfl rfl rfl (Zd (by first | omega | (simp only [List.length_map]; omega)))) ?_
   refine Z1 (w0 rfl) rfl (Z3 rfl rfl) ?_
   refine Z4 ?_
   refine Z5 ?_
   refine Z5 ?_
   refine Z0i [0, 0, 0, 6, 15, 31, 0, 0, 0, 384, 960, 1984, 4095, 8191] 14 rfl (by kernel_rfl) ?_
   refine Z9 (w0 rfl) rfl (Z0 rfl rfl) ?_
   refine Z9 (w0 rfl) rfl (Z0 rfl rfl) ?_
   refine Z9 (w0 rfl) rfl (Z0 rfl rfl) ?_
   refine Z9 (w0 rfl) rfl (Z7 rfl rfl rfl (Zd (by first | omega | (simp only [List.length_map]; omega)))) ?_
   refine Z9 (w0 rfl) rfl (Z6 (f + z.2) rfl rfl rfl (by first | omega | (simp only [List.length_map]; omega) | (simp only [List.length_map, List.length_drop]; omega)) (by first | omega | (simp only [List.length_map]; omega) | (simp only [List.length_map, List.length_drop]; omega)) (by omega)) ?_
   refine Zw 0 (w0 rfl) rfl rfl rfl rfl (Z02 (by first | assumption | omega | (simp only [List.length_drop]; omega))) Zo ?_
   refine Z9 (w0 rfl) rfl (Z0 rfl rfl) ?_
   refine Z9 (w0 rfl) rfl (Z0 rfl rfl) ?_
   refine Z9 (w0 rfl) rfl (Z0 rfl rfl) ?_
   refine Z9 (w0 rfl) rfl (Z7 rfl rfl rfl (Zd (by first | omega | (simp only [List.length_map]; omega)))) ?_
   refine Z9 (w0 rfl) rfl (Z6 (f + (((2 * z.2) + 1) + 1)) rfl rfl rfl (by first | omega | (simp only [List.length_map]; omega) | (simp only [List.length_map, List.length_drop]; omega)) (by first | omega | (simp only [List.length_map]; omega) | (simp only [List.length_map, List.length_drop]; omega)) (by omega)) ?_
   refine Zw 0 (w0 rfl) rfl rfl rfl rfl (Z02 (by first | assumption | omega | (simp only [List.length_drop]; omega))) Zo ?_
   refine Z9 (w0 rfl) rfl (Zp [] rfl rfl rfl (Z11 _ _) List.nodup_nil) ?_
   refine Z9 (w0 rfl) rfl (Z0j rfl rfl) ?_
   refine .done ?_
   refine Z4 ?_
   refine Za rfl ?_ ?_
   ·intro hc
    have hstop := Z6j hc
    refine Zs ?_
    exact Zr rfl Ze (.cons_cons _ .slnil) (gp z.1 ⟨hJ.1, hJ.2.2.2.stop ltS_ok hmax hstop⟩ rfl rfl)
   ·intro hc
    have hlt := Z8w hc
    refine Zh ?_
    refine Z5 ?_
    refine Z0m [0, 0, 0, 6, 0, 0, 0, 96, 0, 0, 0, 1536, 3840, 7936, 0, 0, 0, 98304, 245760, 507904, 1048335, 2096911, 4194303, 8388607] [21, 23] [13, 19] rfl (by kernel_rfl) ?_
    refine Z8 (w0 rfl) rfl (Z0 rfl rfl) rfl ?_
    refine Z8 (w0 rfl) rfl (Z0 rfl rfl) rfl ?_
    refine Z8 (w0 rfl) rfl (Z0 rfl rfl) rfl ?_
    refine Z8 (w0 rfl) rfl (Z7 rfl rfl rfl (Zd (by first | omega | (simp only [List.length_map]; omega)))) rfl ?_
    refine Z8 (w0 rfl) rfl (Z0 rfl rfl) rfl ?_
    refine Z8 (w0 rfl) rfl (Z0 rfl rfl) rfl ?_
    refine Z8 (w0 rfl) rfl (Z0 rfl rfl) rfl ?_
    refine Z8 (w0 rfl) rfl (Z7 rfl rfl rfl (Zd (by first | omega | (simp only [List.length_map]; omega)))) rfl ?_
    refine Z8 (w0 rfl) rfl (Z0 rfl rfl) rfl ?_
    refine Z8 (w0 rfl) rfl (Z0 rfl rfl) rfl ?_
    refine Z8 (w0 rfl) rfl (Z0 rfl rfl) rfl ?_
    refine Z8 (w0 rfl) rfl (Z7 rfl rfl rfl (Zd (by first | omega | (simp only [List.length_map]; omega)))) rfl ?_
    refine Z8 (w0 rfl) rfl (Z6 (f + (((2 * z.2) + 1) + 1)) rfl rfl rfl (by first | omega | (simp only [List.length_map]; omega) | (simp only [List.length_map, List.length_drop]; omega)) (by first | omega | (simp only [List.length_map]; omega) | (simp only [List.length_map, List.length_drop]; omega)) (by omega)) rfl ?_
    refine Zk 0 (w0 rfl) rfl rfl rfl rfl (Z02 (by first | assumption | omega | (simp only [List.length_drop]; omega))) Zo rfl rfl ?_
    refine Z8 (w0 rfl) rfl (Z0 rfl rfl) rfl ?_
    refine Z8 (w0 rfl) rfl (Z0 rfl rfl) rfl ?_
    refine Z8 (w0 rfl) rfl (Z0 rfl rfl) rfl ?_
    refine Z8 (w0 rfl) rfl (Z7 rfl rfl rfl (Zd (by first | omega | (simp only [List.length_map]; omega)))) rfl ?_
    refine Z8 (w0 rfl) rfl (Z6 (f + z.2) rfl rfl rfl (by first | omega | (simp only [List.length_map]; omega) | (simp only [List.length_map, List.length_drop]; omega)) (by first | omega | (simp only [List.length_map]; omega) | (simp only [List.length_map, List.length_drop]; omega)) (by omega)) rfl ?_
    refine Zk 0 (w0 rfl) rfl rfl rfl rfl (Z02 (by first | assumption | omega | (simp only [List.length_drop]; omega))) Zo rfl rfl ?_
    refine Z8 (w0 rfl) rfl (Z6 (f + z.2) rfl rfl rfl (by first | omega | (simp only [List.length_map]; omega) | (simp only [List.length_map, List.length_drop]; omega)) (by first | omega | (simp only [List.length_map]; omega) | (simp only [List.length_map, List.length_drop]; omega)) (by omega)) rfl ?_
    refine Zq 0 rfl (w0 rfl) rfl rfl rfl rfl (by first | omega | (simp; omega)) rfl rfl ?_
    refine Z8 (w0 rfl) rfl (Z6 (f + (((2 * z.2) + 1) + 1)) rfl rfl rfl (by first | omega | (simp only [List.length_map]; omega) | (simp only [List.length_map, List.length_drop]; omega)) (by first | omega | (simp only [List.length_map]; omega) | (simp only [List.length_map, List.length_drop]; omega)) (by omega)) rfl ?_
    refine Zq 0 rfl (w0 rfl) rfl rfl rfl rfl (by first | omega | (simp; omega)) rfl rfl ?_
    refine .done ?_
    refine Z2 ?_
    refine Z1 (w0 rfl) rfl (Z0 rfl rfl) ?_
    refine Z1 (w0 rfl) rfl (Z3 rfl rfl) ?_
    refine Z4 ?_
    refine ⟨(swp z.1 (f + z.2) (f + (2 * z.2 + 1 + 1)), (2 * z.2 + 1 + 1)), ⟨.step _ _ hJ.1 (by (try simp only) <;> omega) (by (try simp only) <;> omega) (by (try simp only) <;> omega), (by (try simp only) <;> omega), .inl (by (try simp only) <;> omega), hJ.2.2.2.step (c0 := (2 * z.2 + 1 + 1)) ltS_ok hJ.2.1 (.inr rfl) (by (try simp only) <;> omega) (by (try simp only) <;> omega) hmax hlt⟩, (by (try simp only) <;> omega), ?_⟩
    exact Zc [0] ⟨rfl, rfl, rfl, rfl, trivial⟩ rfl (by decide) rfl rfl
  ·intro hc
   have hmax : ∀ c, (c = 2 * z.2 + 1 ∨ c = 2 * z.2 + 2) → c < hi → ltS (hp z.1 f (2 * z.2 + 1)) (hp z.1 f c) = false := fun c h1 h2 => by rcases h1 with rfl | rfl; exact ltS_ok.irr _; rcases Bool.and_eq_false_iff.1 hc with h | h; simp at h; omega; exact h
   refine Zh ?_
   refine Z5 ?_
   refine Z5 ?_
   refine Z0i [0, 0, 0, 6, 15, 31, 0, 0, 0, 384, 960, 1984, 4095, 8191] 14 rfl (by kernel_rfl) ?_
   refine Z9 (w0 rfl) rfl (Z0 rfl rfl) ?_
   refine Z9 (w0 rfl) rfl (Z0 rfl rfl) ?_
   refine Z9 (w0 rfl) rfl (Z0 rfl rfl) ?_
   refine Z9 (w0 rfl) rfl (Z7 rfl rfl rfl (Zd (by first | omega | (simp only [List.length_map]; omega)))) ?_
   refine Z9 (w0 rfl) rfl (Z6 (f + z.2) rfl rfl rfl (by first | omega | (simp only [List.length_map]; omega) | (simp only [List.length_map, List.length_drop]; omega)) (by first | omega | (simp only [List.length_map]; omega) | (simp only [List.length_map, List.length_drop]; omega)) (by omega)) ?_
   refine Zw 0 (w0 rfl) rfl rfl rfl rfl (Z02 (by first | assumption | omega | (simp only [List.length_drop]; omega))) Zo ?_
   refine Z9 (w0 rfl) rfl (Z0 rfl rfl) ?_
   refine Z9 (w0 rfl) rfl (Z0 rfl rfl) ?_
   refine Z9 (w0 rfl) rfl (Z0 rfl rfl) ?_
   refine Z9 (w0 rfl) rfl (Z7 rfl rfl rfl (Zd (by first | omega | (simp only [List.length_map]; omega)))) ?_
   refine Z9 (w0 rfl) rfl (Z6 (f + ((2 * z.2) + 1)) rfl rfl rfl (by first | omega | (simp only [List.length_map]; omega) | (simp only [List.length_map, List.length_drop]; omega)) (by first | omega | (simp only [List.length_map]; omega) | (simp only [List.length_map, List.length_drop]; omega)) (by omega)) ?_
   refine Zw 0 (w0 rfl) rfl rfl rfl rfl (Z02 (by first | assumption | omega | (simp only [List.length_drop]; omega))) Zo ?_
   refine Z9 (w0 rfl) rfl (Zp [] rfl rfl rfl (Z11 _ _) List.nodup_nil) ?_
   refine Z9 (w0 rfl) rfl (Z0j rfl rfl) ?_
   refine .done ?_
   refine Z4 ?_
   refine Za rfl ?_ ?_
   ·intro hc
    have hstop := Z6j hc
    refine Zs ?_
    exact Zr rfl Ze (.cons_cons _ .slnil) (gp z.1 ⟨hJ.1, hJ.2.2.2.stop ltS_ok hmax hstop⟩ rfl rfl)
   ·intro hc
    have hlt := Z8w hc
    refine Zh ?_
    refine Z5 ?_
    refine Z0m [0, 0, 0, 6, 0, 0, 0, 96, 0, 0, 0, 1536, 3840, 7936, 0, 0, 0, 98304, 245760, 507904, 1048335, 2096911, 4194303, 8388607] [21, 23] [13, 19] rfl (by kernel_rfl) ?_
    refine Z8 (w0 rfl) rfl (Z0 rfl rfl) rfl ?_
    refine Z8 (w0 rfl) rfl (Z0 rfl rfl) rfl ?_
    refine Z8 (w0 rfl) rfl (Z0 rfl rfl) rfl ?_
    refine Z8 (w0 rfl) rfl (Z7 rfl rfl rfl (Zd (by first | omega | (simp only [List.length_map]; omega)))) rfl ?_
    refine Z8 (w0 rfl) rfl (Z0 rfl rfl) rfl ?_
    refine Z8 (w0 rfl) rfl (Z0 rfl rfl) rfl ?_
    refine Z8 (w0 rfl) rfl (Z0 rfl rfl) rfl ?_
    refine Z8 (w0 rfl) rfl (Z7 rfl rfl rfl (Zd (by first | omega | (simp only [List.length_map]; omega)))) rfl ?_
    refine Z8 (w0 rfl) rfl (Z0 rfl rfl) rfl ?_
    refine Z8 (w0 rfl) rfl (Z0 rfl rfl) rfl ?_
    refine Z8 (w0 rfl) rfl (Z0 rfl rfl) rfl ?_
    refine Z8 (w0 rfl) rfl (Z7 rfl rfl rfl (Zd (by first | omega | (simp only [List.length_map]; omega)))) rfl ?_
    refine Z8 (w0 rfl) rfl (Z6 (f + ((2 * z.2) + 1)) rfl rfl rfl (by first | omega | (simp only [List.length_map]; omega) | (simp only [List.length_map, List.length_drop]; omega)) (by first | omega | (simp only [List.length_map]; omega) | (simp only [List.length_map, List.length_drop]; omega)) (by omega)) rfl ?_
    refine Zk 0 (w0 rfl) rfl rfl rfl rfl (Z02 (by first | assumption | omega | (simp only [List.length_drop]; omega))) Zo rfl rfl ?_
    refine Z8 (w0 rfl) rfl (Z0 rfl rfl) rfl ?_
    refine Z8 (w0 rfl) rfl (Z0 rfl rfl) rfl ?_
    refine Z8 (w0 rfl) rfl (Z0 rfl rfl) rfl ?_
    refine Z8 (w0 rfl) rfl (Z7 rfl rfl rfl (Zd (by first | omega | (simp only [List.length_map]; omega)))) rfl ?_
    refine Z8 (w0 rfl) rfl (Z6 (f + z.2) rfl rfl rfl (by first | omega | (simp only [List.length_map]; omega) | (simp only [List.length_map, List.length_drop]; omega)) (by first | omega | (simp only [List.length_map]; omega) | (simp only [List.length_map, List.length_drop]; omega)) (by omega)) rfl ?_
    refine Zk 0 (w0 rfl) rfl rfl rfl rfl (Z02 (by first | assumption | omega | (simp only [List.length_drop]; omega))) Zo rfl rfl ?_
    refine Z8 (w0 rfl) rfl (Z6 (f + z.2) rfl rfl rfl (by first | omega | (simp only [List.length_map]; omega) | (simp only [List.length_map, List.length_drop]; omega)) (by first | omega | (simp only [List.length_map]; omega) | (simp only [List.length_map, List.length_drop]; omega)) (by omega)) rfl ?_
    refine Zq 0 rfl (w0 rfl) rfl rfl rfl rfl (by first | omega | (simp; omega)) rfl rfl ?_
    refine Z8 (w0 rfl) rfl (Z6 (f + ((2 * z.2) + 1)) rfl rfl rfl (by first | omega | (simp only [List.length_map]; omega) | (simp only [List.length_map, List.length_drop]; omega)) (by first | omega | (simp only [List.length_map]; omega) | (simp only [List.length_map, List.length_drop]; omega)) (by omega)) rfl ?_
    refine Zq 0 rfl (w0 rfl) rfl rfl rfl rfl (by first | omega | (simp; omega)) rfl rfl ?_
    refine .done ?_
    refine Z2 ?_
    refine Z1 (w0 rfl) rfl (Z0 rfl rfl) ?_
    refine Z1 (w0 rfl) rfl (Z3 rfl rfl) ?_
    refine Z4 ?_
    refine ⟨(swp z.1 (f + z.2) (f + (2 * z.2 + 1)), (2 * z.2 + 1)), ⟨.step _ _ hJ.1 (by (try simp only) <;> omega) (by (try simp only) <;> omega) (by (try simp only) <;> omega), (by (try simp only) <;> omega), .inl (by (try simp only) <;> omega), hJ.2.2.2.step (c0 := (2 * z.2 + 1)) ltS_ok hJ.2.1 (.inl rfl) (by (try simp only) <;> omega) (by (try simp only) <;> omega) hmax hlt⟩, (by (try simp only) <;> omega), ?_⟩
    exact Zc [0] ⟨rfl, rfl, rfl, rfl, trivial⟩ rfl (by decide) rfl rfl
theorem Zbq (q n : Nat) (l : List Str) (hn : l.length = n) (hN : n ≤ 140737488355328) (a b : Nat) (ha : a ≤ b) (hb : b ≤ n) : ACalls Try.prog 72 [.own q 1 0 n, iA a, iA b] [(q, .rows 9 1 (l.map fun x => [sA x]))] (GP (fun _ : List Str => mkRes []) (fun m => [(q, .rows 9 1 (m.map fun x => [sA x]))]) (fun m => Sw a b l m ∧ SOn ltS a b m)) := by
 refine Zj (n := 56) Try.func72 rfl (by decide +kernel) rfl rfl ?_
 refine Z5 ?_
 refine Z2 ?_
 refine Z1 (w0 rfl) rfl (Z0 rfl rfl) ?_
 refine Z1 (w0 rfl) rfl (Z3 rfl rfl) ?_
 refine Z4 ?_
 refine Z5 ?_
 refine Z2 ?_
 refine Z1 (w0 rfl) rfl (Z3 rfl rfl) ?_
 refine Z4 ?_
 refine Z5 ?_
 refine Z2 ?_
 refine Z1 (w0 rfl) rfl (Z0 rfl rfl) ?_
 refine Z1 (w0 rfl) rfl (Z0 rfl rfl) ?_
 refine Z1 (w0 rfl) rfl (Zz (y := iA (b - a : Nat)) (Z7 rfl rfl rfl (Zg (by first | omega | (simp only [List.length_map]; omega)))) (congrArg iA (by omega))) ?_
 refine Z1 (w0 rfl) rfl (Z3 rfl rfl) ?_
 refine Z4 ?_
 refine Z5 ?_
 refine Z5 ?_
 refine Z2 ?_
 refine Z1 (w0 rfl) rfl (Z0 rfl rfl) ?_
 refine Z1 (w0 rfl) rfl (Z7 rfl rfl rfl (Zg (by first | omega | (simp only [List.length_map]; omega)))) ?_
 refine Z1 (w0 rfl) rfl (Zz (y := iA ((b - a - 1) / 2 : Nat)) (Z1g rfl rfl rfl (by decide) (by (rw [Zj0 ha]; omega))) (congrArg iA (Zj0 ha))) ?_
 refine Z1 (w0 rfl) rfl (Z3 rfl rfl) ?_
 refine Z4 ?_
 refine Zm ?_
 refine Z06 (α := List Str × Nat) (fun x => ⟨[(9, iA ((x.2 : Int) - 1)), (0, .own q 1 0 n), (6, iA a), (7, iA (0 : Nat)), (8, iA (b - a : Nat))], [(q, .rows 9 1 (x.1.map fun x => [sA x]))], [], 56⟩) (fun x => Sw a b l x.1 ∧ Heap ltS x.2 (b - a) a x.1 ∧ x.2 ≤ (b - a) + 1) (fun x => x.2) (l, (b - a - 1) / 2 + 1) ⟨.refl, Heap.none (by (try simp only) <;> omega), (by (try simp only) <;> omega)⟩ ?_ ?_
 ·exact Zc [0] ⟨(congrArg (fun n => some (iA n)) (by (try simp only) <;> omega)), rfl, rfl, rfl, rfl, trivial⟩ rfl (by decide) rfl rfl
 rintro x hJ
 have hm := hJ.1.len
 refine Z5 ?_
 refine Z5 ?_
 refine Z2 ?_
 refine Z1 (w0 rfl) rfl (Z0 rfl rfl) ?_
 refine Z1 (w0 rfl) rfl (Zb rfl rfl rfl rfl) ?_
 refine Z4 ?_
 refine Za rfl ?_ ?_
 ·intro hc
  have hx : 0 < x.2 := by simp at hc; omega
  refine Zh ?_
  refine Z5 ?_
  refine Zm ?_
  refine Z79 9 rfl (show _ = ((x.2 - 1 : Nat) : Int) by omega) ?_
  refine Z2 ?_
  refine Z1 (w0 rfl) rfl (Z0 rfl rfl) ?_
  refine Z1 (w0 rfl) rfl (Z0 rfl rfl) ?_
  refine Z1 (w0 rfl) rfl (Z0 rfl rfl) ?_
  refine Z1 (w0 rfl) rfl (Z0 rfl rfl) ?_
  refine Zl [_] _ (w0 rfl) rfl rfl rfl rfl (Zu (k := 0) rfl) (Zgb q n x.1 (by omega) hN (x.2 - 1) (b - a) a (by omega) (by omega) (by rw [show x.2 - 1 + 1 = x.2 from by omega]; exact hJ.2.1)) (fun v1 hv1 => ?_)
  refine Z4 ?_
  refine Z2 ?_
  refine Z1 (w0 rfl) rfl (Z0 rfl rfl) ?_
  refine Z1 (w0 rfl) rfl (Z7 rfl rfl rfl (Zg (by first | omega | (simp only [List.length_map]; omega)))) ?_
  refine Z1 (w0 rfl) rfl (Z3 rfl rfl) ?_
  refine Z4 ?_
  refine ⟨(v1, x.2 - 1), ⟨hJ.1.trans (hv1.1.mono (Nat.le_refl _) (by omega) (by omega)), hv1.2, (by (try simp only) <;> omega)⟩, (by (try simp only) <;> omega), ?_⟩
  exact Zc [0] ⟨(congrArg (fun n => some (iA n)) (by (try simp only) <;> omega)), rfl, rfl, rfl, rfl, trivial⟩ rfl (by decide) rfl rfl
 ·intro hc
  have hx0 : x.2 = 0 := by simp at hc; omega
  refine Zy ?_
  refine Z5 ?_
  refine Z2 ?_
  refine Z1 (w0 rfl) rfl (Z0 rfl rfl) ?_
  refine Z1 (w0 rfl) rfl (Z7 rfl rfl rfl (Zg (by first | omega | (simp only [List.length_map]; omega)))) ?_
  refine Z1 (w0 rfl) rfl (Z3 rfl rfl) ?_
  refine Z4 ?_
  refine Zm ?_
  refine Z06 (α := List Str × Nat) (fun y => ⟨[(10, iA ((y.2 : Int) - 1)), (0, .own q 1 0 n), (6, iA a), (7, iA (0 : Nat)), (8, iA (b - a : Nat))], [(q, .rows 9 1 (y.1.map fun x => [sA x]))], [], 56⟩) (fun y => Sw a b l y.1 ∧ Pops ltS a b y.2 y.1 ∧ y.2 ≤ b - a) (fun y => y.2) (x.1, b - a) ⟨hJ.1, Pops.start ha (hx0 ▸ hJ.2.1), Nat.le_refl _⟩ ?_ ?_
  ·exact Zc [0] ⟨(congrArg (fun n => some (iA n)) (by (try simp only) <;> omega)), rfl, rfl, rfl, rfl, trivial⟩ rfl (by decide) rfl rfl
  rintro y hJ1
  have hm1 := hJ1.1.len
  refine Z5 ?_
  refine Z5 ?_
  refine Z2 ?_
  refine Z1 (w0 rfl) rfl (Z0 rfl rfl) ?_
  refine Z1 (w0 rfl) rfl (Zb rfl rfl rfl rfl) ?_
  refine Z4 ?_
  refine Za rfl ?_ ?_
  ·intro hc
   have hy : 0 < y.2 := by simp at hc; omega
   have hsw := Pops.swap ltS_ok (i := y.2 - 1) (by rw [show y.2 - 1 + 1 = y.2 from by omega]; exact hJ1.2.1) (by omega) (by omega : b ≤ y.1.length)
   refine Zh ?_
   refine Z5 ?_
   refine Zm ?_
   refine Z5 ?_
   refine Z79 10 rfl (show _ = ((y.2 - 1 : Nat) : Int) by omega) ?_
   refine Z0m [0, 0, 0, 0, 0, 24, 0, 0, 0, 384, 960, 1984, 0, 0, 12288, 28672, 65475, 131011, 262143, 524287] [17, 19] [11, 15] rfl (by kernel_rfl) ?_
   refine Z8 (w0 rfl) rfl (Z0 rfl rfl) rfl ?_
   refine Z8 (w0 rfl) rfl (Z0 rfl rfl) rfl ?_
   refine Z8 (w0 rfl) rfl (Z0 rfl rfl) rfl ?_
   refine Z8 (w0 rfl) rfl (Z0 rfl rfl) rfl ?_
   refine Z8 (w0 rfl) rfl (Z0 rfl rfl) rfl ?_
   refine Z8 (w0 rfl) rfl (Z7 rfl rfl rfl (Zd (by first | omega | (simp only [List.length_map]; omega)))) rfl ?_
   refine Z8 (w0 rfl) rfl (Z0 rfl rfl) rfl ?_
   refine Z8 (w0 rfl) rfl (Z0 rfl rfl) rfl ?_
   refine Z8 (w0 rfl) rfl (Z0 rfl rfl) rfl ?_
   refine Z8 (w0 rfl) rfl (Z7 rfl rfl rfl (Zd (by first | omega | (simp only [List.length_map]; omega)))) rfl ?_
   refine Z8 (w0 rfl) rfl (Z6 (a + (y.2 - 1)) rfl rfl rfl (by first | omega | (simp only [List.length_map]; omega) | (simp only [List.length_map, List.length_drop]; omega)) (by first | omega | (simp only [List.length_map]; omega) | (simp only [List.length_map, List.length_drop]; omega)) (by omega)) rfl ?_
   refine Zk 0 (w0 rfl) rfl rfl rfl rfl (Z02 (by first | assumption | omega | (simp only [List.length_drop]; omega))) Zo rfl rfl ?_
   refine Z8 (w0 rfl) rfl (Z0 rfl rfl) rfl ?_
   refine Z8 (w0 rfl) rfl (Z0 rfl rfl) rfl ?_
   refine Z8 (w0 rfl) rfl (Z6 a rfl rfl rfl (by first | omega | (simp only [List.length_map]; omega) | (simp only [List.length_map, List.length_drop]; omega)) (by first | omega | (simp only [List.length_map]; omega) | (simp only [List.length_map, List.length_drop]; omega)) (by omega)) rfl ?_
   refine Zk 0 (w0 rfl) rfl rfl rfl rfl (Z02 (by first | assumption | omega | (simp only [List.length_drop]; omega))) Zo rfl rfl ?_
   refine Z8 (w0 rfl) rfl (Z6 a rfl rfl rfl (by first | omega | (simp only [List.length_map]; omega) | (simp only [List.length_map, List.length_drop]; omega)) (by first | omega | (simp only [List.length_map]; omega) | (simp only [List.length_map, List.length_drop]; omega)) (by omega)) rfl ?_
   refine Zq 0 rfl (w0 rfl) rfl rfl rfl rfl (by first | omega | (simp; omega)) rfl rfl ?_
   refine Z8 (w0 rfl) rfl (Z6 (a + (y.2 - 1)) rfl rfl rfl (by first | omega | (simp only [List.length_map]; omega) | (simp only [List.length_map, List.length_drop]; omega)) (by first | omega | (simp only [List.length_map]; omega) | (simp only [List.length_map, List.length_drop]; omega)) (by omega)) rfl ?_
   refine Zq 0 rfl (w0 rfl) rfl rfl rfl rfl (by first | omega | (simp; omega)) rfl rfl ?_
   refine .done ?_
   refine Z2 ?_
   refine Z1 (w0 rfl) rfl (Z0 rfl rfl) ?_
   refine Z1 (w0 rfl) rfl (Z0 rfl rfl) ?_
   refine Z1 (w0 rfl) rfl (Z0 rfl rfl) ?_
   refine Z1 (w0 rfl) rfl (Z0 rfl rfl) ?_
   refine Zl [_] _ (w0 rfl) rfl rfl rfl rfl (Zu (k := 0) rfl) (Zgb q n (swp y.1 a (a + (y.2 - 1))) (by rw [Z6e]; omega) hN 0 (y.2 - 1) a (by omega) (by omega) hsw.1) (fun v2 hv2 => ?_)
   refine Z4 ?_
   refine Z2 ?_
   refine Z1 (w0 rfl) rfl (Z0 rfl rfl) ?_
   refine Z1 (w0 rfl) rfl (Z7 rfl rfl rfl (Zg (by first | omega | (simp only [List.length_map]; omega)))) ?_
   refine Z1 (w0 rfl) rfl (Z3 rfl rfl) ?_
   refine Z4 ?_
   refine ⟨(v2, y.2 - 1), ⟨(Sw.step _ _ hJ1.1 (by (try simp only) <;> omega) (by (try simp only) <;> omega) (by (try simp only) <;> omega)).trans (hv2.1.mono (Nat.le_refl _) (by omega) (by rw [Z6e]; omega)), Pops.sift hsw.2.1 hsw.2.2 hv2.1 hv2.2, (by (try simp only) <;> omega)⟩, (by (try simp only) <;> omega), ?_⟩
   exact Zc [0] ⟨(congrArg (fun n => some (iA n)) (by (try simp only) <;> omega)), rfl, rfl, rfl, rfl, trivial⟩ rfl (by decide) rfl rfl
  ·intro hc
   have hy0 : y.2 = 0 := by simp at hc; omega
   refine Zy ?_
   exact Zr rfl Ze (.cons_cons _ .slnil) (gp y.1 ⟨hJ1.1, by have := hJ1.2.1.srt; rwa [hy0, Nat.add_zero] at this⟩ rfl rfl)
theorem Z60 {f : Nat → Bool} {x y : Nat} (h : x ≤ y) (h1 : f x = false) (h2 : f y = true) : x < y := Nat.lt_of_le_of_ne h (fun e => by rw [e, h2] at h1; cases h1)
theorem Z8t {f : Nat → Bool} {x y : Nat} (h : x ≤ y) (h1 : f x = true) (h2 : f y = false) : x < y := Nat.lt_of_le_of_ne h (fun e => by rw [e, h2] at h1; cases h1)
theorem Z4p (q n : Nat) (l : List Str) (hn : l.length = n) (hN : n ≤ 140737488355328) (a b p : Nat) (hap : a ≤ p) (hpb : p < b) (hb : b ≤ n) : ACalls Try.prog 79 [.own q 1 0 n, iA a, iA b, iA p] [(q, .rows 9 1 (l.map fun x => [sA x]))] (GP (fun r : List Str × Nat × Bool => .tup [iA r.2.1, bA r.2.2]) (fun r => [(q, .rows 9 1 (r.1.map fun x => [sA x]))]) (fun r => Sw a b l r.1 ∧ a ≤ r.2.1 ∧ r.2.1 < b ∧ PartR ltS a b r.2.1 r.1)) := by
 have hm0 : Sw a b l (swp l a p) := .step _ _ .refl ⟨Nat.le_refl _, by omega⟩ ⟨hap, hpb⟩ (by (try simp only) <;> omega)
 have hl0 : (swp l a p).length = n := by rw [Z6e]; exact hn
 refine Zj (n := 168) Try.func79 rfl (by decide +kernel) rfl rfl ?_
 refine Z5 ?_
 refine Z2 ?_
 refine Z1 (w0 rfl) rfl (Z3 rfl rfl) ?_
 refine Z1 (w0 rfl) rfl (Z3 rfl rfl) ?_
 refine Z4 ?_
 refine Z5 ?_
 refine Z0m [0, 0, 0, 0, 0, 0, 48, 112, 0, 0, 768, 1792, 4083, 8179, 16383, 32767] [13, 15] [7, 11] rfl (by kernel_rfl) ?_
 refine Z8 (w0 rfl) rfl (Z0 rfl rfl) rfl ?_
 refine Z8 (w0 rfl) rfl (Z0 rfl rfl) rfl ?_
 refine Z8 (w0 rfl) rfl (Z0 rfl rfl) rfl ?_
 refine Z8 (w0 rfl) rfl (Z0 rfl rfl) rfl ?_
 refine Z8 (w0 rfl) rfl (Z0 rfl rfl) rfl ?_
 refine Z8 (w0 rfl) rfl (Z0 rfl rfl) rfl ?_
 refine Z8 (w0 rfl) rfl (Z6 p rfl rfl rfl (by first | omega | (simp only [List.length_map]; omega) | (simp only [List.length_map, List.length_drop]; omega)) (by first | omega | (simp only [List.length_map]; omega) | (simp only [List.length_map, List.length_drop]; omega)) (by omega)) rfl ?_
 refine Zk 0 (w0 rfl) rfl rfl rfl rfl (Z02 (by first | assumption | omega | (simp only [List.length_drop]; omega))) Zo rfl rfl ?_
 refine Z8 (w0 rfl) rfl (Z0 rfl rfl) rfl ?_
 refine Z8 (w0 rfl) rfl (Z0 rfl rfl) rfl ?_
 refine Z8 (w0 rfl) rfl (Z6 a rfl rfl rfl (by first | omega | (simp only [List.length_map]; omega) | (simp only [List.length_map, List.length_drop]; omega)) (by first | omega | (simp only [List.length_map]; omega) | (simp only [List.length_map, List.length_drop]; omega)) (by omega)) rfl ?_
 refine Zk 0 (w0 rfl) rfl rfl rfl rfl (Z02 (by first | assumption | omega | (simp only [List.length_drop]; omega))) Zo rfl rfl ?_
 refine Z8 (w0 rfl) rfl (Z6 a rfl rfl rfl (by first | omega | (simp only [List.length_map]; omega) | (simp only [List.length_map, List.length_drop]; omega)) (by first | omega | (simp only [List.length_map]; omega) | (simp only [List.length_map, List.length_drop]; omega)) (by omega)) rfl ?_
 refine Zq 0 rfl (w0 rfl) rfl rfl rfl rfl (by first | omega | (simp; omega)) rfl rfl ?_
 refine Z8 (w0 rfl) rfl (Z6 p rfl rfl rfl (by first | omega | (simp only [List.length_map]; omega) | (simp only [List.length_map, List.length_drop]; omega)) (by first | omega | (simp only [List.length_map]; omega) | (simp only [List.length_map, List.length_drop]; omega)) (by omega)) rfl ?_
 refine Zq 0 rfl (w0 rfl) rfl rfl rfl rfl (by first | omega | (simp; omega)) rfl rfl ?_
 refine .done ?_
 refine Z5 ?_
 refine Z2 ?_
 refine Z1 (w0 rfl) rfl (Z0 rfl rfl) ?_
 refine Z1 (w0 rfl) rfl (Z7 rfl rfl rfl (Zd (by first | omega | (simp only [List.length_map]; omega)))) ?_
 refine Z1 (w0 rfl) rfl (Z0 rfl rfl) ?_
 refine Z1 (w0 rfl) rfl (Zz (y := iA (b - 1 : Nat)) (Z7 rfl rfl rfl (Zg (by first | omega | (simp only [List.length_map]; omega)))) (congrArg iA (by (try simp only) <;> omega))) ?_
 refine Z1 (w0 rfl) rfl (Z3 rfl rfl) ?_
 refine Z1 (w0 rfl) rfl (Z3 rfl rfl) ?_
 refine Z4 ?_
 refine Z5 ?_
 refine Zm ?_
 refine Z06 (α := Nat) (fun x => ⟨[(10, iA x), (11, iA (b - 1 : Nat)), (0, .own q 1 0 n), (1, iA a)], [(q, .rows 9 1 ((swp l a p).map fun x => [sA x]))], [], 168⟩) (fun x => a + 1 ≤ x ∧ x ≤ b ∧ ∀ k, a < k → k < x → ltS ((swp l a p).getD k default) ((swp l a p).getD a default) = true) (fun x => b - x) (a + 1) ⟨Nat.le_refl _, by omega, fun k h1 h2 => by omega⟩ ?_ ?_
 ·exact Zc [0] ⟨rfl, rfl, rfl, rfl, trivial⟩ rfl (by decide) rfl rfl
 rintro x hJ
 refine Z5 ?_
 refine Z5 ?_
 refine Z0i [0, 0, 3, 7, 15, 15, 63, 127, 15, 15, 783, 1807, 4095, 8191] 14 rfl (by kernel_rfl) ?_
 refine Z9 (w0 rfl) rfl (Z0 rfl rfl) ?_
 refine Z9 (w0 rfl) rfl (Z0 rfl rfl) ?_
 refine Z9 (w0 rfl) rfl (Zb rfl rfl rfl rfl) ?_
 refine Z9 (w0 rfl) rfl (Z0 rfl rfl) ?_
 refine Zi (wT rfl rfl rfl rfl) rfl (fun hg => (Z0 rfl rfl)) ?_
 refine Zi (wT rfl rfl rfl rfl) rfl (fun hg => (Z0 rfl rfl)) ?_
 refine Zi (wT rfl rfl rfl rfl) rfl (fun hg => (Z6 x rfl (Z05 hg rfl) (Z05 hg rfl) (by (try simp at hg) <;> first | omega | (simp only [List.length_map]; omega) | (simp only [List.length_map, List.length_drop]; omega)) (by (try simp at hg) <;> first | omega | (simp only [List.length_map]; omega) | (simp only [List.length_map, List.length_drop]; omega)) (by omega))) ?_
 refine Zt 0 (wT rfl rfl rfl rfl) rfl rfl (fun hg => (Z05 hg rfl)) rfl (fun hg => by (try simp at hg) <;> (first | assumption | omega | (simp only [List.length_drop]; omega))) (fun _ => Zo) ?_
 refine Zi (wT rfl rfl rfl rfl) rfl (fun hg => (Z0 rfl rfl)) ?_
 refine Zi (wT rfl rfl rfl rfl) rfl (fun hg => (Z0 rfl rfl)) ?_
 refine Zi (wT rfl rfl rfl rfl) rfl (fun hg => (Z6 a rfl (Z05 hg rfl) (Z05 hg rfl) (by (try simp at hg) <;> first | omega | (simp only [List.length_map]; omega) | (simp only [List.length_map, List.length_drop]; omega)) (by (try simp at hg) <;> first | omega | (simp only [List.length_map]; omega) | (simp only [List.length_map, List.length_drop]; omega)) (by omega))) ?_
 refine Zt 0 (wT rfl rfl rfl rfl) rfl rfl (fun hg => (Z05 hg rfl)) rfl (fun hg => by (try simp at hg) <;> (first | assumption | omega | (simp only [List.length_drop]; omega))) (fun _ => Zo) ?_
 refine Zi (wT rfl rfl rfl rfl) rfl (fun hg => (Zp [] rfl rfl (Zn (Z05 hg rfl) (Zn (Z05 hg rfl) Z0e)) (Z11 _ _) List.nodup_nil)) ?_
 refine Z9 (w0 rfl) rfl (Z0h rfl rfl rfl (fun h => h)) ?_
 refine .done ?_
 refine Z4 ?_
 refine Za rfl ?_ ?_
 ·intro hc
  have hle : x ≤ (b - 1) := by have := Z78 hc; simpa using this
  have hv := Z6k hc
  refine Zh ?_
  refine Zm ?_
  refine Z2 ?_
  refine Z1 (w0 rfl) rfl (Z0 rfl rfl) ?_
  refine Z1 (w0 rfl) rfl (Z7 rfl rfl rfl (Zd (by first | omega | (simp only [List.length_map]; omega)))) ?_
  refine Z1 (w0 rfl) rfl (Z3 rfl rfl) ?_
  refine Z4 ?_
  refine ⟨(x + 1), ⟨by omega, by omega, fun k h1 h2 => by rcases Nat.lt_succ_iff_lt_or_eq.1 h2 with h | h; exact hJ.2.2 k h1 h; rw [h]; exact hv⟩, (by (try simp only) <;> omega), ?_⟩
  exact Zc [0] ⟨rfl, rfl, rfl, rfl, trivial⟩ rfl (by decide) rfl rfl
 ·intro hc
  have hA : (b - 1) < x ∨ ltS ((swp l a p).getD x default) ((swp l a p).getD a default) = false := by rcases Bool.and_eq_false_iff.1 hc with h | h; exact .inl (by simpa using h); exact .inr h
  refine Zy ?_
  refine Z5 ?_
  refine Zm ?_
  refine Z06 (α := Nat) (fun y => ⟨[(10, iA x), (11, iA y), (0, .own q 1 0 n), (1, iA a)], [(q, .rows 9 1 ((swp l a p).map fun x => [sA x]))], [], 168⟩) (fun y => y < b ∧ x ≤ y + 1 ∧ ∀ k, y < k → k < b → ltS ((swp l a p).getD k default) ((swp l a p).getD a default) = false) (fun y => y) (b - 1) ⟨by omega, by omega, fun k h1 h2 => by omega⟩ ?_ ?_
  ·exact Zc [0] ⟨rfl, rfl, rfl, rfl, trivial⟩ rfl (by decide) rfl rfl
  rintro y hJ1
  refine Z5 ?_
  refine Z5 ?_
  refine Z0i [0, 0, 3, 7, 15, 15, 63, 127, 15, 15, 783, 1807, 4095, 8191, 16383] 15 rfl (by kernel_rfl) ?_
  refine Z9 (w0 rfl) rfl (Z0 rfl rfl) ?_
  refine Z9 (w0 rfl) rfl (Z0 rfl rfl) ?_
  refine Z9 (w0 rfl) rfl (Zb rfl rfl rfl rfl) ?_
  refine Z9 (w0 rfl) rfl (Z0 rfl rfl) ?_
  refine Zi (wT rfl rfl rfl rfl) rfl (fun hg => (Z0 rfl rfl)) ?_
  refine Zi (wT rfl rfl rfl rfl) rfl (fun hg => (Z0 rfl rfl)) ?_
  refine Zi (wT rfl rfl rfl rfl) rfl (fun hg => (Z6 y rfl (Z05 hg rfl) (Z05 hg rfl) (by (try simp at hg) <;> first | omega | (simp only [List.length_map]; omega) | (simp only [List.length_map, List.length_drop]; omega)) (by (try simp at hg) <;> first | omega | (simp only [List.length_map]; omega) | (simp only [List.length_map, List.length_drop]; omega)) (by omega))) ?_
  refine Zt 0 (wT rfl rfl rfl rfl) rfl rfl (fun hg => (Z05 hg rfl)) rfl (fun hg => by (try simp at hg) <;> (first | assumption | omega | (simp only [List.length_drop]; omega))) (fun _ => Zo) ?_
  refine Zi (wT rfl rfl rfl rfl) rfl (fun hg => (Z0 rfl rfl)) ?_
  refine Zi (wT rfl rfl rfl rfl) rfl (fun hg => (Z0 rfl rfl)) ?_
  refine Zi (wT rfl rfl rfl rfl) rfl (fun hg => (Z6 a rfl (Z05 hg rfl) (Z05 hg rfl) (by (try simp at hg) <;> first | omega | (simp only [List.length_map]; omega) | (simp only [List.length_map, List.length_drop]; omega)) (by (try simp at hg) <;> first | omega | (simp only [List.length_map]; omega) | (simp only [List.length_map, List.length_drop]; omega)) (by omega))) ?_
  refine Zt 0 (wT rfl rfl rfl rfl) rfl rfl (fun hg => (Z05 hg rfl)) rfl (fun hg => by (try simp at hg) <;> (first | assumption | omega | (simp only [List.length_drop]; omega))) (fun _ => Zo) ?_
  refine Zi (wT rfl rfl rfl rfl) rfl (fun hg => (Zp [] rfl rfl (Zn (Z05 hg rfl) (Zn (Z05 hg rfl) Z0e)) (Z11 _ _) List.nodup_nil)) ?_
  refine Zi (wT rfl rfl rfl rfl) rfl (fun hg => (Z0j rfl (Z05 hg rfl))) ?_
  refine Z9 (w0 rfl) rfl (Z0h rfl rfl rfl (fun h => h)) ?_
  refine .done ?_
  refine Z4 ?_
  refine Za rfl ?_ ?_
  ·intro hc
   have hle : x ≤ y := by have := Z78 hc; simpa using this
   have hv := Z6k hc
   refine Zh ?_
   refine Zm ?_
   refine Z2 ?_
   refine Z1 (w0 rfl) rfl (Z0 rfl rfl) ?_
   refine Z1 (w0 rfl) rfl (Z7 rfl rfl rfl (Zg (by first | omega | (simp only [List.length_map]; omega)))) ?_
   refine Z1 (w0 rfl) rfl (Z3 rfl rfl) ?_
   refine Z4 ?_
   refine ⟨(y - 1), ⟨by omega, by omega, fun k h1 h2 => by by_cases e : k = y; rw [e]; exact Z6j hv; exact hJ1.2.2 k (by (try simp only) <;> omega) h2⟩, (by (try simp only) <;> omega), ?_⟩
   exact Zc [0] ⟨rfl, (congrArg (fun n => some (iA n)) (by (try simp only) <;> omega)), rfl, rfl, trivial⟩ rfl (by decide) rfl rfl
  ·intro hc
   have hB : y < x ∨ (!ltS ((swp l a p).getD y default) ((swp l a p).getD a default)) = false := by rcases Bool.and_eq_false_iff.1 hc with h | h; exact .inl (by simpa using h); exact .inr h
   refine Zy ?_
   refine Z5 ?_
   refine Z5 ?_
   refine Z2 ?_
   refine Z1 (w0 rfl) rfl (Z0 rfl rfl) ?_
   refine Z1 (w0 rfl) rfl (Z0 rfl rfl) ?_
   refine Z1 (w0 rfl) rfl (Zb rfl rfl rfl rfl) ?_
   refine Z4 ?_
   refine Za rfl ?_ ?_
   ·intro hc
    have hgt : y < x := by simpa using hc
    refine Z5 ?_
    refine Z0m [0, 0, 0, 0, 0, 0, 48, 112, 0, 0, 768, 1792, 4083, 8179, 16383, 32767] [13, 15] [7, 11] rfl (by kernel_rfl) ?_
    refine Z8 (w0 rfl) rfl (Z0 rfl rfl) rfl ?_
    refine Z8 (w0 rfl) rfl (Z0 rfl rfl) rfl ?_
    refine Z8 (w0 rfl) rfl (Z0 rfl rfl) rfl ?_
    refine Z8 (w0 rfl) rfl (Z0 rfl rfl) rfl ?_
    refine Z8 (w0 rfl) rfl (Z0 rfl rfl) rfl ?_
    refine Z8 (w0 rfl) rfl (Z0 rfl rfl) rfl ?_
    refine Z8 (w0 rfl) rfl (Z6 a rfl rfl rfl (by first | omega | (simp only [List.length_map]; omega) | (simp only [List.length_map, List.length_drop]; omega)) (by first | omega | (simp only [List.length_map]; omega) | (simp only [List.length_map, List.length_drop]; omega)) (by omega)) rfl ?_
    refine Zk 0 (w0 rfl) rfl rfl rfl rfl (Z02 (by first | assumption | omega | (simp only [List.length_drop]; omega))) Zo rfl rfl ?_
    refine Z8 (w0 rfl) rfl (Z0 rfl rfl) rfl ?_
    refine Z8 (w0 rfl) rfl (Z0 rfl rfl) rfl ?_
    refine Z8 (w0 rfl) rfl (Z6 y rfl rfl rfl (by first | omega | (simp only [List.length_map]; omega) | (simp only [List.length_map, List.length_drop]; omega)) (by first | omega | (simp only [List.length_map]; omega) | (simp only [List.length_map, List.length_drop]; omega)) (by omega)) rfl ?_
    refine Zk 0 (w0 rfl) rfl rfl rfl rfl (Z02 (by first | assumption | omega | (simp only [List.length_drop]; omega))) Zo rfl rfl ?_
    refine Z8 (w0 rfl) rfl (Z6 y rfl rfl rfl (by first | omega | (simp only [List.length_map]; omega) | (simp only [List.length_map, List.length_drop]; omega)) (by first | omega | (simp only [List.length_map]; omega) | (simp only [List.length_map, List.length_drop]; omega)) (by omega)) rfl ?_
    refine Zq 0 rfl (w0 rfl) rfl rfl rfl rfl (by first | omega | (simp; omega)) rfl rfl ?_
    refine Z8 (w0 rfl) rfl (Z6 a rfl rfl rfl (by first | omega | (simp only [List.length_map]; omega) | (simp only [List.length_map, List.length_drop]; omega)) (by first | omega | (simp only [List.length_map]; omega) | (simp only [List.length_map, List.length_drop]; omega)) (by omega)) rfl ?_
    refine Zq 0 rfl (w0 rfl) rfl rfl rfl rfl (by first | omega | (simp; omega)) rfl rfl ?_
    refine .done ?_
    refine Z5 ?_
    refine Z2 ?_
    refine Z1 (w0 rfl) rfl (Z0 rfl rfl) ?_
    refine Z1 (w0 rfl) rfl (Z3 rfl rfl) ?_
    refine Z1 (w0 rfl) rfl (Z3 rfl rfl) ?_
    refine Z4 ?_
    refine Zs ?_
    exact Zr rfl (Zf rfl (Zf rfl Ze)) (.cons_cons _ .slnil) (gp (swp (swp l a p) y a, y, true) ⟨.step _ _ hm0 (by (try simp only) <;> omega) (by (try simp only) <;> omega) (by (try simp only) <;> omega), by simp only; omega, by simp only; omega, Part.fin ⟨hJ.2.2, hJ1.2.2⟩ (by (try simp only) <;> omega) (by (try simp only) <;> omega) (by (try simp only) <;> omega) (by (try simp only) <;> omega) (by (try simp only) <;> omega)⟩ rfl rfl)
   ·intro hc
    have hxy : x ≤ y := by simpa using hc
    have hne : x < y := Z60 (f := fun k => ltS ((swp l a p).getD k default) ((swp l a p).getD a default)) (by omega) (hA.resolve_left (by omega)) (Z8w (hB.resolve_left (by omega)))
    refine Zh ?_
    refine Z5 ?_
    refine Z0m [0, 0, 0, 0, 0, 0, 48, 112, 0, 0, 768, 1792, 4083, 8179, 16383, 32767] [13, 15] [7, 11] rfl (by kernel_rfl) ?_
    refine Z8 (w0 rfl) rfl (Z0 rfl rfl) rfl ?_
    refine Z8 (w0 rfl) rfl (Z0 rfl rfl) rfl ?_
    refine Z8 (w0 rfl) rfl (Z0 rfl rfl) rfl ?_
    refine Z8 (w0 rfl) rfl (Z0 rfl rfl) rfl ?_
    refine Z8 (w0 rfl) rfl (Z0 rfl rfl) rfl ?_
    refine Z8 (w0 rfl) rfl (Z0 rfl rfl) rfl ?_
    refine Z8 (w0 rfl) rfl (Z6 y rfl rfl rfl (by first | omega | (simp only [List.length_map]; omega) | (simp only [List.length_map, List.length_drop]; omega)) (by first | omega | (simp only [List.length_map]; omega) | (simp only [List.length_map, List.length_drop]; omega)) (by omega)) rfl ?_
    refine Zk 0 (w0 rfl) rfl rfl rfl rfl (Z02 (by first | assumption | omega | (simp only [List.length_drop]; omega))) Zo rfl rfl ?_
    refine Z8 (w0 rfl) rfl (Z0 rfl rfl) rfl ?_
    refine Z8 (w0 rfl) rfl (Z0 rfl rfl) rfl ?_
    refine Z8 (w0 rfl) rfl (Z6 x rfl rfl rfl (by first | omega | (simp only [List.length_map]; omega) | (simp only [List.length_map, List.length_drop]; omega)) (by first | omega | (simp only [List.length_map]; omega) | (simp only [List.length_map, List.length_drop]; omega)) (by omega)) rfl ?_
    refine Zk 0 (w0 rfl) rfl rfl rfl rfl (Z02 (by first | assumption | omega | (simp only [List.length_drop]; omega))) Zo rfl rfl ?_
    refine Z8 (w0 rfl) rfl (Z6 x rfl rfl rfl (by first | omega | (simp only [List.length_map]; omega) | (simp only [List.length_map, List.length_drop]; omega)) (by first | omega | (simp only [List.length_map]; omega) | (simp only [List.length_map, List.length_drop]; omega)) (by omega)) rfl ?_
    refine Zq 0 rfl (w0 rfl) rfl rfl rfl rfl (by first | omega | (simp; omega)) rfl rfl ?_
    refine Z8 (w0 rfl) rfl (Z6 y rfl rfl rfl (by first | omega | (simp only [List.length_map]; omega) | (simp only [List.length_map, List.length_drop]; omega)) (by first | omega | (simp only [List.length_map]; omega) | (simp only [List.length_map, List.length_drop]; omega)) (by omega)) rfl ?_
    refine Zq 0 rfl (w0 rfl) rfl rfl rfl rfl (by first | omega | (simp; omega)) rfl rfl ?_
    refine .done ?_
    refine Z5 ?_
    refine Z2 ?_
    refine Z1 (w0 rfl) rfl (Z0 rfl rfl) ?_
    refine Z1 (w0 rfl) rfl (Z7 rfl rfl rfl (Zd (by first | omega | (simp only [List.length_map]; omega)))) ?_
    refine Z1 (w0 rfl) rfl (Z3 rfl rfl) ?_
    refine Z4 ?_
    refine Z5 ?_
    refine Z2 ?_
    refine Z1 (w0 rfl) rfl (Z0 rfl rfl) ?_
    refine Z1 (w0 rfl) rfl (Z7 rfl rfl rfl (Zg (by first | omega | (simp only [List.length_map]; omega)))) ?_
    refine Z1 (w0 rfl) rfl (Z3 rfl rfl) ?_
    refine Z4 ?_
    refine Z5 ?_
    refine Zm ?_
    refine Z06 (α := List Str × Nat × Nat) (fun z => ⟨[(10, iA z.2.1), (11, iA z.2.2), (0, .own q 1 0 n), (1, iA a)], [(q, .rows 9 1 (z.1.map fun x => [sA x]))], [], 168⟩) (fun z => Sw a b l z.1 ∧ a + 1 ≤ z.2.1 ∧ z.2.1 ≤ z.2.2 + 1 ∧ z.2.2 < b ∧ Part ltS a b z.2.1 z.2.2 z.1) (fun z => z.2.2 + 1 - z.2.1) (swp (swp l a p) x y, x + 1, y - 1) ⟨.step _ _ hm0 (by (try simp only) <;> omega) (by (try simp only) <;> omega) (by (try simp only) <;> omega), (by (try simp only) <;> omega), (by (try simp only) <;> omega), (by (try simp only) <;> omega), Part.swap (i := x) (j := y) ⟨hJ.2.2, hJ1.2.2⟩ (by (try simp only) <;> omega) (by (try simp only) <;> omega) (by (try simp only) <;> omega) (by (try simp only) <;> omega) (hA.resolve_left (by (try simp only) <;> omega)) (Z8w (hB.resolve_left (by (try simp only) <;> omega)))⟩ ?_ ?_
    ·exact Zc [0] ⟨rfl, (congrArg (fun n => some (iA n)) (by (try simp only) <;> omega)), rfl, rfl, trivial⟩ rfl (by decide) rfl rfl
    rintro z hJ2
    have hm2 := hJ2.1.len
    refine Zm ?_
    refine Z5 ?_
    refine Zm ?_
    refine Z06 (α := Nat) (fun u => ⟨[(10, iA u), (11, iA z.2.2), (0, .own q 1 0 n), (1, iA a)], [(q, .rows 9 1 (z.1.map fun x => [sA x]))], [], 168⟩) (fun u => z.2.1 ≤ u ∧ u ≤ z.2.2 + 1 ∧ Part ltS a b u z.2.2 z.1) (fun u => b - u) z.2.1 ⟨Nat.le_refl _, hJ2.2.2.1, hJ2.2.2.2.2⟩ ?_ ?_
    ·exact Zc [0] ⟨rfl, rfl, rfl, rfl, trivial⟩ rfl (by decide) rfl rfl
    rintro u hJ3
    refine Z5 ?_
    refine Z5 ?_
    refine Z0i [0, 0, 3, 7, 15, 15, 63, 127, 15, 15, 783, 1807, 4095, 8191] 14 rfl (by kernel_rfl) ?_
    refine Z9 (w0 rfl) rfl (Z0 rfl rfl) ?_
    refine Z9 (w0 rfl) rfl (Z0 rfl rfl) ?_
    refine Z9 (w0 rfl) rfl (Zb rfl rfl rfl rfl) ?_
    refine Z9 (w0 rfl) rfl (Z0 rfl rfl) ?_
    refine Zi (wT rfl rfl rfl rfl) rfl (fun hg => (Z0 rfl rfl)) ?_
    refine Zi (wT rfl rfl rfl rfl) rfl (fun hg => (Z0 rfl rfl)) ?_
    refine Zi (wT rfl rfl rfl rfl) rfl (fun hg => (Z6 u rfl (Z05 hg rfl) (Z05 hg rfl) (by (try simp at hg) <;> first | omega | (simp only [List.length_map]; omega) | (simp only [List.length_map, List.length_drop]; omega)) (by (try simp at hg) <;> first | omega | (simp only [List.length_map]; omega) | (simp only [List.length_map, List.length_drop]; omega)) (by omega))) ?_
    refine Zt 0 (wT rfl rfl rfl rfl) rfl rfl (fun hg => (Z05 hg rfl)) rfl (fun hg => by (try simp at hg) <;> (first | assumption | omega | (simp only [List.length_drop]; omega))) (fun _ => Zo) ?_
    refine Zi (wT rfl rfl rfl rfl) rfl (fun hg => (Z0 rfl rfl)) ?_
    refine Zi (wT rfl rfl rfl rfl) rfl (fun hg => (Z0 rfl rfl)) ?_
    refine Zi (wT rfl rfl rfl rfl) rfl (fun hg => (Z6 a rfl (Z05 hg rfl) (Z05 hg rfl) (by (try simp at hg) <;> first | omega | (simp only [List.length_map]; omega) | (simp only [List.length_map, List.length_drop]; omega)) (by (try simp at hg) <;> first | omega | (simp only [List.length_map]; omega) | (simp only [List.length_map, List.length_drop]; omega)) (by omega))) ?_
    refine Zt 0 (wT rfl rfl rfl rfl) rfl rfl (fun hg => (Z05 hg rfl)) rfl (fun hg => by (try simp at hg) <;> (first | assumption | omega | (simp only [List.length_drop]; omega))) (fun _ => Zo) ?_
    refine Zi (wT rfl rfl rfl rfl) rfl (fun hg => (Zp [] rfl rfl (Zn (Z05 hg rfl) (Zn (Z05 hg rfl) Z0e)) (Z11 _ _) List.nodup_nil)) ?_
    refine Z9 (w0 rfl) rfl (Z0h rfl rfl rfl (fun h => h)) ?_
    refine .done ?_
    refine Z4 ?_
    refine Za rfl ?_ ?_
    ·intro hc
     have hle : u ≤ z.2.2 := by have := Z78 hc; simpa using this
     have hv := Z6k hc
     refine Zh ?_
     refine Zm ?_
     refine Z2 ?_
     refine Z1 (w0 rfl) rfl (Z0 rfl rfl) ?_
     refine Z1 (w0 rfl) rfl (Z7 rfl rfl rfl (Zd (by first | omega | (simp only [List.length_map]; omega)))) ?_
     refine Z1 (w0 rfl) rfl (Z3 rfl rfl) ?_
     refine Z4 ?_
     refine ⟨(u + 1), ⟨by omega, by omega, ⟨fun k h1 h2 => by rcases Nat.lt_succ_iff_lt_or_eq.1 h2 with h | h; exact hJ3.2.2.lo k h1 h; rw [h]; exact hv, hJ3.2.2.hi⟩⟩, (by (try simp only) <;> omega), ?_⟩
     exact Zc [0] ⟨rfl, rfl, rfl, rfl, trivial⟩ rfl (by decide) rfl rfl
    ·intro hc
     have hC : z.2.2 < u ∨ ltS (z.1.getD u default) (z.1.getD a default) = false := by rcases Bool.and_eq_false_iff.1 hc with h | h; exact .inl (by simpa using h); exact .inr h
     refine Zy ?_
     refine Z5 ?_
     refine Zm ?_
     refine Z06 (α := Nat) (fun v => ⟨[(10, iA u), (11, iA v), (0, .own q 1 0 n), (1, iA a)], [(q, .rows 9 1 (z.1.map fun x => [sA x]))], [], 168⟩) (fun v => v ≤ z.2.2 ∧ u ≤ v + 1 ∧ Part ltS a b u v z.1) (fun v => v) z.2.2 ⟨Nat.le_refl _, hJ3.2.1, hJ3.2.2⟩ ?_ ?_
     ·exact Zc [0] ⟨rfl, rfl, rfl, rfl, trivial⟩ rfl (by decide) rfl rfl
     rintro v hJ4
     refine Z5 ?_
     refine Z5 ?_
     refine Z0i [0, 0, 3, 7, 15, 15, 63, 127, 15, 15, 783, 1807, 4095, 8191, 16383] 15 rfl (by kernel_rfl) ?_
     refine Z9 (w0 rfl) rfl (Z0 rfl rfl) ?_
     refine Z9 (w0 rfl) rfl (Z0 rfl rfl) ?_
     refine Z9 (w0 rfl) rfl (Zb rfl rfl rfl rfl) ?_
     refine Z9 (w0 rfl) rfl (Z0 rfl rfl) ?_
     refine Zi (wT rfl rfl rfl rfl) rfl (fun hg => (Z0 rfl rfl)) ?_
     refine Zi (wT rfl rfl rfl rfl) rfl (fun hg => (Z0 rfl rfl)) ?_
     refine Zi (wT rfl rfl rfl rfl) rfl (fun hg => (Z6 v rfl (Z05 hg rfl) (Z05 hg rfl) (by (try simp at hg) <;> first | omega | (simp only [List.length_map]; omega) | (simp only [List.length_map, List.length_drop]; omega)) (by (try simp at hg) <;> first | omega | (simp only [List.length_map]; omega) | (simp only [List.length_map, List.length_drop]; omega)) (by omega))) ?_
     refine Zt 0 (wT rfl rfl rfl rfl) rfl rfl (fun hg => (Z05 hg rfl)) rfl (fun hg => by (try simp at hg) <;> (first | assumption | omega | (simp only [List.length_drop]; omega))) (fun _ => Zo) ?_
     refine Zi (wT rfl rfl rfl rfl) rfl (fun hg => (Z0 rfl rfl)) ?_
     refine Zi (wT rfl rfl rfl rfl) rfl (fun hg => (Z0 rfl rfl)) ?_
     refine Zi (wT rfl rfl rfl rfl) rfl (fun hg => (Z6 a rfl (Z05 hg rfl) (Z05 hg rfl) (by (try simp at hg) <;> first | omega | (simp only [List.length_map]; omega) | (simp only [List.length_map, List.length_drop]; omega)) (by (try simp at hg) <;> first | omega | (simp only [List.length_map]; omega) | (simp only [List.length_map, List.length_drop]; omega)) (by omega))) ?_
     refine Zt 0 (wT rfl rfl rfl rfl) rfl rfl (fun hg => (Z05 hg rfl)) rfl (fun hg => by (try simp at hg) <;> (first | assumption | omega | (simp only [List.length_drop]; omega))) (fun _ => Zo) ?_
     refine Zi (wT rfl rfl rfl rfl) rfl (fun hg => (Zp [] rfl rfl (Zn (Z05 hg rfl) (Zn (Z05 hg rfl) Z0e)) (Z11 _ _) List.nodup_nil)) ?_
     refine Zi (wT rfl rfl rfl rfl) rfl (fun hg => (Z0j rfl (Z05 hg rfl))) ?_
     refine Z9 (w0 rfl) rfl (Z0h rfl rfl rfl (fun h => h)) ?_
     refine .done ?_
     refine Z4 ?_
     refine Za rfl ?_ ?_
     ·intro hc
      have hle : u ≤ v := by have := Z78 hc; simpa using this
      have hv := Z6k hc
      refine Zh ?_
      refine Zm ?_
      refine Z2 ?_
      refine Z1 (w0 rfl) rfl (Z0 rfl rfl) ?_
      refine Z1 (w0 rfl) rfl (Z7 rfl rfl rfl (Zg (by first | omega | (simp only [List.length_map]; omega)))) ?_
      refine Z1 (w0 rfl) rfl (Z3 rfl rfl) ?_
      refine Z4 ?_
      refine ⟨(v - 1), ⟨by omega, by omega, ⟨hJ4.2.2.lo, fun k h1 h2 => by by_cases e : k = v; rw [e]; exact Z6j hv; exact hJ4.2.2.hi k (by (try simp only) <;> omega) h2⟩⟩, (by (try simp only) <;> omega), ?_⟩
      exact Zc [0] ⟨rfl, (congrArg (fun n => some (iA n)) (by (try simp only) <;> omega)), rfl, rfl, trivial⟩ rfl (by decide) rfl rfl
     ·intro hc
      have hD : v < u ∨ (!ltS (z.1.getD v default) (z.1.getD a default)) = false := by rcases Bool.and_eq_false_iff.1 hc with h | h; exact .inl (by simpa using h); exact .inr h
      refine Zy ?_
      refine Z5 ?_
      refine Z5 ?_
      refine Z2 ?_
      refine Z1 (w0 rfl) rfl (Z0 rfl rfl) ?_
      refine Z1 (w0 rfl) rfl (Z0 rfl rfl) ?_
      refine Z1 (w0 rfl) rfl (Zb rfl rfl rfl rfl) ?_
      refine Z4 ?_
      refine Za rfl ?_ ?_
      ·intro hc
       have hgt : v < u := by simpa using hc
       refine Zy ?_
       refine Z5 ?_
       refine Z0m [0, 0, 0, 0, 0, 0, 48, 112, 0, 0, 768, 1792, 4083, 8179, 16383, 32767] [13, 15] [7, 11] rfl (by kernel_rfl) ?_
       refine Z8 (w0 rfl) rfl (Z0 rfl rfl) rfl ?_
       refine Z8 (w0 rfl) rfl (Z0 rfl rfl) rfl ?_
       refine Z8 (w0 rfl) rfl (Z0 rfl rfl) rfl ?_
       refine Z8 (w0 rfl) rfl (Z0 rfl rfl) rfl ?_
       refine Z8 (w0 rfl) rfl (Z0 rfl rfl) rfl ?_
       refine Z8 (w0 rfl) rfl (Z0 rfl rfl) rfl ?_
       refine Z8 (w0 rfl) rfl (Z6 a rfl rfl rfl (by first | omega | (simp only [List.length_map]; omega) | (simp only [List.length_map, List.length_drop]; omega)) (by first | omega | (simp only [List.length_map]; omega) | (simp only [List.length_map, List.length_drop]; omega)) (by omega)) rfl ?_
       refine Zk 0 (w0 rfl) rfl rfl rfl rfl (Z02 (by first | assumption | omega | (simp only [List.length_drop]; omega))) Zo rfl rfl ?_
       refine Z8 (w0 rfl) rfl (Z0 rfl rfl) rfl ?_
       refine Z8 (w0 rfl) rfl (Z0 rfl rfl) rfl ?_
       refine Z8 (w0 rfl) rfl (Z6 v rfl rfl rfl (by first | omega | (simp only [List.length_map]; omega) | (simp only [List.length_map, List.length_drop]; omega)) (by first | omega | (simp only [List.length_map]; omega) | (simp only [List.length_map, List.length_drop]; omega)) (by omega)) rfl ?_
       refine Zk 0 (w0 rfl) rfl rfl rfl rfl (Z02 (by first | assumption | omega | (simp only [List.length_drop]; omega))) Zo rfl rfl ?_
       refine Z8 (w0 rfl) rfl (Z6 v rfl rfl rfl (by first | omega | (simp only [List.length_map]; omega) | (simp only [List.length_map, List.length_drop]; omega)) (by first | omega | (simp only [List.length_map]; omega) | (simp only [List.length_map, List.length_drop]; omega)) (by omega)) rfl ?_
       refine Zq 0 rfl (w0 rfl) rfl rfl rfl rfl (by first | omega | (simp; omega)) rfl rfl ?_
       refine Z8 (w0 rfl) rfl (Z6 a rfl rfl rfl (by first | omega | (simp only [List.length_map]; omega) | (simp only [List.length_map, List.length_drop]; omega)) (by first | omega | (simp only [List.length_map]; omega) | (simp only [List.length_map, List.length_drop]; omega)) (by omega)) rfl ?_
       refine Zq 0 rfl (w0 rfl) rfl rfl rfl rfl (by first | omega | (simp; omega)) rfl rfl ?_
       refine .done ?_
       refine Z5 ?_
       refine Z2 ?_
       refine Z1 (w0 rfl) rfl (Z0 rfl rfl) ?_
       refine Z1 (w0 rfl) rfl (Z3 rfl rfl) ?_
       refine Z1 (w0 rfl) rfl (Z3 rfl rfl) ?_
       refine Z4 ?_
       refine Zs ?_
       exact Zr rfl (Zf rfl (Zf rfl Ze)) (.cons_cons _ .slnil) (gp (swp z.1 v a, v, false) ⟨.step _ _ hJ2.1 (by (try simp only) <;> omega) (by (try simp only) <;> omega) (by (try simp only) <;> omega), by simp only; omega, by simp only; omega, hJ4.2.2.fin (by (try simp only) <;> omega) (by (try simp only) <;> omega) (by (try simp only) <;> omega) (by (try simp only) <;> omega) (by (try simp only) <;> omega)⟩ rfl rfl)
      ·intro hc
       have huv : u ≤ v := by simpa using hc
       have hne : u < v := Z60 (f := fun k => ltS (z.1.getD k default) (z.1.getD a default)) (by omega) (hC.resolve_left (by omega)) (Z8w (hD.resolve_left (by omega)))
       refine Zh ?_
       refine Z5 ?_
       refine Z0m [0, 0, 0, 0, 0, 0, 48, 112, 0, 0, 768, 1792, 4083, 8179, 16383, 32767] [13, 15] [7, 11] rfl (by kernel_rfl) ?_
       refine Z8 (w0 rfl) rfl (Z0 rfl rfl) rfl ?_
       refine Z8 (w0 rfl) rfl (Z0 rfl rfl) rfl ?_
       refine Z8 (w0 rfl) rfl (Z0 rfl rfl) rfl ?_
       refine Z8 (w0 rfl) rfl (Z0 rfl rfl) rfl ?_
       refine Z8 (w0 rfl) rfl (Z0 rfl rfl) rfl ?_
       refine Z8 (w0 rfl) rfl (Z0 rfl rfl) rfl ?_
       refine Z8 (w0 rfl) rfl (Z6 v rfl rfl rfl (by first | omega | (simp only [List.length_map]; omega) | (simp only [List.length_map, List.length_drop]; omega)) (by first | omega | (simp only [List.length_map]; omega) | (simp only [List.length_map, List.length_drop]; omega)) (by omega)) rfl ?_
       refine Zk 0 (w0 rfl) rfl rfl rfl rfl (Z02 (by first | assumption | omega | (simp only [List.length_drop]; omega))) Zo rfl rfl ?_
       refine Z8 (w0 rfl) rfl (Z0 rfl rfl) rfl ?_
       refine Z8 (w0 rfl) rfl (Z0 rfl rfl) rfl ?_
       refine Z8 (w0 rfl) rfl (Z6 u rfl rfl rfl (by first | omega | (simp only [List.length_map]; omega) | (simp only [List.length_map, List.length_drop]; omega)) (by first | omega | (simp only [List.length_map]; omega) | (simp only [List.length_map, List.length_drop]; omega)) (by omega)) rfl ?_
       refine Zk 0 (w0 rfl) rfl rfl rfl rfl (Z02 (by first | assumption | omega | (simp only [List.length_drop]; omega))) Zo rfl rfl ?_
       refine Z8 (w0 rfl) rfl (Z6 u rfl rfl rfl (by first | omega | (simp only [List.length_map]; omega) | (simp only [List.length_map, List.length_drop]; omega)) (by first | omega | (simp only [List.length_map]; omega) | (simp only [List.length_map, List.length_drop]; omega)) (by omega)) rfl ?_
       refine Zq 0 rfl (w0 rfl) rfl rfl rfl rfl (by first | omega | (simp; omega)) rfl rfl ?_
       refine Z8 (w0 rfl) rfl (Z6 v rfl rfl rfl (by first | omega | (simp only [List.length_map]; omega) | (simp only [List.length_map, List.length_drop]; omega)) (by first | omega | (simp only [List.length_map]; omega) | (simp only [List.length_map, List.length_drop]; omega)) (by omega)) rfl ?_
       refine Zq 0 rfl (w0 rfl) rfl rfl rfl rfl (by first | omega | (simp; omega)) rfl rfl ?_
       refine .done ?_
       refine Z5 ?_
       refine Z2 ?_
       refine Z1 (w0 rfl) rfl (Z0 rfl rfl) ?_
       refine Z1 (w0 rfl) rfl (Z7 rfl rfl rfl (Zd (by first | omega | (simp only [List.length_map]; omega)))) ?_
       refine Z1 (w0 rfl) rfl (Z3 rfl rfl) ?_
       refine Z4 ?_
       refine Z2 ?_
       refine Z1 (w0 rfl) rfl (Z0 rfl rfl) ?_
       refine Z1 (w0 rfl) rfl (Z7 rfl rfl rfl (Zg (by first | omega | (simp only [List.length_map]; omega)))) ?_
       refine Z1 (w0 rfl) rfl (Z3 rfl rfl) ?_
       refine Z4 ?_
       refine ⟨(swp z.1 u v, u + 1, v - 1), ⟨.step _ _ hJ2.1 (by (try simp only) <;> omega) (by (try simp only) <;> omega) (by (try simp only) <;> omega), (by (try simp only) <;> omega), (by (try simp only) <;> omega), (by (try simp only) <;> omega), hJ4.2.2.swap (i := u) (j := v) (by (try simp only) <;> omega) (by (try simp only) <;> omega) (by (try simp only) <;> omega) (by (try simp only) <;> omega) (hC.resolve_left (by (try simp only) <;> omega)) (Z8w (hD.resolve_left (by (try simp only) <;> omega)))⟩, (by (try simp only) <;> omega), ?_⟩
       exact Zc [0] ⟨rfl, (congrArg (fun n => some (iA n)) (by (try simp only) <;> omega)), rfl, rfl, trivial⟩ rfl (by decide) rfl rfl
theorem Z2w (q n : Nat) (l : List Str) (hn : l.length = n) (hN : n ≤ 140737488355328) (a b p : Nat) (hap : a ≤ p) (hpb : p < b) (hb : b ≤ n) : ACalls Try.prog 78 [.own q 1 0 n, iA a, iA b, iA p] [(q, .rows 9 1 (l.map fun x => [sA x]))] (GP (fun r : List Str × Nat => iA r.2) (fun r => [(q, .rows 9 1 (r.1.map fun x => [sA x]))]) (fun r => Sw a b l r.1 ∧ a < r.2 ∧ r.2 ≤ b ∧ r.1.getD a default = l.getD p default ∧ ∃ j, r.2 = j + 1 ∧ PartE ltS a b r.2 j r.1)) := by
 have hm0 : Sw a b l (swp l a p) := .step _ _ .refl ⟨Nat.le_refl _, by omega⟩ ⟨hap, hpb⟩ (by omega)
 have hl0 : (swp l a p).length = n := by rw [Z6e]; exact hn
 refine Zj (n := 84) Try.func78 rfl (by decide +kernel) rfl rfl ?_
 refine Z5 ?_
 refine Z2 ?_
 refine Z1 (w0 rfl) rfl (Z3 rfl rfl) ?_
 refine Z4 ?_
 refine Z5 ?_
 refine Z0m [0, 0, 0, 0, 0, 0, 48, 112, 0, 0, 768, 1792, 4083, 8179, 16383, 32767] [13, 15] [7, 11] rfl (by kernel_rfl) ?_
 refine Z8 (w0 rfl) rfl (Z0 rfl rfl) rfl ?_
 refine Z8 (w0 rfl) rfl (Z0 rfl rfl) rfl ?_
 refine Z8 (w0 rfl) rfl (Z0 rfl rfl) rfl ?_
 refine Z8 (w0 rfl) rfl (Z0 rfl rfl) rfl ?_
 refine Z8 (w0 rfl) rfl (Z0 rfl rfl) rfl ?_
 refine Z8 (w0 rfl) rfl (Z0 rfl rfl) rfl ?_
 refine Z8 (w0 rfl) rfl (Z6 p rfl rfl rfl (by first | omega | (simp only [List.length_map]; omega) | (simp only [List.length_map, List.length_drop]; omega)) (by first | omega | (simp only [List.length_map]; omega) | (simp only [List.length_map, List.length_drop]; omega)) (by omega)) rfl ?_
 refine Zk 0 (w0 rfl) rfl rfl rfl rfl (Z02 (by first | assumption | omega | (simp only [List.length_drop]; omega))) Zo rfl rfl ?_
 refine Z8 (w0 rfl) rfl (Z0 rfl rfl) rfl ?_
 refine Z8 (w0 rfl) rfl (Z0 rfl rfl) rfl ?_
 refine Z8 (w0 rfl) rfl (Z6 a rfl rfl rfl (by first | omega | (simp only [List.length_map]; omega) | (simp only [List.length_map, List.length_drop]; omega)) (by first | omega | (simp only [List.length_map]; omega) | (simp only [List.length_map, List.length_drop]; omega)) (by omega)) rfl ?_
 refine Zk 0 (w0 rfl) rfl rfl rfl rfl (Z02 (by first | assumption | omega | (simp only [List.length_drop]; omega))) Zo rfl rfl ?_
 refine Z8 (w0 rfl) rfl (Z6 a rfl rfl rfl (by first | omega | (simp only [List.length_map]; omega) | (simp only [List.length_map, List.length_drop]; omega)) (by first | omega | (simp only [List.length_map]; omega) | (simp only [List.length_map, List.length_drop]; omega)) (by omega)) rfl ?_
 refine Zq 0 rfl (w0 rfl) rfl rfl rfl rfl (by first | omega | (simp; omega)) rfl rfl ?_
 refine Z8 (w0 rfl) rfl (Z6 p rfl rfl rfl (by first | omega | (simp only [List.length_map]; omega) | (simp only [List.length_map, List.length_drop]; omega)) (by first | omega | (simp only [List.length_map]; omega) | (simp only [List.length_map, List.length_drop]; omega)) (by omega)) rfl ?_
 refine Zq 0 rfl (w0 rfl) rfl rfl rfl rfl (by first | omega | (simp; omega)) rfl rfl ?_
 refine .done ?_
 refine Z5 ?_
 refine Z2 ?_
 refine Z1 (w0 rfl) rfl (Z0 rfl rfl) ?_
 refine Z1 (w0 rfl) rfl (Z7 rfl rfl rfl (Zd (by first | omega | (simp only [List.length_map]; omega)))) ?_
 refine Z1 (w0 rfl) rfl (Z0 rfl rfl) ?_
 refine Z1 (w0 rfl) rfl (Zz (y := iA (b - 1 : Nat)) (Z7 rfl rfl rfl (Zg (by first | omega | (simp only [List.length_map]; omega)))) (congrArg iA (by omega))) ?_
 refine Z1 (w0 rfl) rfl (Z3 rfl rfl) ?_
 refine Z1 (w0 rfl) rfl (Z3 rfl rfl) ?_
 refine Z4 ?_
 refine Z5 ?_
 refine Zm ?_
 refine Z06 (α := List Str × Nat × Nat) (fun z => ⟨[(9, iA z.2.1), (10, iA z.2.2), (0, .own q 1 0 n), (1, iA a)], [(q, .rows 9 1 (z.1.map fun x => [sA x]))], [], 84⟩) (fun z => Sw a b l z.1 ∧ a + 1 ≤ z.2.1 ∧ z.2.1 ≤ z.2.2 + 1 ∧ z.2.2 < b ∧ z.1.getD a default = l.getD p default ∧ PartE ltS a b z.2.1 z.2.2 z.1) (fun z => z.2.2 + 1 - z.2.1) ((swp l a p), a + 1, b - 1) ⟨hm0, (by (try simp only) <;> omega), (by (try simp only) <;> omega), (by (try simp only) <;> omega), Z7v (by omega) (by omega), ⟨fun k h1 h2 => by (try simp only at h1 h2); omega, fun k h1 h2 => by (try simp only at h1 h2); omega⟩⟩ ?_ ?_
 ·exact Zc [0] ⟨rfl, rfl, rfl, rfl, trivial⟩ rfl (by decide) rfl rfl
 rintro z hJ2
 have hm2 := hJ2.1.len
 refine Zm ?_
 refine Z5 ?_
 refine Zm ?_
 refine Z06 (α := Nat) (fun u => ⟨[(9, iA u), (10, iA z.2.2), (0, .own q 1 0 n), (1, iA a)], [(q, .rows 9 1 (z.1.map fun x => [sA x]))], [], 84⟩) (fun u => z.2.1 ≤ u ∧ u ≤ z.2.2 + 1 ∧ PartE ltS a b u z.2.2 z.1) (fun u => b - u) z.2.1 ⟨Nat.le_refl _, hJ2.2.2.1, hJ2.2.2.2.2.2⟩ ?_ ?_
 ·exact Zc [0] ⟨rfl, rfl, rfl, rfl, trivial⟩ rfl (by decide) rfl rfl
 rintro u hJ3
 refine Z5 ?_
 refine Z5 ?_
 refine Z0i [0, 0, 3, 7, 15, 15, 63, 127, 15, 15, 783, 1807, 4095, 8191, 16383] 15 rfl (by kernel_rfl) ?_
 refine Z9 (w0 rfl) rfl (Z0 rfl rfl) ?_
 refine Z9 (w0 rfl) rfl (Z0 rfl rfl) ?_
 refine Z9 (w0 rfl) rfl (Zb rfl rfl rfl rfl) ?_
 refine Z9 (w0 rfl) rfl (Z0 rfl rfl) ?_
 refine Zi (wT rfl rfl rfl rfl) rfl (fun hg => (Z0 rfl rfl)) ?_
 refine Zi (wT rfl rfl rfl rfl) rfl (fun hg => (Z0 rfl rfl)) ?_
 refine Zi (wT rfl rfl rfl rfl) rfl (fun hg => (Z6 a rfl (Z05 hg rfl) (Z05 hg rfl) (by (try simp at hg) <;> first | omega | (simp only [List.length_map]; omega) | (simp only [List.length_map, List.length_drop]; omega)) (by (try simp at hg) <;> first | omega | (simp only [List.length_map]; omega) | (simp only [List.length_map, List.length_drop]; omega)) (by omega))) ?_
 refine Zt 0 (wT rfl rfl rfl rfl) rfl rfl (fun hg => (Z05 hg rfl)) rfl (fun hg => by (try simp at hg) <;> (first | assumption | omega | (simp only [List.length_drop]; omega))) (fun _ => Zo) ?_
 refine Zi (wT rfl rfl rfl rfl) rfl (fun hg => (Z0 rfl rfl)) ?_
 refine Zi (wT rfl rfl rfl rfl) rfl (fun hg => (Z0 rfl rfl)) ?_
 refine Zi (wT rfl rfl rfl rfl) rfl (fun hg => (Z6 u rfl (Z05 hg rfl) (Z05 hg rfl) (by (try simp at hg) <;> first | omega | (simp only [List.length_map]; omega) | (simp only [List.length_map, List.length_drop]; omega)) (by (try simp at hg) <;> first | omega | (simp only [List.length_map]; omega) | (simp only [List.length_map, List.length_drop]; omega)) (by omega))) ?_
 refine Zt 0 (wT rfl rfl rfl rfl) rfl rfl (fun hg => (Z05 hg rfl)) rfl (fun hg => by (try simp at hg) <;> (first | assumption | omega | (simp only [List.length_drop]; omega))) (fun _ => Zo) ?_
 refine Zi (wT rfl rfl rfl rfl) rfl (fun hg => (Zp [] rfl rfl (Zn (Z05 hg rfl) (Zn (Z05 hg rfl) Z0e)) (Z11 _ _) List.nodup_nil)) ?_
 refine Zi (wT rfl rfl rfl rfl) rfl (fun hg => (Z0j rfl (Z05 hg rfl))) ?_
 refine Z9 (w0 rfl) rfl (Z0h rfl rfl rfl (fun h => h)) ?_
 refine .done ?_
 refine Z4 ?_
 refine Za rfl ?_ ?_
 ·intro hc
  have hle : u ≤ z.2.2 := by have := Z78 hc; simpa using this
  have hv := Z6k hc
  refine Zh ?_
  refine Zm ?_
  refine Z2 ?_
  refine Z1 (w0 rfl) rfl (Z0 rfl rfl) ?_
  refine Z1 (w0 rfl) rfl (Z7 rfl rfl rfl (Zd (by first | omega | (simp only [List.length_map]; omega)))) ?_
  refine Z1 (w0 rfl) rfl (Z3 rfl rfl) ?_
  refine Z4 ?_
  refine ⟨(u + 1), ⟨by omega, by omega, ⟨fun k h1 h2 => by rcases Nat.lt_succ_iff_lt_or_eq.1 h2 with h | h; exact hJ3.2.2.lo k h1 h; rw [h]; exact Z6j hv, hJ3.2.2.hi⟩⟩, (by omega), ?_⟩
  exact Zc [0] ⟨rfl, rfl, rfl, rfl, trivial⟩ rfl (by decide) rfl rfl
 ·intro hc
  have hC : z.2.2 < u ∨ (!ltS (z.1.getD a default) (z.1.getD u default)) = false := by rcases Bool.and_eq_false_iff.1 hc with h | h; exact .inl (by simpa using h); exact .inr h
  refine Zy ?_
  refine Z5 ?_
  refine Zm ?_
  refine Z06 (α := Nat) (fun v => ⟨[(9, iA u), (10, iA v), (0, .own q 1 0 n), (1, iA a)], [(q, .rows 9 1 (z.1.map fun x => [sA x]))], [], 84⟩) (fun v => v ≤ z.2.2 ∧ u ≤ v + 1 ∧ PartE ltS a b u v z.1) (fun v => v) z.2.2 ⟨Nat.le_refl _, hJ3.2.1, hJ3.2.2⟩ ?_ ?_
  ·exact Zc [0] ⟨rfl, rfl, rfl, rfl, trivial⟩ rfl (by decide) rfl rfl
  rintro v hJ4
  refine Z5 ?_
  refine Z5 ?_
  refine Z0i [0, 0, 3, 7, 15, 15, 63, 127, 15, 15, 783, 1807, 4095, 8191] 14 rfl (by kernel_rfl) ?_
  refine Z9 (w0 rfl) rfl (Z0 rfl rfl) ?_
  refine Z9 (w0 rfl) rfl (Z0 rfl rfl) ?_
  refine Z9 (w0 rfl) rfl (Zb rfl rfl rfl rfl) ?_
  refine Z9 (w0 rfl) rfl (Z0 rfl rfl) ?_
  refine Zi (wT rfl rfl rfl rfl) rfl (fun hg => (Z0 rfl rfl)) ?_
  refine Zi (wT rfl rfl rfl rfl) rfl (fun hg => (Z0 rfl rfl)) ?_
  refine Zi (wT rfl rfl rfl rfl) rfl (fun hg => (Z6 a rfl (Z05 hg rfl) (Z05 hg rfl) (by (try simp at hg) <;> first | omega | (simp only [List.length_map]; omega) | (simp only [List.length_map, List.length_drop]; omega)) (by (try simp at hg) <;> first | omega | (simp only [List.length_map]; omega) | (simp only [List.length_map, List.length_drop]; omega)) (by omega))) ?_
  refine Zt 0 (wT rfl rfl rfl rfl) rfl rfl (fun hg => (Z05 hg rfl)) rfl (fun hg => by (try simp at hg) <;> (first | assumption | omega | (simp only [List.length_drop]; omega))) (fun _ => Zo) ?_
  refine Zi (wT rfl rfl rfl rfl) rfl (fun hg => (Z0 rfl rfl)) ?_
  refine Zi (wT rfl rfl rfl rfl) rfl (fun hg => (Z0 rfl rfl)) ?_
  refine Zi (wT rfl rfl rfl rfl) rfl (fun hg => (Z6 v rfl (Z05 hg rfl) (Z05 hg rfl) (by (try simp at hg) <;> first | omega | (simp only [List.length_map]; omega) | (simp only [List.length_map, List.length_drop]; omega)) (by (try simp at hg) <;> first | omega | (simp only [List.length_map]; omega) | (simp only [List.length_map, List.length_drop]; omega)) (by omega))) ?_
  refine Zt 0 (wT rfl rfl rfl rfl) rfl rfl (fun hg => (Z05 hg rfl)) rfl (fun hg => by (try simp at hg) <;> (first | assumption | omega | (simp only [List.length_drop]; omega))) (fun _ => Zo) ?_
  refine Zi (wT rfl rfl rfl rfl) rfl (fun hg => (Zp [] rfl rfl (Zn (Z05 hg rfl) (Zn (Z05 hg rfl) Z0e)) (Z11 _ _) List.nodup_nil)) ?_
  refine Z9 (w0 rfl) rfl (Z0h rfl rfl rfl (fun h => h)) ?_
  refine .done ?_
  refine Z4 ?_
  refine Za rfl ?_ ?_
  ·intro hc
   have hle : u ≤ v := by have := Z78 hc; simpa using this
   have hv := Z6k hc
   refine Zh ?_
   refine Zm ?_
   refine Z2 ?_
   refine Z1 (w0 rfl) rfl (Z0 rfl rfl) ?_
   refine Z1 (w0 rfl) rfl (Z7 rfl rfl rfl (Zg (by first | omega | (simp only [List.length_map]; omega)))) ?_
   refine Z1 (w0 rfl) rfl (Z3 rfl rfl) ?_
   refine Z4 ?_
   refine ⟨(v - 1), ⟨by omega, by omega, ⟨hJ4.2.2.lo, fun k h1 h2 => by by_cases e : k = v; rw [e]; exact hv; exact hJ4.2.2.hi k (by omega) h2⟩⟩, (by omega), ?_⟩
   exact Zc [0] ⟨rfl, (congrArg (fun n => some (iA n)) (by omega)), rfl, rfl, trivial⟩ rfl (by decide) rfl rfl
  ·intro hc
   have hD : v < u ∨ ltS (z.1.getD a default) (z.1.getD v default) = false := by rcases Bool.and_eq_false_iff.1 hc with h | h; exact .inl (by simpa using h); exact .inr h
   refine Zy ?_
   refine Z5 ?_
   refine Z5 ?_
   refine Z2 ?_
   refine Z1 (w0 rfl) rfl (Z0 rfl rfl) ?_
   refine Z1 (w0 rfl) rfl (Z0 rfl rfl) ?_
   refine Z1 (w0 rfl) rfl (Zb rfl rfl rfl rfl) ?_
   refine Z4 ?_
   refine Za rfl ?_ ?_
   ·intro hc
    have hgt : v < u := by simpa using hc
    refine Zy ?_
    refine Z5 ?_
    refine Z2 ?_
    refine Z1 (w0 rfl) rfl (Z0 rfl rfl) ?_
    refine Z1 (w0 rfl) rfl (Z3 rfl rfl) ?_
    refine Z4 ?_
    refine Zs ?_
    exact Zr rfl (Zf rfl Ze) (.cons_cons _ .slnil) (gp (z.1, u) ⟨hJ2.1, (by (try simp only) <;> omega), (by (try simp only) <;> omega), hJ2.2.2.2.2.1, v, (by (try simp only) <;> omega), hJ4.2.2⟩ rfl rfl)
   ·intro hc
    have huv : u ≤ v := by simpa using hc
    have hne : u < v := Z8t (f := fun k => ltS (z.1.getD a default) (z.1.getD k default)) (by omega) (Z8w (hC.resolve_left (by omega))) (hD.resolve_left (by omega))
    refine Zh ?_
    refine Z5 ?_
    refine Z0m [0, 0, 0, 0, 0, 0, 48, 112, 0, 0, 768, 1792, 4083, 8179, 16383, 32767] [13, 15] [7, 11] rfl (by kernel_rfl) ?_
    refine Z8 (w0 rfl) rfl (Z0 rfl rfl) rfl ?_
    refine Z8 (w0 rfl) rfl (Z0 rfl rfl) rfl ?_
    refine Z8 (w0 rfl) rfl (Z0 rfl rfl) rfl ?_
    refine Z8 (w0 rfl) rfl (Z0 rfl rfl) rfl ?_
    refine Z8 (w0 rfl) rfl (Z0 rfl rfl) rfl ?_
    refine Z8 (w0 rfl) rfl (Z0 rfl rfl) rfl ?_
    refine Z8 (w0 rfl) rfl (Z6 v rfl rfl rfl (by first | omega | (simp only [List.length_map]; omega) | (simp only [List.length_map, List.length_drop]; omega)) (by first | omega | (simp only [List.length_map]; omega) | (simp only [List.length_map, List.length_drop]; omega)) (by omega)) rfl ?_
    refine Zk 0 (w0 rfl) rfl rfl rfl rfl (Z02 (by first | assumption | omega | (simp only [List.length_drop]; omega))) Zo rfl rfl ?_
    refine Z8 (w0 rfl) rfl (Z0 rfl rfl) rfl ?_
    refine Z8 (w0 rfl) rfl (Z0 rfl rfl) rfl ?_
    refine Z8 (w0 rfl) rfl (Z6 u rfl rfl rfl (by first | omega | (simp only [List.length_map]; omega) | (simp only [List.length_map, List.length_drop]; omega)) (by first | omega | (simp only [List.length_map]; omega) | (simp only [List.length_map, List.length_drop]; omega)) (by omega)) rfl ?_
    refine Zk 0 (w0 rfl) rfl rfl rfl rfl (Z02 (by first | assumption | omega | (simp only [List.length_drop]; omega))) Zo rfl rfl ?_
    refine Z8 (w0 rfl) rfl (Z6 u rfl rfl rfl (by first | omega | (simp only [List.length_map]; omega) | (simp only [List.length_map, List.length_drop]; omega)) (by first | omega | (simp only [List.length_map]; omega) | (simp only [List.length_map, List.length_drop]; omega)) (by omega)) rfl ?_
    refine Zq 0 rfl (w0 rfl) rfl rfl rfl rfl (by first | omega | (simp; omega)) rfl rfl ?_
    refine Z8 (w0 rfl) rfl (Z6 v rfl rfl rfl (by first | omega | (simp only [List.length_map]; omega) | (simp only [List.length_map, List.length_drop]; omega)) (by first | omega | (simp only [List.length_map]; omega) | (simp only [List.length_map, List.length_drop]; omega)) (by omega)) rfl ?_
    refine Zq 0 rfl (w0 rfl) rfl rfl rfl rfl (by first | omega | (simp; omega)) rfl rfl ?_
    refine .done ?_
    refine Z5 ?_
    refine Z2 ?_
    refine Z1 (w0 rfl) rfl (Z0 rfl rfl) ?_
    refine Z1 (w0 rfl) rfl (Z7 rfl rfl rfl (Zd (by first | omega | (simp only [List.length_map]; omega)))) ?_
    refine Z1 (w0 rfl) rfl (Z3 rfl rfl) ?_
    refine Z4 ?_
    refine Z2 ?_
    refine Z1 (w0 rfl) rfl (Z0 rfl rfl) ?_
    refine Z1 (w0 rfl) rfl (Z7 rfl rfl rfl (Zg (by first | omega | (simp only [List.length_map]; omega)))) ?_
    refine Z1 (w0 rfl) rfl (Z3 rfl rfl) ?_
    refine Z4 ?_
    refine ⟨(swp z.1 u v, u + 1, v - 1), ⟨.step _ _ hJ2.1 (by (try simp only) <;> omega) (by (try simp only) <;> omega) (by (try simp only) <;> omega), (by (try simp only) <;> omega), (by (try simp only) <;> omega), (by (try simp only) <;> omega), (Z24 (by (try simp only) <;> omega) (by (try simp only) <;> omega) (by (try simp only) <;> omega) (by (try simp only) <;> omega)).trans hJ2.2.2.2.2.1, hJ4.2.2.swap (i := u) (j := v) (by (try simp only) <;> omega) (by (try simp only) <;> omega) (by (try simp only) <;> omega) (by (try simp only) <;> omega) (Z8w (hC.resolve_left (by (try simp only) <;> omega))) (hD.resolve_left (by (try simp only) <;> omega))⟩, (by (try simp only) <;> omega), ?_⟩
    exact Zc [0] ⟨rfl, (congrArg (fun n => some (iA n)) (by (try simp only) <;> omega)), rfl, rfl, trivial⟩ rfl (by decide) rfl rfl
theorem Zif (q n : Nat) (l : List Str) (hn : l.length = n) (hN : n ≤ 140737488355328) (a b : Nat) (ha : a < b) (hb : b ≤ n) : ACalls Try.prog 75 [.own q 1 0 n, iA a, iA b] [(q, .rows 9 1 (l.map fun x => [sA x]))] (GP (fun _ : List Str => mkRes []) (fun m => [(q, .rows 9 1 (m.map fun x => [sA x]))]) (fun m => Sw a b l m)) := by
 refine Zj (n := 32) Try.func75 rfl (by decide +kernel) rfl rfl ?_
 refine Z5 ?_
 refine Z2 ?_
 refine Z1 (w0 rfl) rfl (Z0 rfl rfl) ?_
 refine Z1 (w0 rfl) rfl (Z3 rfl rfl) ?_
 refine Z4 ?_
 refine Z5 ?_
 refine Z2 ?_
 refine Z1 (w0 rfl) rfl (Z0 rfl rfl) ?_
 refine Z1 (w0 rfl) rfl (Zz (y := iA (b - 1 : Nat)) (Z7 rfl rfl rfl (Zg (by first | omega | (simp only [List.length_map]; omega)))) (congrArg iA (by omega))) ?_
 refine Z1 (w0 rfl) rfl (Z3 rfl rfl) ?_
 refine Z4 ?_
 refine Zm ?_
 refine Z06 (α := List Str × Nat × Nat) (fun z => ⟨[(6, iA z.2.1), (7, iA z.2.2), (0, .own q 1 0 n)], [(q, .rows 9 1 (z.1.map fun x => [sA x]))], [], 32⟩) (fun z => Sw a b l z.1 ∧ a ≤ z.2.1 ∧ z.2.2 < b) (fun z => z.2.2 - z.2.1) (l, a, b - 1) ⟨.refl, (by (try simp only) <;> omega), (by (try simp only) <;> omega)⟩ ?_ ?_
 ·exact Zc [0] ⟨rfl, rfl, rfl, trivial⟩ rfl (by decide) rfl rfl
 rintro z hJ
 have hm := hJ.1.len
 refine Z5 ?_
 refine Z5 ?_
 refine Z2 ?_
 refine Z1 (w0 rfl) rfl (Z0 rfl rfl) ?_
 refine Z1 (w0 rfl) rfl (Z0 rfl rfl) ?_
 refine Z1 (w0 rfl) rfl (Zb rfl rfl rfl rfl) ?_
 refine Z4 ?_
 refine Za rfl ?_ ?_
 ·intro hc
  have hlt : z.2.1 < z.2.2 := by simpa using hc
  refine Zh ?_
  refine Zm ?_
  refine Z5 ?_
  refine Z0m [0, 0, 0, 0, 0, 0, 48, 112, 0, 0, 768, 1792, 4083, 8179, 16383, 32767] [13, 15] [7, 11] rfl (by kernel_rfl) ?_
  refine Z8 (w0 rfl) rfl (Z0 rfl rfl) rfl ?_
  refine Z8 (w0 rfl) rfl (Z0 rfl rfl) rfl ?_
  refine Z8 (w0 rfl) rfl (Z0 rfl rfl) rfl ?_
  refine Z8 (w0 rfl) rfl (Z0 rfl rfl) rfl ?_
  refine Z8 (w0 rfl) rfl (Z0 rfl rfl) rfl ?_
  refine Z8 (w0 rfl) rfl (Z0 rfl rfl) rfl ?_
  refine Z8 (w0 rfl) rfl (Z6 z.2.2 rfl rfl rfl (by first | omega | (simp only [List.length_map]; omega) | (simp only [List.length_map, List.length_drop]; omega)) (by first | omega | (simp only [List.length_map]; omega) | (simp only [List.length_map, List.length_drop]; omega)) (by omega)) rfl ?_
  refine Zk 0 (w0 rfl) rfl rfl rfl rfl (Z02 (by first | assumption | omega | (simp only [List.length_drop]; omega))) Zo rfl rfl ?_
  refine Z8 (w0 rfl) rfl (Z0 rfl rfl) rfl ?_
  refine Z8 (w0 rfl) rfl (Z0 rfl rfl) rfl ?_
  refine Z8 (w0 rfl) rfl (Z6 z.2.1 rfl rfl rfl (by first | omega | (simp only [List.length_map]; omega) | (simp only [List.length_map, List.length_drop]; omega)) (by first | omega | (simp only [List.length_map]; omega) | (simp only [List.length_map, List.length_drop]; omega)) (by omega)) rfl ?_
  refine Zk 0 (w0 rfl) rfl rfl rfl rfl (Z02 (by first | assumption | omega | (simp only [List.length_drop]; omega))) Zo rfl rfl ?_
  refine Z8 (w0 rfl) rfl (Z6 z.2.1 rfl rfl rfl (by first | omega | (simp only [List.length_map]; omega) | (simp only [List.length_map, List.length_drop]; omega)) (by first | omega | (simp only [List.length_map]; omega) | (simp only [List.length_map, List.length_drop]; omega)) (by omega)) rfl ?_
  refine Zq 0 rfl (w0 rfl) rfl rfl rfl rfl (by first | omega | (simp; omega)) rfl rfl ?_
  refine Z8 (w0 rfl) rfl (Z6 z.2.2 rfl rfl rfl (by first | omega | (simp only [List.length_map]; omega) | (simp only [List.length_map, List.length_drop]; omega)) (by first | omega | (simp only [List.length_map]; omega) | (simp only [List.length_map, List.length_drop]; omega)) (by omega)) rfl ?_
  refine Zq 0 rfl (w0 rfl) rfl rfl rfl rfl (by first | omega | (simp; omega)) rfl rfl ?_
  refine .done ?_
  refine Z5 ?_
  refine Z2 ?_
  refine Z1 (w0 rfl) rfl (Z0 rfl rfl) ?_
  refine Z1 (w0 rfl) rfl (Z7 rfl rfl rfl (Zd (by first | omega | (simp only [List.length_map]; omega)))) ?_
  refine Z1 (w0 rfl) rfl (Z3 rfl rfl) ?_
  refine Z4 ?_
  refine Z2 ?_
  refine Z1 (w0 rfl) rfl (Z0 rfl rfl) ?_
  refine Z1 (w0 rfl) rfl (Z7 rfl rfl rfl (Zg (by first | omega | (simp only [List.length_map]; omega)))) ?_
  refine Z1 (w0 rfl) rfl (Z3 rfl rfl) ?_
  refine Z4 ?_
  refine ⟨(swp z.1 z.2.1 z.2.2, z.2.1 + 1, z.2.2 - 1), ⟨.step _ _ hJ.1 (by (try simp only) <;> omega) (by (try simp only) <;> omega) (by (try simp only) <;> omega), (by (try simp only) <;> omega), (by (try simp only) <;> omega)⟩, (by (try simp only) <;> omega), ?_⟩
  exact Zc [0] ⟨rfl, (congrArg (fun n => some (iA n)) (by (try simp only) <;> omega)), rfl, trivial⟩ rfl (by decide) rfl rfl
 ·intro hc
  refine Zy ?_
  exact Zr rfl Ze (.cons_cons _ .slnil) (gp z.1 hJ.1 rfl rfl)
theorem Z7e (q si n : Nat) (l : List Str) (hn : l.length = n) (c : Int) (a b : Nat) (ha : a < n) (hb : b < n) : ACalls Try.prog 94 [.own q 1 0 n, iA a, iA b, .ptr si 1 0 0] [(q, .rows 9 1 (l.map fun x => [sA x])), (si, .rows 3 1 [[iA c]])] (GP (fun r : Nat × Nat × Int => .tup [iA r.1, iA r.2.1]) (fun r => [(q, .rows 9 1 (l.map fun x => [sA x])), (si, .rows 3 1 [[iA r.2.2]])]) (fun r => (r.1 = a ∧ r.2.1 = b) ∨ (r.1 = b ∧ r.2.1 = a))) := by
 refine Zj (n := 28) Try.func94 rfl (by decide +kernel) rfl rfl ?_
 refine Z5 ?_
 refine Z2 ?_
 refine Z1 (w0 rfl) rfl (Z3 rfl rfl) ?_
 refine Z1 (w0 rfl) rfl (Z3 rfl rfl) ?_
 refine Z4 ?_
 refine Z5 ?_
 refine Z5 ?_
 refine Z1l 9 rfl (by kernel_rfl) ?_
 refine Z9 (w0 rfl) rfl (Z0 rfl rfl) ?_
 refine Z9 (w0 rfl) rfl (Z0 rfl rfl) ?_
 refine Z9 (w0 rfl) rfl (Z6 b rfl rfl rfl (by first | omega | (simp only [List.length_map]; omega) | (simp only [List.length_map, List.length_drop]; omega)) (by first | omega | (simp only [List.length_map]; omega) | (simp only [List.length_map, List.length_drop]; omega)) (by omega)) ?_
 refine Zw 0 (w0 rfl) rfl rfl rfl rfl (Z02 (by first | assumption | omega | (simp only [List.length_drop]; omega))) Zo ?_
 refine Z9 (w0 rfl) rfl (Z0 rfl rfl) ?_
 refine Z9 (w0 rfl) rfl (Z0 rfl rfl) ?_
 refine Z9 (w0 rfl) rfl (Z6 a rfl rfl rfl (by first | omega | (simp only [List.length_map]; omega) | (simp only [List.length_map, List.length_drop]; omega)) (by first | omega | (simp only [List.length_map]; omega) | (simp only [List.length_map, List.length_drop]; omega)) (by omega)) ?_
 refine Zw 0 (w0 rfl) rfl rfl rfl rfl (Z02 (by first | assumption | omega | (simp only [List.length_drop]; omega))) Zo ?_
 refine Z9 (w0 rfl) rfl (Zp [] rfl rfl rfl (Z11 _ _) List.nodup_nil) ?_
 refine .done ?_
 refine Z4 ?_
 refine Za rfl ?_ ?_
 ·intro hc
  refine Z5 ?_
  refine Z2 ?_
  refine Z1 (w0 rfl) rfl (Z0 rfl rfl) ?_
  refine Z1 (w0 rfl) rfl (Z0d rfl rfl rfl) ?_
  refine Z00 1 (w0 rfl) rfl rfl rfl rfl rfl Zo ?_
  refine Z1 (w0 rfl) rfl (Z7 rfl rfl rfl rfl) ?_
  refine Z1 (w0 rfl) rfl (Z0d rfl rfl rfl) ?_
  refine Z19 1 (w0 rfl) rfl rfl rfl rfl rfl rfl rfl rfl rfl ?_
  refine Z4 ?_
  refine Z5 ?_
  refine Z2 ?_
  refine Z1 (w0 rfl) rfl (Z0 rfl rfl) ?_
  refine Z1 (w0 rfl) rfl (Z0 rfl rfl) ?_
  refine Z1 (w0 rfl) rfl (Z3 rfl rfl) ?_
  refine Z1 (w0 rfl) rfl (Z3 rfl rfl) ?_
  refine Z4 ?_
  refine Zs ?_
  exact Zr rfl (Zf rfl (Zf rfl Ze)) (.cons_cons _ (.cons_cons _ .slnil)) (gp (b, a, _) (.inr ⟨rfl, rfl⟩) rfl rfl)
 ·intro hc
  refine Zh ?_
  refine Z5 ?_
  refine Z2 ?_
  refine Z1 (w0 rfl) rfl (Z0 rfl rfl) ?_
  refine Z1 (w0 rfl) rfl (Z0 rfl rfl) ?_
  refine Z1 (w0 rfl) rfl (Z3 rfl rfl) ?_
  refine Z1 (w0 rfl) rfl (Z3 rfl rfl) ?_
  refine Z4 ?_
  refine Zs ?_
  exact Zr rfl (Zf rfl (Zf rfl Ze)) (.cons_cons _ (.cons_cons _ .slnil)) (gp (a, b, _) (.inl ⟨rfl, rfl⟩) rfl rfl)
theorem Z7d (q si n : Nat) (l : List Str) (hn : l.length = n) (hN : n ≤ 140737488355328) (c : Int) (a b d : Nat) (ha : a < n) (hb : b < n) (hd : d < n) : ACalls Try.prog 90 [.own q 1 0 n, iA a, iA b, iA d, .ptr si 1 0 0] [(q, .rows 9 1 (l.map fun x => [sA x])), (si, .rows 3 1 [[iA c]])] (GP (fun r : Nat × Int => iA r.1) (fun r => [(q, .rows 9 1 (l.map fun x => [sA x])), (si, .rows 3 1 [[iA r.2]])]) (fun r => r.1 = a ∨ r.1 = b ∨ r.1 = d)) := by
 refine Zj (n := 36) Try.func90 rfl (by decide +kernel) rfl rfl ?_
 refine Z5 ?_
 refine Z2 ?_
 refine Z1 (w0 rfl) rfl (Z3 rfl rfl) ?_
 refine Z4 ?_
 refine Z5 ?_
 refine Z2 ?_
 refine Z1 (w0 rfl) rfl (Z0 rfl rfl) ?_
 refine Z1 (w0 rfl) rfl (Z0 rfl rfl) ?_
 refine Z1 (w0 rfl) rfl (Z0 rfl rfl) ?_
 refine Z1 (w0 rfl) rfl (Z0 rfl rfl) ?_
 refine Zl [_, _] _ (w0 rfl) rfl rfl rfl rfl (Z1n (k := 0) (j := 0) rfl rfl) (Z7e q si n l hn _ _ _ (by omega) (by omega)) (fun v1 hv1 => ?_)
 refine Z1 (w0 rfl) rfl (Z0 rfl rfl) ?_
 refine Z1 (w0 rfl) rfl (Zv rfl rfl rfl) ?_
 refine Z1 (w0 rfl) rfl (Zv rfl rfl rfl) ?_
 refine Z1 (w0 rfl) rfl (Z3 rfl rfl) ?_
 refine Z1 (w0 rfl) rfl (Z3 rfl rfl) ?_
 refine Z4 ?_
 refine Z5 ?_
 refine Z2 ?_
 refine Z1 (w0 rfl) rfl (Z0 rfl rfl) ?_
 refine Z1 (w0 rfl) rfl (Z0 rfl rfl) ?_
 refine Z1 (w0 rfl) rfl (Z0 rfl rfl) ?_
 refine Z1 (w0 rfl) rfl (Z0 rfl rfl) ?_
 refine Zl [_, _] _ (w0 rfl) rfl rfl rfl rfl (Z1n (k := 0) (j := 0) rfl rfl) (Z7e q si n l hn _ _ _ (by omega) (by omega)) (fun v2 hv2 => ?_)
 refine Z1 (w0 rfl) rfl (Z0 rfl rfl) ?_
 refine Z1 (w0 rfl) rfl (Zv rfl rfl rfl) ?_
 refine Z1 (w0 rfl) rfl (Zv rfl rfl rfl) ?_
 refine Z1 (w0 rfl) rfl (Z3 rfl rfl) ?_
 refine Z1 (w0 rfl) rfl (Z3 rfl rfl) ?_
 refine Z4 ?_
 refine Z5 ?_
 refine Z2 ?_
 refine Z1 (w0 rfl) rfl (Z0 rfl rfl) ?_
 refine Z1 (w0 rfl) rfl (Z0 rfl rfl) ?_
 refine Z1 (w0 rfl) rfl (Z0 rfl rfl) ?_
 refine Z1 (w0 rfl) rfl (Z0 rfl rfl) ?_
 refine Zl [_, _] _ (w0 rfl) rfl rfl rfl rfl (Z1n (k := 0) (j := 0) rfl rfl) (Z7e q si n l hn _ _ _ (by omega) (by omega)) (fun v3 hv3 => ?_)
 refine Z1 (w0 rfl) rfl (Z0 rfl rfl) ?_
 refine Z1 (w0 rfl) rfl (Zv rfl rfl rfl) ?_
 refine Z1 (w0 rfl) rfl (Zv rfl rfl rfl) ?_
 refine Z1 (w0 rfl) rfl (Z3 rfl rfl) ?_
 refine Z1 (w0 rfl) rfl (Z3 rfl rfl) ?_
 refine Z4 ?_
 refine Z5 ?_
 refine Z2 ?_
 refine Z1 (w0 rfl) rfl (Z0 rfl rfl) ?_
 refine Z1 (w0 rfl) rfl (Z3 rfl rfl) ?_
 refine Z4 ?_
 refine Zs ?_
 exact Zr rfl (Zf rfl Ze) (.cons_cons _ (.cons_cons _ .slnil)) (gp (v3.2.1, _) (by (try simp only) <;> omega) rfl rfl)
theorem Z7c (q si n : Nat) (l : List Str) (hn : l.length = n) (hN : n ≤ 140737488355328) (c : Int) (a : Nat) (h1 : 1 ≤ a) (ha : a + 1 < n) : ACalls Try.prog 89 [.own q 1 0 n, iA a, .ptr si 1 0 0] [(q, .rows 9 1 (l.map fun x => [sA x])), (si, .rows 3 1 [[iA c]])] (GP (fun r : Nat × Int => iA r.1) (fun r => [(q, .rows 9 1 (l.map fun x => [sA x])), (si, .rows 3 1 [[iA r.2]])]) (fun r => r.1 + 1 = a ∨ r.1 = a ∨ r.1 = a + 1)) := by
 refine Zj (n := 15) Try.func89 rfl (by decide +kernel) rfl rfl ?_
 refine Z5 ?_
 refine Z2 ?_
 refine Z1 (w0 rfl) rfl (Z3 rfl rfl) ?_
 refine Z4 ?_
 refine Z5 ?_
 refine Z2 ?_
 refine Z1 (w0 rfl) rfl (Z0 rfl rfl) ?_
 refine Z1 (w0 rfl) rfl (Z0 rfl rfl) ?_
 refine Z1 (w0 rfl) rfl (Zz (y := iA (a - 1 : Nat)) (Z7 rfl rfl rfl (Zg (by first | omega | (simp only [List.length_map]; omega)))) (congrArg iA (by omega))) ?_
 refine Z1 (w0 rfl) rfl (Z0 rfl rfl) ?_
 refine Z1 (w0 rfl) rfl (Z0 rfl rfl) ?_
 refine Z1 (w0 rfl) rfl (Z7 rfl rfl rfl (Zd (by first | omega | (simp only [List.length_map]; omega)))) ?_
 refine Z1 (w0 rfl) rfl (Z0 rfl rfl) ?_
 refine Zl [_, _] _ (w0 rfl) rfl rfl rfl rfl (Z1n (k := 0) (j := 0) rfl rfl) (Z7d q si n l hn hN _ (a - 1) a (a + 1) (by omega) (by omega) (by omega)) (fun v1 hv1 => ?_)
 refine Z1 (w0 rfl) rfl (Z3 rfl rfl) ?_
 refine Z4 ?_
 refine Zs ?_
 exact Zr rfl (Zf rfl Ze) (.cons_cons _ (.cons_cons _ .slnil)) (gp (v1.1, _) (by (try simp only) <;> omega) rfl rfl)
theorem Zcl (q n : Nat) (l : List Str) (hn : l.length = n) (hN : n ≤ 140737488355328) (a b : Nat) (hab : a + 12 < b) (hb : b ≤ n) : ACalls Try.prog 74 [.own q 1 0 n, iA a, iA b] [(q, .rows 9 1 (l.map fun x => [sA x]))] (GP (fun r : Nat × Int => .tup [iA r.1, iA r.2]) (fun r => [(q, .rows 9 1 (l.map fun x => [sA x]))]) (fun r => a ≤ r.1 ∧ r.1 < b)) := by
 refine Zj (n := 57) Try.func74 rfl (by decide +kernel) rfl rfl ?_
 refine Z5 ?_
 refine Z2 ?_
 refine Z1 (w0 rfl) rfl (Z3 rfl rfl) ?_
 refine Z1 (w0 rfl) rfl (Z3 rfl rfl) ?_
 refine Z4 ?_
 refine Z5 ?_
 refine Z2 ?_
 refine Z1 (w0 rfl) rfl (Z0 rfl rfl) ?_
 refine Z1 (w0 rfl) rfl (Z0 rfl rfl) ?_
 refine Z1 (w0 rfl) rfl (Zz (y := iA (b - a : Nat)) (Z7 rfl rfl rfl (Zg (by first | omega | (simp only [List.length_map]; omega)))) (congrArg iA (by omega))) ?_
 refine Z1 (w0 rfl) rfl (Z3 rfl rfl) ?_
 refine Z4 ?_
 refine Z5 ?_
 refine Z2 ?_
 refine Z15 (w0 rfl) rfl (fun id => Z20 id rfl rfl rfl) (fun id1 => ?_)
 refine Z4 ?_
 refine Z5 ?_
 refine Z2 ?_
 refine Z1 (w0 rfl) rfl (Z0 rfl rfl) ?_
 refine Z1 (w0 rfl) rfl (Z0 rfl rfl) ?_
 refine Z1 (w0 rfl) rfl (Zz (y := iA ((b - a) / 4 : Nat)) (Z1g rfl rfl rfl (by decide) (Z13 (b - a) 4 (by omega))) (congrArg iA (Z3q (b - a) 4))) ?_
 refine Z1 (w0 rfl) rfl (Z7 rfl rfl rfl (Z1x (by first | omega | (simp only [List.length_map]; omega)))) ?_
 refine Z1 (w0 rfl) rfl (Zz (y := iA (a + (b - a) / 4 * 1 : Nat)) (Z7 rfl rfl rfl (Zd (by first | omega | (simp only [List.length_map]; omega)))) (congrArg iA (by omega))) ?_
 refine Z1 (w0 rfl) rfl (Z3 rfl rfl) ?_
 refine Z4 ?_
 refine Z5 ?_
 refine Z2 ?_
 refine Z1 (w0 rfl) rfl (Z0 rfl rfl) ?_
 refine Z1 (w0 rfl) rfl (Z0 rfl rfl) ?_
 refine Z1 (w0 rfl) rfl (Zz (y := iA ((b - a) / 4 : Nat)) (Z1g rfl rfl rfl (by decide) (Z13 (b - a) 4 (by omega))) (congrArg iA (Z3q (b - a) 4))) ?_
 refine Z1 (w0 rfl) rfl (Z7 rfl rfl rfl (Z1x (by first | omega | (simp only [List.length_map]; omega)))) ?_
 refine Z1 (w0 rfl) rfl (Zz (y := iA (a + (b - a) / 4 * 2 : Nat)) (Z7 rfl rfl rfl (Zd (by first | omega | (simp only [List.length_map]; omega)))) (congrArg iA (by omega))) ?_
 refine Z1 (w0 rfl) rfl (Z3 rfl rfl) ?_
 refine Z4 ?_
 refine Z5 ?_
 refine Z2 ?_
 refine Z1 (w0 rfl) rfl (Z0 rfl rfl) ?_
 refine Z1 (w0 rfl) rfl (Z0 rfl rfl) ?_
 refine Z1 (w0 rfl) rfl (Zz (y := iA ((b - a) / 4 : Nat)) (Z1g rfl rfl rfl (by decide) (Z13 (b - a) 4 (by omega))) (congrArg iA (Z3q (b - a) 4))) ?_
 refine Z1 (w0 rfl) rfl (Z7 rfl rfl rfl (Z1x (by first | omega | (simp only [List.length_map]; omega)))) ?_
 refine Z1 (w0 rfl) rfl (Zz (y := iA (a + (b - a) / 4 * 3 : Nat)) (Z7 rfl rfl rfl (Zd (by first | omega | (simp only [List.length_map]; omega)))) (congrArg iA (by omega))) ?_
 refine Z1 (w0 rfl) rfl (Z3 rfl rfl) ?_
 refine Z4 ?_
 refine Z5 ?_
 refine Z5 ?_
 refine Z2 ?_
 refine Z1 (w0 rfl) rfl (Z0 rfl rfl) ?_
 refine Z1 (w0 rfl) rfl (Zb rfl rfl rfl rfl) ?_
 refine Z4 ?_
 refine Za rfl ?_ ?_
 ·intro hc
  refine Z5 ?_
  refine Z5 ?_
  refine Z2 ?_
  refine Z1 (w0 rfl) rfl (Z0 rfl rfl) ?_
  refine Z1 (w0 rfl) rfl (Zb rfl rfl rfl rfl) ?_
  refine Z4 ?_
  refine Za rfl ?_ ?_
  ·intro hc
   refine Z5 ?_
   refine Z2 ?_
   refine Z1 (w0 rfl) rfl (Z0 rfl rfl) ?_
   refine Z1 (w0 rfl) rfl (Z0 rfl rfl) ?_
   refine Zl [_, _] _ (w0 rfl) rfl rfl rfl rfl (Z1n (k := 1) (j := 0) rfl rfl) (Z7c q _ n l hn hN _ _ (by omega) (by omega)) (fun v2 hv2 => ?_)
   refine Z1 (w0 rfl) rfl (Z3 rfl rfl) ?_
   refine Z4 ?_
   refine Z5 ?_
   refine Z2 ?_
   refine Z1 (w0 rfl) rfl (Z0 rfl rfl) ?_
   refine Z1 (w0 rfl) rfl (Z0 rfl rfl) ?_
   refine Zl [_, _] _ (w0 rfl) rfl rfl rfl rfl (Z1n (k := 0) (j := 0) rfl rfl) (Z7c q _ n l hn hN _ _ (by omega) (by omega)) (fun v3 hv3 => ?_)
   refine Z1 (w0 rfl) rfl (Z3 rfl rfl) ?_
   refine Z4 ?_
   refine Z2 ?_
   refine Z1 (w0 rfl) rfl (Z0 rfl rfl) ?_
   refine Z1 (w0 rfl) rfl (Z0 rfl rfl) ?_
   refine Zl [_, _] _ (w0 rfl) rfl rfl rfl rfl (Z1n (k := 0) (j := 0) rfl rfl) (Z7c q _ n l hn hN _ _ (by omega) (by omega)) (fun v4 hv4 => ?_)
   refine Z1 (w0 rfl) rfl (Z3 rfl rfl) ?_
   refine Z4 ?_
   refine Z2 ?_
   refine Z1 (w0 rfl) rfl (Z0 rfl rfl) ?_
   refine Z1 (w0 rfl) rfl (Z0 rfl rfl) ?_
   refine Z1 (w0 rfl) rfl (Z0 rfl rfl) ?_
   refine Z1 (w0 rfl) rfl (Z0 rfl rfl) ?_
   refine Zl [_, _] _ (w0 rfl) rfl rfl rfl rfl (Z1n (k := 0) (j := 0) rfl rfl) (Z7d q _ n l hn hN _ _ _ _ (by omega) (by omega) (by omega)) (fun v5 hv5 => ?_)
   refine Z1 (w0 rfl) rfl (Z3 rfl rfl) ?_
   refine Z4 ?_
   refine Z5 ?_
   refine Z2 ?_
   refine Z00 1 (w0 rfl) rfl rfl rfl rfl rfl Zo ?_
   refine Z4 ?_
   refine Zm ?_
   refine Z5 ?_
   refine Z2 ?_
   refine Z1 (w0 rfl) rfl (Zb rfl rfl rfl rfl) ?_
   refine Z1 (w0 rfl) rfl (Z3 rfl rfl) ?_
   refine Z4 ?_
   refine Za rfl ?_ ?_
   ·intro hc
    refine Z5 ?_
    refine Z2 ?_
    refine Z1 (w0 rfl) rfl (Z0 rfl rfl) ?_
    refine Z1 (w0 rfl) rfl (Z3 rfl rfl) ?_
    refine Z1 (w0 rfl) rfl (Z3 rfl rfl) ?_
    refine Z4 ?_
    refine Zs ?_
    exact Zr rfl (Zf rfl (Zf rfl Ze)) (.cons_cons _ (.cons _ .slnil)) (gp (v5.1, 1) ⟨(by (try simp only) <;> omega), (by (try simp only) <;> omega)⟩ rfl rfl)
   ·intro hc
    refine Z5 ?_
    refine Z2 ?_
    refine Z1 (w0 rfl) rfl (Zb rfl rfl rfl rfl) ?_
    refine Z1 (w0 rfl) rfl (Z3 rfl rfl) ?_
    refine Z4 ?_
    refine Za rfl ?_ ?_
    ·intro hc
     refine Z5 ?_
     refine Z2 ?_
     refine Z1 (w0 rfl) rfl (Z0 rfl rfl) ?_
     refine Z1 (w0 rfl) rfl (Z3 rfl rfl) ?_
     refine Z1 (w0 rfl) rfl (Z3 rfl rfl) ?_
     refine Z4 ?_
     refine Zs ?_
     exact Zr rfl (Zf rfl (Zf rfl Ze)) (.cons_cons _ (.cons _ .slnil)) (gp (v5.1, 2) ⟨(by (try simp only) <;> omega), (by (try simp only) <;> omega)⟩ rfl rfl)
    ·intro hc
     refine Z5 ?_
     refine Z2 ?_
     refine Z1 (w0 rfl) rfl (Z0 rfl rfl) ?_
     refine Z1 (w0 rfl) rfl (Z3 rfl rfl) ?_
     refine Z1 (w0 rfl) rfl (Z3 rfl rfl) ?_
     refine Z4 ?_
     refine Zs ?_
     exact Zr rfl (Zf rfl (Zf rfl Ze)) (.cons_cons _ (.cons _ .slnil)) (gp (v5.1, 0) ⟨(by (try simp only) <;> omega), (by (try simp only) <;> omega)⟩ rfl rfl)
  ·intro hc
   refine Zh ?_
   refine Z2 ?_
   refine Z1 (w0 rfl) rfl (Z0 rfl rfl) ?_
   refine Z1 (w0 rfl) rfl (Z0 rfl rfl) ?_
   refine Z1 (w0 rfl) rfl (Z0 rfl rfl) ?_
   refine Z1 (w0 rfl) rfl (Z0 rfl rfl) ?_
   refine Zl [_, _] _ (w0 rfl) rfl rfl rfl rfl (Z1n (k := 1) (j := 0) rfl rfl) (Z7d q _ n l hn hN _ _ _ _ (by omega) (by omega) (by omega)) (fun v6 hv6 => ?_)
   refine Z1 (w0 rfl) rfl (Z3 rfl rfl) ?_
   refine Z4 ?_
   refine Z5 ?_
   refine Z2 ?_
   refine Z00 1 (w0 rfl) rfl rfl rfl rfl rfl Zo ?_
   refine Z4 ?_
   refine Zm ?_
   refine Z5 ?_
   refine Z2 ?_
   refine Z1 (w0 rfl) rfl (Zb rfl rfl rfl rfl) ?_
   refine Z1 (w0 rfl) rfl (Z3 rfl rfl) ?_
   refine Z4 ?_
   refine Za rfl ?_ ?_
   ·intro hc
    refine Z5 ?_
    refine Z2 ?_
    refine Z1 (w0 rfl) rfl (Z0 rfl rfl) ?_
    refine Z1 (w0 rfl) rfl (Z3 rfl rfl) ?_
    refine Z1 (w0 rfl) rfl (Z3 rfl rfl) ?_
    refine Z4 ?_
    refine Zs ?_
    exact Zr rfl (Zf rfl (Zf rfl Ze)) (.cons_cons _ (.cons _ .slnil)) (gp (v6.1, 1) ⟨(by (try simp only) <;> omega), (by (try simp only) <;> omega)⟩ rfl rfl)
   ·intro hc
    refine Z5 ?_
    refine Z2 ?_
    refine Z1 (w0 rfl) rfl (Zb rfl rfl rfl rfl) ?_
    refine Z1 (w0 rfl) rfl (Z3 rfl rfl) ?_
    refine Z4 ?_
    refine Za rfl ?_ ?_
    ·intro hc
     refine Z5 ?_
     refine Z2 ?_
     refine Z1 (w0 rfl) rfl (Z0 rfl rfl) ?_
     refine Z1 (w0 rfl) rfl (Z3 rfl rfl) ?_
     refine Z1 (w0 rfl) rfl (Z3 rfl rfl) ?_
     refine Z4 ?_
     refine Zs ?_
     exact Zr rfl (Zf rfl (Zf rfl Ze)) (.cons_cons _ (.cons _ .slnil)) (gp (v6.1, 2) ⟨(by (try simp only) <;> omega), (by (try simp only) <;> omega)⟩ rfl rfl)
    ·intro hc
     refine Z5 ?_
     refine Z2 ?_
     refine Z1 (w0 rfl) rfl (Z0 rfl rfl) ?_
     refine Z1 (w0 rfl) rfl (Z3 rfl rfl) ?_
     refine Z1 (w0 rfl) rfl (Z3 rfl rfl) ?_
     refine Z4 ?_
     refine Zs ?_
     exact Zr rfl (Zf rfl (Zf rfl Ze)) (.cons_cons _ (.cons _ .slnil)) (gp (v6.1, 0) ⟨(by (try simp only) <;> omega), (by (try simp only) <;> omega)⟩ rfl rfl)
 ·intro hc
  exfalso; simp at hc; omega
theorem Z3x (q n : Nat) (l : List Str) (hn : l.length = n) (hN : n ≤ 140737488355328) (a b : Nat) (ha : a < b) (hb : b ≤ n) (hbd : Bd ltS a b l) : ACalls Try.prog 76 [.own q 1 0 n, iA a, iA b] [(q, .rows 9 1 (l.map fun x => [sA x]))] (GP (fun r : List Str × Bool => bA r.2) (fun r => [(q, .rows 9 1 (r.1.map fun x => [sA x]))]) (fun r => Sw a b l r.1 ∧ (r.2 = true → SAdj ltS a b r.1))) := by
 refine Zj (n := 133) Try.func76 rfl (by decide +kernel) rfl rfl ?_
 refine Z5 ?_
 refine Z2 ?_
 refine Z1 (w0 rfl) rfl (Z3 rfl rfl) ?_
 refine Z4 ?_
 refine Z5 ?_
 refine Z2 ?_
 refine Z1 (w0 rfl) rfl (Z0 rfl rfl) ?_
 refine Z1 (w0 rfl) rfl (Z7 rfl rfl rfl (Zd (by first | omega | (simp only [List.length_map]; omega)))) ?_
 refine Z1 (w0 rfl) rfl (Z3 rfl rfl) ?_
 refine Z4 ?_
 refine Z5 ?_
 refine Z5 ?_
 refine Z2 ?_
 refine Z1 (w0 rfl) rfl (Z3 rfl rfl) ?_
 refine Z4 ?_
 refine Zm ?_
 refine Z06 (α := List Str × Nat × Nat) (fun x => ⟨[(8, iA x.2.2), (7, iA x.2.1), (0, .own q 1 0 n), (1, iA a), (2, iA b)], [(q, .rows 9 1 (x.1.map fun x => [sA x]))], [], 133⟩) (fun x => Sw a b l x.1 ∧ a + 1 ≤ x.2.1 ∧ x.2.1 ≤ b ∧ x.2.2 ≤ 5 ∧ SAdj ltS a x.2.1 x.1) (fun x => 5 - x.2.2) (l, a + 1, 0) ⟨.refl, (by (try simp only) <;> omega), (by (try simp only) <;> omega), (by (try simp only) <;> omega), SAdj.refl1 (by (try simp only) <;> omega)⟩ ?_ ?_
 ·exact Zc [0] ⟨rfl, rfl, rfl, rfl, rfl, trivial⟩ rfl (by decide) rfl rfl
 rintro x hJ
 have hm := hJ.1.len
 refine Z5 ?_
 refine Z5 ?_
 refine Z2 ?_
 refine Z1 (w0 rfl) rfl (Z0 rfl rfl) ?_
 refine Z1 (w0 rfl) rfl (Zb rfl rfl rfl rfl) ?_
 refine Z4 ?_
 refine Za rfl ?_ ?_
 ·intro hc
  have hx5 : x.2.2 < 5 := by simp at hc; omega
  refine Zh ?_
  refine Z5 ?_
  refine Zm ?_
  refine Z5 ?_
  refine Zm ?_
  refine Z06 (α := Nat) (fun u => ⟨[(7, iA u), (8, iA x.2.2), (0, .own q 1 0 n), (1, iA a), (2, iA b)], [(q, .rows 9 1 (x.1.map fun x => [sA x]))], [], 133⟩) (fun u => x.2.1 ≤ u ∧ u ≤ b ∧ SAdj ltS a u x.1) (fun u => b - u) x.2.1 ⟨Nat.le_refl _, hJ.2.2.1, hJ.2.2.2.2⟩ ?_ ?_
  ·exact Zc [0] ⟨rfl, rfl, rfl, rfl, rfl, trivial⟩ rfl (by decide) rfl rfl
  rintro u hJ1
  refine Z5 ?_
  refine Z5 ?_
  refine Z0i [0, 0, 3, 7, 15, 15, 63, 127, 15, 15, 527, 1807, 3855, 8191, 16383, 32767] 16 rfl (by kernel_rfl) ?_
  refine Z9 (w0 rfl) rfl (Z0 rfl rfl) ?_
  refine Z9 (w0 rfl) rfl (Z0 rfl rfl) ?_
  refine Z9 (w0 rfl) rfl (Zb rfl rfl rfl rfl) ?_
  refine Z9 (w0 rfl) rfl (Z0 rfl rfl) ?_
  refine Zi (wT rfl rfl rfl rfl) rfl (fun hg => (Z0 rfl rfl)) ?_
  refine Zi (wT rfl rfl rfl rfl) rfl (fun hg => (Z0 rfl rfl)) ?_
  refine Zi (wT rfl rfl rfl rfl) rfl (fun hg => (Z6 u rfl (Z05 hg rfl) (Z05 hg rfl) (by (try simp at hg) <;> first | omega | (simp only [List.length_map]; omega) | (simp only [List.length_map, List.length_drop]; omega)) (by (try simp at hg) <;> first | omega | (simp only [List.length_map]; omega) | (simp only [List.length_map, List.length_drop]; omega)) (by omega))) ?_
  refine Zt 0 (wT rfl rfl rfl rfl) rfl rfl (fun hg => (Z05 hg rfl)) rfl (fun hg => by (try simp at hg) <;> (first | assumption | omega | (simp only [List.length_drop]; omega))) (fun _ => Zo) ?_
  refine Zi (wT rfl rfl rfl rfl) rfl (fun hg => (Z0 rfl rfl)) ?_
  refine Zi (wT rfl rfl rfl rfl) rfl (fun hg => (Z0 rfl rfl)) ?_
  refine Zi (wT rfl rfl rfl rfl) rfl (fun hg => (Z7 rfl (Z05 hg rfl) rfl (Zg (by first | omega | (simp only [List.length_map]; omega))))) ?_
  refine Zi (wT rfl rfl rfl rfl) rfl (fun hg => (Z6 (u - 1) rfl (Z05 hg rfl) (Z05 hg rfl) (by (try simp at hg) <;> first | omega | (simp only [List.length_map]; omega) | (simp only [List.length_map, List.length_drop]; omega)) (by (try simp at hg) <;> first | omega | (simp only [List.length_map]; omega) | (simp only [List.length_map, List.length_drop]; omega)) (by omega))) ?_
  refine Zt 0 (wT rfl rfl rfl rfl) rfl rfl (fun hg => (Z05 hg rfl)) rfl (fun hg => by (try simp at hg) <;> (first | assumption | omega | (simp only [List.length_drop]; omega))) (fun _ => Zo) ?_
  refine Zi (wT rfl rfl rfl rfl) rfl (fun hg => (Zp [] rfl rfl (Zn (Z05 hg rfl) (Zn (Z05 hg rfl) Z0e)) (Z11 _ _) List.nodup_nil)) ?_
  refine Zi (wT rfl rfl rfl rfl) rfl (fun hg => (Z0j rfl (Z05 hg rfl))) ?_
  refine Z9 (w0 rfl) rfl (Z0h rfl rfl rfl (fun h => h)) ?_
  refine .done ?_
  refine Z4 ?_
  refine Za rfl ?_ ?_
  ·intro hc
   have hle : u < b := by have := Z78 hc; simpa using this
   have hv := Z6k hc
   refine Zh ?_
   refine Zm ?_
   refine Z2 ?_
   refine Z1 (w0 rfl) rfl (Z0 rfl rfl) ?_
   refine Z1 (w0 rfl) rfl (Z7 rfl rfl rfl (Zd (by first | omega | (simp only [List.length_map]; omega)))) ?_
   refine Z1 (w0 rfl) rfl (Z3 rfl rfl) ?_
   refine Z4 ?_
   refine ⟨(u + 1), ⟨by omega, by omega, hJ1.2.2.succ (Z6j hv)⟩, (by omega), ?_⟩
   exact Zc [0] ⟨rfl, rfl, rfl, rfl, rfl, trivial⟩ rfl (by decide) rfl rfl
  ·intro hc
   refine Zy ?_
   refine Z5 ?_
   refine Z5 ?_
   refine Z2 ?_
   refine Z1 (w0 rfl) rfl (Z0 rfl rfl) ?_
   refine Z1 (w0 rfl) rfl (Z0 rfl rfl) ?_
   refine Z1 (w0 rfl) rfl (Zb rfl rfl rfl rfl) ?_
   refine Z4 ?_
   refine Za rfl ?_ ?_
   ·intro hc
    have heq : u = b := by simp at hc; omega
    refine Z5 ?_
    refine Z2 ?_
    refine Z1 (w0 rfl) rfl (Z3 rfl rfl) ?_
    refine Z4 ?_
    refine Zs ?_
    exact Zr rfl (Zf rfl Ze) (.cons_cons _ .slnil) (gp (x.1, true) ⟨hJ.1, fun _ => heq ▸ hJ1.2.2⟩ rfl rfl)
   ·intro hc
    have hne : u < b := by simp at hc; omega
    refine Zh ?_
    refine Z5 ?_
    refine Z5 ?_
    refine Z2 ?_
    refine Z1 (w0 rfl) rfl (Z0 rfl rfl) ?_
    refine Z1 (w0 rfl) rfl (Z0 rfl rfl) ?_
    refine Z1 (w0 rfl) rfl (Z7 rfl rfl rfl (Zg (by first | omega | (simp only [List.length_map]; omega)))) ?_
    refine Z1 (w0 rfl) rfl (Zb rfl rfl rfl rfl) ?_
    refine Z4 ?_
    refine Za rfl ?_ ?_
    ·intro hc
     refine Z5 ?_
     refine Z2 ?_
     refine Z1 (w0 rfl) rfl (Z3 rfl rfl) ?_
     refine Z4 ?_
     refine Zs ?_
     exact Zr rfl (Zf rfl Ze) (.cons_cons _ .slnil) (gp (x.1, false) ⟨hJ.1, nofun⟩ rfl rfl)
    ·intro hc
     refine Zh ?_
     refine Z5 ?_
     refine Z0m [0, 0, 0, 0, 8, 0, 0, 64, 224, 480, 0, 0, 3072, 7168, 16355, 32739, 65535, 131071] [15, 17] [9, 13] rfl (by kernel_rfl) ?_
     refine Z8 (w0 rfl) rfl (Z0 rfl rfl) rfl ?_
     refine Z8 (w0 rfl) rfl (Z0 rfl rfl) rfl ?_
     refine Z8 (w0 rfl) rfl (Z0 rfl rfl) rfl ?_
     refine Z8 (w0 rfl) rfl (Z0 rfl rfl) rfl ?_
     refine Z8 (w0 rfl) rfl (Z7 rfl rfl rfl (Zg (by first | omega | (simp only [List.length_map]; omega)))) rfl ?_
     refine Z8 (w0 rfl) rfl (Z0 rfl rfl) rfl ?_
     refine Z8 (w0 rfl) rfl (Z0 rfl rfl) rfl ?_
     refine Z8 (w0 rfl) rfl (Z7 rfl rfl rfl (Zg (by first | omega | (simp only [List.length_map]; omega)))) rfl ?_
     refine Z8 (w0 rfl) rfl (Z6 (u - 1) rfl rfl rfl (by first | omega | (simp only [List.length_map]; omega) | (simp only [List.length_map, List.length_drop]; omega)) (by first | omega | (simp only [List.length_map]; omega) | (simp only [List.length_map, List.length_drop]; omega)) (by omega)) rfl ?_
     refine Zk 0 (w0 rfl) rfl rfl rfl rfl (Z02 (by first | assumption | omega | (simp only [List.length_drop]; omega))) Zo rfl rfl ?_
     refine Z8 (w0 rfl) rfl (Z0 rfl rfl) rfl ?_
     refine Z8 (w0 rfl) rfl (Z0 rfl rfl) rfl ?_
     refine Z8 (w0 rfl) rfl (Z6 u rfl rfl rfl (by first | omega | (simp only [List.length_map]; omega) | (simp only [List.length_map, List.length_drop]; omega)) (by first | omega | (simp only [List.length_map]; omega) | (simp only [List.length_map, List.length_drop]; omega)) (by omega)) rfl ?_
     refine Zk 0 (w0 rfl) rfl rfl rfl rfl (Z02 (by first | assumption | omega | (simp only [List.length_drop]; omega))) Zo rfl rfl ?_
     refine Z8 (w0 rfl) rfl (Z6 u rfl rfl rfl (by first | omega | (simp only [List.length_map]; omega) | (simp only [List.length_map, List.length_drop]; omega)) (by first | omega | (simp only [List.length_map]; omega) | (simp only [List.length_map, List.length_drop]; omega)) (by omega)) rfl ?_
     refine Zq 0 rfl (w0 rfl) rfl rfl rfl rfl (by first | omega | (simp; omega)) rfl rfl ?_
     refine Z8 (w0 rfl) rfl (Z6 (u - 1) rfl rfl rfl (by first | omega | (simp only [List.length_map]; omega) | (simp only [List.length_map, List.length_drop]; omega)) (by first | omega | (simp only [List.length_map]; omega) | (simp only [List.length_map, List.length_drop]; omega)) (by omega)) rfl ?_
     refine Zq 0 rfl (w0 rfl) rfl rfl rfl rfl (by first | omega | (simp; omega)) rfl rfl ?_
     refine .done ?_
     refine Z5 ?_
     refine Z5 ?_
     refine Z2 ?_
     refine Z1 (w0 rfl) rfl (Z0 rfl rfl) ?_
     refine Z1 (w0 rfl) rfl (Z0 rfl rfl) ?_
     refine Z1 (w0 rfl) rfl (Z7 rfl rfl rfl (Zg (by first | omega | (simp only [List.length_map]; omega)))) ?_
     refine Z1 (w0 rfl) rfl (Zb rfl rfl rfl rfl) ?_
     refine Z4 ?_
     refine Za rfl ?_ ?_
     ·intro hc
      have hsw : Sw a b l (swp x.1 u (u - 1)) := .step _ _ hJ.1 (by omega) (by omega) (by omega)
      have hu2 : a + 2 ≤ u := by simp at hc; omega
      have hs0 : SAdj ltS a (u - 1) (swp x.1 u (u - 1)) := (hJ1.2.2.le (by omega)).swp_ge (by omega) (by omega) (by omega) (by omega)
      refine Z5 ?_
      refine Z2 ?_
      refine Z1 (w0 rfl) rfl (Z0 rfl rfl) ?_
      refine Z1 (w0 rfl) rfl (Zz (y := iA (u - 1 : Nat)) (Z7 rfl rfl rfl (Zg (by first | omega | (simp only [List.length_map]; omega)))) (congrArg iA (by omega))) ?_
      refine Z1 (w0 rfl) rfl (Z3 rfl rfl) ?_
      refine Z4 ?_
      refine Zm ?_
      refine Z06 (α := List Str × Nat) (fun y => ⟨[(9, iA y.2), (7, iA u), (8, iA x.2.2), (0, .own q 1 0 n), (1, iA a), (2, iA b)], [(q, .rows 9 1 (y.1.map fun x => [sA x]))], [], 133⟩) (fun y => Sw a b l y.1 ∧ a ≤ y.2 ∧ y.2 ≤ u - 1 ∧ Ins ltS a y.2 (u - 1) y.1) (fun y => y.2) ((swp x.1 u (u - 1)), u - 1) ⟨hsw, (by (try simp only) <;> omega), (by (try simp only) <;> omega), Ins.start hs0⟩ ?_ ?_
      ·exact Zc [0] ⟨rfl, rfl, rfl, rfl, rfl, rfl, trivial⟩ rfl (by decide) rfl rfl
      rintro y hJ3
      have hm3 := hJ3.1.len
      refine Z5 ?_
      refine Z5 ?_
      refine Z2 ?_
      refine Z1 (w0 rfl) rfl (Z0 rfl rfl) ?_
      refine Z1 (w0 rfl) rfl (Zb rfl rfl rfl rfl) ?_
      refine Z4 ?_
      refine Za rfl ?_ ?_
      ·intro hc
       have hy1 : 1 ≤ y.2 := by simp at hc; omega
       refine Zh ?_
       refine Z5 ?_
       refine Zm ?_
       refine Z5 ?_
       refine Z5 ?_
       refine Z1l 11 rfl (by kernel_rfl) ?_
       refine Z9 (w0 rfl) rfl (Z0 rfl rfl) ?_
       refine Z9 (w0 rfl) rfl (Z0 rfl rfl) ?_
       refine Z9 (w0 rfl) rfl (Z6 y.2 rfl rfl rfl (by first | omega | (simp only [List.length_map]; omega) | (simp only [List.length_map, List.length_drop]; omega)) (by first | omega | (simp only [List.length_map]; omega) | (simp only [List.length_map, List.length_drop]; omega)) (by omega)) ?_
       refine Zw 0 (w0 rfl) rfl rfl rfl rfl (Z02 (by first | assumption | omega | (simp only [List.length_drop]; omega))) Zo ?_
       refine Z9 (w0 rfl) rfl (Z0 rfl rfl) ?_
       refine Z9 (w0 rfl) rfl (Z0 rfl rfl) ?_
       refine Z9 (w0 rfl) rfl (Z7 rfl rfl rfl (Zg (by first | omega | (simp only [List.length_map]; omega)))) ?_
       refine Z9 (w0 rfl) rfl (Z6 (y.2 - 1) rfl rfl rfl (by first | omega | (simp only [List.length_map]; omega) | (simp only [List.length_map, List.length_drop]; omega)) (by first | omega | (simp only [List.length_map]; omega) | (simp only [List.length_map, List.length_drop]; omega)) (by omega)) ?_
       refine Zw 0 (w0 rfl) rfl rfl rfl rfl (Z02 (by first | assumption | omega | (simp only [List.length_drop]; omega))) Zo ?_
       refine Z9 (w0 rfl) rfl (Zp [] rfl rfl rfl (Z11 _ _) List.nodup_nil) ?_
       refine Z9 (w0 rfl) rfl (Z0j rfl rfl) ?_
       refine .done ?_
       refine Z4 ?_
       refine Za rfl ?_ ?_
       ·intro hc
        have hsw := hJ3.1
        have hsa : SAdj ltS a u y.1 := (hJ3.2.2.2.done (.inr (Z6j hc))).le (by omega)
        refine Zy ?_
        refine Z5 ?_
        refine Z2 ?_
        refine Z1 (w0 rfl) rfl (Z0 rfl rfl) ?_
        refine Z1 (w0 rfl) rfl (Z0 rfl rfl) ?_
        refine Z1 (w0 rfl) rfl (Z7 rfl rfl rfl (Zg (by first | omega | (simp only [List.length_map]; omega)))) ?_
        refine Z1 (w0 rfl) rfl (Zb rfl rfl rfl rfl) ?_
        refine Z4 ?_
        refine Za rfl ?_ ?_
        ·intro hc
         have hu3 : u + 2 ≤ b := by simp at hc; omega
         refine Z5 ?_
         refine Z2 ?_
         refine Z1 (w0 rfl) rfl (Z0 rfl rfl) ?_
         refine Z1 (w0 rfl) rfl (Z7 rfl rfl rfl (Zd (by first | omega | (simp only [List.length_map]; omega)))) ?_
         refine Z1 (w0 rfl) rfl (Z3 rfl rfl) ?_
         refine Z4 ?_
         refine Zm ?_
         refine Z06 (α := List Str × Nat) (fun w => ⟨[(10, iA w.2), (7, iA u), (8, iA x.2.2), (0, .own q 1 0 n), (1, iA a), (2, iA b)], [(q, .rows 9 1 (w.1.map fun x => [sA x]))], [], 133⟩) (fun w => Sw a b l w.1 ∧ u + 1 ≤ w.2 ∧ w.2 ≤ b ∧ SAdj ltS a u w.1) (fun w => b - w.2) (y.1, u + 1) ⟨hsw, (by (try simp only) <;> omega), (by (try simp only) <;> omega), hsa⟩ ?_ ?_
         ·exact Zc [0] ⟨rfl, rfl, rfl, rfl, rfl, rfl, trivial⟩ rfl (by decide) rfl rfl
         rintro w hJ4
         have hm4 := hJ4.1.len
         refine Z5 ?_
         refine Z5 ?_
         refine Z2 ?_
         refine Z1 (w0 rfl) rfl (Z0 rfl rfl) ?_
         refine Z1 (w0 rfl) rfl (Z0 rfl rfl) ?_
         refine Z1 (w0 rfl) rfl (Zb rfl rfl rfl rfl) ?_
         refine Z4 ?_
         refine Za rfl ?_ ?_
         ·intro hc
          have hw1 : w.2 < b := by simpa using hc
          refine Zh ?_
          refine Z5 ?_
          refine Zm ?_
          refine Z5 ?_
          refine Z5 ?_
          refine Z1l 11 rfl (by kernel_rfl) ?_
          refine Z9 (w0 rfl) rfl (Z0 rfl rfl) ?_
          refine Z9 (w0 rfl) rfl (Z0 rfl rfl) ?_
          refine Z9 (w0 rfl) rfl (Z6 w.2 rfl rfl rfl (by first | omega | (simp only [List.length_map]; omega) | (simp only [List.length_map, List.length_drop]; omega)) (by first | omega | (simp only [List.length_map]; omega) | (simp only [List.length_map, List.length_drop]; omega)) (by omega)) ?_
          refine Zw 0 (w0 rfl) rfl rfl rfl rfl (Z02 (by first | assumption | omega | (simp only [List.length_drop]; omega))) Zo ?_
          refine Z9 (w0 rfl) rfl (Z0 rfl rfl) ?_
          refine Z9 (w0 rfl) rfl (Z0 rfl rfl) ?_
          refine Z9 (w0 rfl) rfl (Z7 rfl rfl rfl (Zg (by first | omega | (simp only [List.length_map]; omega)))) ?_
          refine Z9 (w0 rfl) rfl (Z6 (w.2 - 1) rfl rfl rfl (by first | omega | (simp only [List.length_map]; omega) | (simp only [List.length_map, List.length_drop]; omega)) (by first | omega | (simp only [List.length_map]; omega) | (simp only [List.length_map, List.length_drop]; omega)) (by omega)) ?_
          refine Zw 0 (w0 rfl) rfl rfl rfl rfl (Z02 (by first | assumption | omega | (simp only [List.length_drop]; omega))) Zo ?_
          refine Z9 (w0 rfl) rfl (Zp [] rfl rfl rfl (Z11 _ _) List.nodup_nil) ?_
          refine Z9 (w0 rfl) rfl (Z0j rfl rfl) ?_
          refine .done ?_
          refine Z4 ?_
          refine Za rfl ?_ ?_
          ·intro hc
           have hsw := hJ4.1
           have hsa := hJ4.2.2.2
           refine Zy ?_
           refine Z2 ?_
           refine Z1 (w0 rfl) rfl (Z0 rfl rfl) ?_
           refine Z1 (w0 rfl) rfl (Z7 rfl rfl rfl (Zd (by first | omega | (simp only [List.length_map]; omega)))) ?_
           refine Z1 (w0 rfl) rfl (Z3 rfl rfl) ?_
           refine Z4 ?_
           refine ⟨(w.1, u, x.2.2 + 1), ⟨hsw, (by (try simp only) <;> omega), (by (try simp only) <;> omega), (by (try simp only) <;> omega), hsa⟩, (by (try simp only) <;> omega), ?_⟩
           exact Zc [0] ⟨rfl, rfl, rfl, rfl, rfl, trivial⟩ rfl (by decide) rfl rfl
          ·intro hc
           refine Zh ?_
           refine Z0m [0, 0, 0, 0, 8, 0, 0, 64, 224, 480, 0, 0, 3072, 7168, 16355, 32739, 65535, 131071] [15, 17] [9, 13] rfl (by kernel_rfl) ?_
           refine Z8 (w0 rfl) rfl (Z0 rfl rfl) rfl ?_
           refine Z8 (w0 rfl) rfl (Z0 rfl rfl) rfl ?_
           refine Z8 (w0 rfl) rfl (Z0 rfl rfl) rfl ?_
           refine Z8 (w0 rfl) rfl (Z0 rfl rfl) rfl ?_
           refine Z8 (w0 rfl) rfl (Z7 rfl rfl rfl (Zg (by first | omega | (simp only [List.length_map]; omega)))) rfl ?_
           refine Z8 (w0 rfl) rfl (Z0 rfl rfl) rfl ?_
           refine Z8 (w0 rfl) rfl (Z0 rfl rfl) rfl ?_
           refine Z8 (w0 rfl) rfl (Z7 rfl rfl rfl (Zg (by first | omega | (simp only [List.length_map]; omega)))) rfl ?_
           refine Z8 (w0 rfl) rfl (Z6 (w.2 - 1) rfl rfl rfl (by first | omega | (simp only [List.length_map]; omega) | (simp only [List.length_map, List.length_drop]; omega)) (by first | omega | (simp only [List.length_map]; omega) | (simp only [List.length_map, List.length_drop]; omega)) (by omega)) rfl ?_
           refine Zk 0 (w0 rfl) rfl rfl rfl rfl (Z02 (by first | assumption | omega | (simp only [List.length_drop]; omega))) Zo rfl rfl ?_
           refine Z8 (w0 rfl) rfl (Z0 rfl rfl) rfl ?_
           refine Z8 (w0 rfl) rfl (Z0 rfl rfl) rfl ?_
           refine Z8 (w0 rfl) rfl (Z6 w.2 rfl rfl rfl (by first | omega | (simp only [List.length_map]; omega) | (simp only [List.length_map, List.length_drop]; omega)) (by first | omega | (simp only [List.length_map]; omega) | (simp only [List.length_map, List.length_drop]; omega)) (by omega)) rfl ?_
           refine Zk 0 (w0 rfl) rfl rfl rfl rfl (Z02 (by first | assumption | omega | (simp only [List.length_drop]; omega))) Zo rfl rfl ?_
           refine Z8 (w0 rfl) rfl (Z6 w.2 rfl rfl rfl (by first | omega | (simp only [List.length_map]; omega) | (simp only [List.length_map, List.length_drop]; omega)) (by first | omega | (simp only [List.length_map]; omega) | (simp only [List.length_map, List.length_drop]; omega)) (by omega)) rfl ?_
           refine Zq 0 rfl (w0 rfl) rfl rfl rfl rfl (by first | omega | (simp; omega)) rfl rfl ?_
           refine Z8 (w0 rfl) rfl (Z6 (w.2 - 1) rfl rfl rfl (by first | omega | (simp only [List.length_map]; omega) | (simp only [List.length_map, List.length_drop]; omega)) (by first | omega | (simp only [List.length_map]; omega) | (simp only [List.length_map, List.length_drop]; omega)) (by omega)) rfl ?_
           refine Zq 0 rfl (w0 rfl) rfl rfl rfl rfl (by first | omega | (simp; omega)) rfl rfl ?_
           refine .done ?_
           refine Z2 ?_
           refine Z1 (w0 rfl) rfl (Z0 rfl rfl) ?_
           refine Z1 (w0 rfl) rfl (Z7 rfl rfl rfl (Zd (by first | omega | (simp only [List.length_map]; omega)))) ?_
           refine Z1 (w0 rfl) rfl (Z3 rfl rfl) ?_
           refine Z4 ?_
           refine ⟨(swp w.1 w.2 (w.2 - 1), w.2 + 1), ⟨.step _ _ hJ4.1 (by (try simp only) <;> omega) (by (try simp only) <;> omega) (by (try simp only) <;> omega), (by (try simp only) <;> omega), (by (try simp only) <;> omega), hJ4.2.2.2.swp_ge (by (try simp only) <;> omega) (by (try simp only) <;> omega) (by (try simp only) <;> omega) (by (try simp only) <;> omega)⟩, (by (try simp only) <;> omega), ?_⟩
           exact Zc [0] ⟨rfl, rfl, rfl, rfl, rfl, rfl, trivial⟩ rfl (by decide) rfl rfl
         ·intro hc
          have hsw := hJ4.1
          have hsa := hJ4.2.2.2
          refine Zy ?_
          refine Z2 ?_
          refine Z1 (w0 rfl) rfl (Z0 rfl rfl) ?_
          refine Z1 (w0 rfl) rfl (Z7 rfl rfl rfl (Zd (by first | omega | (simp only [List.length_map]; omega)))) ?_
          refine Z1 (w0 rfl) rfl (Z3 rfl rfl) ?_
          refine Z4 ?_
          refine ⟨(w.1, u, x.2.2 + 1), ⟨hsw, (by (try simp only) <;> omega), (by (try simp only) <;> omega), (by (try simp only) <;> omega), hsa⟩, (by (try simp only) <;> omega), ?_⟩
          exact Zc [0] ⟨rfl, rfl, rfl, rfl, rfl, trivial⟩ rfl (by decide) rfl rfl
        ·intro hc
         refine Zh ?_
         refine Z2 ?_
         refine Z1 (w0 rfl) rfl (Z0 rfl rfl) ?_
         refine Z1 (w0 rfl) rfl (Z7 rfl rfl rfl (Zd (by first | omega | (simp only [List.length_map]; omega)))) ?_
         refine Z1 (w0 rfl) rfl (Z3 rfl rfl) ?_
         refine Z4 ?_
         refine ⟨(y.1, u, x.2.2 + 1), ⟨hsw, (by (try simp only) <;> omega), (by (try simp only) <;> omega), (by (try simp only) <;> omega), hsa⟩, (by (try simp only) <;> omega), ?_⟩
         exact Zc [0] ⟨rfl, rfl, rfl, rfl, rfl, trivial⟩ rfl (by decide) rfl rfl
       ·intro hc
        have hlt := Z8w hc
        have hgt := (hbd.sw hJ3.1).gt (j := y.2) (by omega) (by omega) hy1 hlt
        refine Zh ?_
        refine Z0m [0, 0, 0, 0, 8, 0, 0, 64, 224, 480, 0, 0, 3072, 7168, 16355, 32739, 65535, 131071] [15, 17] [9, 13] rfl (by kernel_rfl) ?_
        refine Z8 (w0 rfl) rfl (Z0 rfl rfl) rfl ?_
        refine Z8 (w0 rfl) rfl (Z0 rfl rfl) rfl ?_
        refine Z8 (w0 rfl) rfl (Z0 rfl rfl) rfl ?_
        refine Z8 (w0 rfl) rfl (Z0 rfl rfl) rfl ?_
        refine Z8 (w0 rfl) rfl (Z7 rfl rfl rfl (Zg (by first | omega | (simp only [List.length_map]; omega)))) rfl ?_
        refine Z8 (w0 rfl) rfl (Z0 rfl rfl) rfl ?_
        refine Z8 (w0 rfl) rfl (Z0 rfl rfl) rfl ?_
        refine Z8 (w0 rfl) rfl (Z7 rfl rfl rfl (Zg (by first | omega | (simp only [List.length_map]; omega)))) rfl ?_
        refine Z8 (w0 rfl) rfl (Z6 (y.2 - 1) rfl rfl rfl (by first | omega | (simp only [List.length_map]; omega) | (simp only [List.length_map, List.length_drop]; omega)) (by first | omega | (simp only [List.length_map]; omega) | (simp only [List.length_map, List.length_drop]; omega)) (by omega)) rfl ?_
        refine Zk 0 (w0 rfl) rfl rfl rfl rfl (Z02 (by first | assumption | omega | (simp only [List.length_drop]; omega))) Zo rfl rfl ?_
        refine Z8 (w0 rfl) rfl (Z0 rfl rfl) rfl ?_
        refine Z8 (w0 rfl) rfl (Z0 rfl rfl) rfl ?_
        refine Z8 (w0 rfl) rfl (Z6 y.2 rfl rfl rfl (by first | omega | (simp only [List.length_map]; omega) | (simp only [List.length_map, List.length_drop]; omega)) (by first | omega | (simp only [List.length_map]; omega) | (simp only [List.length_map, List.length_drop]; omega)) (by omega)) rfl ?_
        refine Zk 0 (w0 rfl) rfl rfl rfl rfl (Z02 (by first | assumption | omega | (simp only [List.length_drop]; omega))) Zo rfl rfl ?_
        refine Z8 (w0 rfl) rfl (Z6 y.2 rfl rfl rfl (by first | omega | (simp only [List.length_map]; omega) | (simp only [List.length_map, List.length_drop]; omega)) (by first | omega | (simp only [List.length_map]; omega) | (simp only [List.length_map, List.length_drop]; omega)) (by omega)) rfl ?_
        refine Zq 0 rfl (w0 rfl) rfl rfl rfl rfl (by first | omega | (simp; omega)) rfl rfl ?_
        refine Z8 (w0 rfl) rfl (Z6 (y.2 - 1) rfl rfl rfl (by first | omega | (simp only [List.length_map]; omega) | (simp only [List.length_map, List.length_drop]; omega)) (by first | omega | (simp only [List.length_map]; omega) | (simp only [List.length_map, List.length_drop]; omega)) (by omega)) rfl ?_
        refine Zq 0 rfl (w0 rfl) rfl rfl rfl rfl (by first | omega | (simp; omega)) rfl rfl ?_
        refine .done ?_
        refine Z2 ?_
        refine Z1 (w0 rfl) rfl (Z0 rfl rfl) ?_
        refine Z1 (w0 rfl) rfl (Z7 rfl rfl rfl (Zg (by first | omega | (simp only [List.length_map]; omega)))) ?_
        refine Z1 (w0 rfl) rfl (Z3 rfl rfl) ?_
        refine Z4 ?_
        refine ⟨(swp y.1 y.2 (y.2 - 1), y.2 - 1), ⟨.step _ _ hJ3.1 (by (try simp only) <;> omega) (by (try simp only) <;> omega) (by (try simp only) <;> omega), (by (try simp only) <;> omega), (by (try simp only) <;> omega), hJ3.2.2.2.step ltS_ok hgt (by (try simp only) <;> omega) (by (try simp only) <;> omega) hlt⟩, (by (try simp only) <;> omega), ?_⟩
        exact Zc [0] ⟨(congrArg (fun n => some (iA n)) (by (try simp only) <;> omega)), rfl, rfl, rfl, rfl, rfl, trivial⟩ rfl (by decide) rfl rfl
      ·intro hc
       have hy0 : y.2 = 0 := by simp at hc; omega
       have hsw := hJ3.1
       have hsa : SAdj ltS a u y.1 := (hJ3.2.2.2.done (.inl (by omega))).le (by omega)
       refine Zy ?_
       refine Z5 ?_
       refine Z2 ?_
       refine Z1 (w0 rfl) rfl (Z0 rfl rfl) ?_
       refine Z1 (w0 rfl) rfl (Z0 rfl rfl) ?_
       refine Z1 (w0 rfl) rfl (Z7 rfl rfl rfl (Zg (by first | omega | (simp only [List.length_map]; omega)))) ?_
       refine Z1 (w0 rfl) rfl (Zb rfl rfl rfl rfl) ?_
       refine Z4 ?_
       refine Za rfl ?_ ?_
       ·intro hc
        have hu3 : u + 2 ≤ b := by simp at hc; omega
        refine Z5 ?_
        refine Z2 ?_
        refine Z1 (w0 rfl) rfl (Z0 rfl rfl) ?_
        refine Z1 (w0 rfl) rfl (Z7 rfl rfl rfl (Zd (by first | omega | (simp only [List.length_map]; omega)))) ?_
        refine Z1 (w0 rfl) rfl (Z3 rfl rfl) ?_
        refine Z4 ?_
        refine Zm ?_
        refine Z06 (α := List Str × Nat) (fun w => ⟨[(10, iA w.2), (7, iA u), (8, iA x.2.2), (0, .own q 1 0 n), (1, iA a), (2, iA b)], [(q, .rows 9 1 (w.1.map fun x => [sA x]))], [], 133⟩) (fun w => Sw a b l w.1 ∧ u + 1 ≤ w.2 ∧ w.2 ≤ b ∧ SAdj ltS a u w.1) (fun w => b - w.2) (y.1, u + 1) ⟨hsw, (by (try simp only) <;> omega), (by (try simp only) <;> omega), hsa⟩ ?_ ?_
        ·exact Zc [0] ⟨rfl, rfl, rfl, rfl, rfl, rfl, trivial⟩ rfl (by decide) rfl rfl
        rintro w hJ4
        have hm4 := hJ4.1.len
        refine Z5 ?_
        refine Z5 ?_
        refine Z2 ?_
        refine Z1 (w0 rfl) rfl (Z0 rfl rfl) ?_
        refine Z1 (w0 rfl) rfl (Z0 rfl rfl) ?_
        refine Z1 (w0 rfl) rfl (Zb rfl rfl rfl rfl) ?_
        refine Z4 ?_
        refine Za rfl ?_ ?_
        ·intro hc
         have hw1 : w.2 < b := by simpa using hc
         refine Zh ?_
         refine Z5 ?_
         refine Zm ?_
         refine Z5 ?_
         refine Z5 ?_
         refine Z1l 11 rfl (by kernel_rfl) ?_
         refine Z9 (w0 rfl) rfl (Z0 rfl rfl) ?_
         refine Z9 (w0 rfl) rfl (Z0 rfl rfl) ?_
         refine Z9 (w0 rfl) rfl (Z6 w.2 rfl rfl rfl (by first | omega | (simp only [List.length_map]; omega) | (simp only [List.length_map, List.length_drop]; omega)) (by first | omega | (simp only [List.length_map]; omega) | (simp only [List.length_map, List.length_drop]; omega)) (by omega)) ?_
         refine Zw 0 (w0 rfl) rfl rfl rfl rfl (Z02 (by first | assumption | omega | (simp only [List.length_drop]; omega))) Zo ?_
         refine Z9 (w0 rfl) rfl (Z0 rfl rfl) ?_
         refine Z9 (w0 rfl) rfl (Z0 rfl rfl) ?_
         refine Z9 (w0 rfl) rfl (Z7 rfl rfl rfl (Zg (by first | omega | (simp only [List.length_map]; omega)))) ?_
         refine Z9 (w0 rfl) rfl (Z6 (w.2 - 1) rfl rfl rfl (by first | omega | (simp only [List.length_map]; omega) | (simp only [List.length_map, List.length_drop]; omega)) (by first | omega | (simp only [List.length_map]; omega) | (simp only [List.length_map, List.length_drop]; omega)) (by omega)) ?_
         refine Zw 0 (w0 rfl) rfl rfl rfl rfl (Z02 (by first | assumption | omega | (simp only [List.length_drop]; omega))) Zo ?_
         refine Z9 (w0 rfl) rfl (Zp [] rfl rfl rfl (Z11 _ _) List.nodup_nil) ?_
         refine Z9 (w0 rfl) rfl (Z0j rfl rfl) ?_
         refine .done ?_
         refine Z4 ?_
         refine Za rfl ?_ ?_
         ·intro hc
          have hsw := hJ4.1
          have hsa := hJ4.2.2.2
          refine Zy ?_
          refine Z2 ?_
          refine Z1 (w0 rfl) rfl (Z0 rfl rfl) ?_
          refine Z1 (w0 rfl) rfl (Z7 rfl rfl rfl (Zd (by first | omega | (simp only [List.length_map]; omega)))) ?_
          refine Z1 (w0 rfl) rfl (Z3 rfl rfl) ?_
          refine Z4 ?_
          refine ⟨(w.1, u, x.2.2 + 1), ⟨hsw, (by (try simp only) <;> omega), (by (try simp only) <;> omega), (by (try simp only) <;> omega), hsa⟩, (by (try simp only) <;> omega), ?_⟩
          exact Zc [0] ⟨rfl, rfl, rfl, rfl, rfl, trivial⟩ rfl (by decide) rfl rfl
         ·intro hc
          refine Zh ?_
          refine Z0m [0, 0, 0, 0, 8, 0, 0, 64, 224, 480, 0, 0, 3072, 7168, 16355, 32739, 65535, 131071] [15, 17] [9, 13] rfl (by kernel_rfl) ?_
          refine Z8 (w0 rfl) rfl (Z0 rfl rfl) rfl ?_
          refine Z8 (w0 rfl) rfl (Z0 rfl rfl) rfl ?_
          refine Z8 (w0 rfl) rfl (Z0 rfl rfl) rfl ?_
          refine Z8 (w0 rfl) rfl (Z0 rfl rfl) rfl ?_
          refine Z8 (w0 rfl) rfl (Z7 rfl rfl rfl (Zg (by first | omega | (simp only [List.length_map]; omega)))) rfl ?_
          refine Z8 (w0 rfl) rfl (Z0 rfl rfl) rfl ?_
          refine Z8 (w0 rfl) rfl (Z0 rfl rfl) rfl ?_
          refine Z8 (w0 rfl) rfl (Z7 rfl rfl rfl (Zg (by first | omega | (simp only [List.length_map]; omega)))) rfl ?_
          refine Z8 (w0 rfl) rfl (Z6 (w.2 - 1) rfl rfl rfl (by first | omega | (simp only [List.length_map]; omega) | (simp only [List.length_map, List.length_drop]; omega)) (by first | omega | (simp only [List.length_map]; omega) | (simp only [List.length_map, List.length_drop]; omega)) (by omega)) rfl ?_
          refine Zk 0 (w0 rfl) rfl rfl rfl rfl (Z02 (by first | assumption | omega | (simp only [List.length_drop]; omega))) Zo rfl rfl ?_
          refine Z8 (w0 rfl) rfl (Z0 rfl rfl) rfl ?_
          refine Z8 (w0 rfl) rfl (Z0 rfl rfl) rfl ?_
          refine Z8 (w0 rfl) rfl (Z6 w.2 rfl rfl rfl (by first | omega | (simp only [List.length_map]; omega) | (simp only [List.length_map, List.length_drop]; omega)) (by first | omega | (simp only [List.length_map]; omega) | (simp only [List.length_map, List.length_drop]; omega)) (by omega)) rfl ?_
          refine Zk 0 (w0 rfl) rfl rfl rfl rfl (Z02 (by first | assumption | omega | (simp only [List.length_drop]; omega))) Zo rfl rfl ?_
          refine Z8 (w0 rfl) rfl (Z6 w.2 rfl rfl rfl (by first | omega | (simp only [List.length_map]; omega) | (simp only [List.length_map, List.length_drop]; omega)) (by first | omega | (simp only [List.length_map]; omega) | (simp only [List.length_map, List.length_drop]; omega)) (by omega)) rfl ?_
          refine Zq 0 rfl (w0 rfl) rfl rfl rfl rfl (by first | omega | (simp; omega)) rfl rfl ?_
          refine Z8 (w0 rfl) rfl (Z6 (w.2 - 1) rfl rfl rfl (by first | omega | (simp only [List.length_map]; omega) | (simp only [List.length_map, List.length_drop]; omega)) (by first | omega | (simp only [List.length_map]; omega) | (simp only [List.length_map, List.length_drop]; omega)) (by omega)) rfl ?_
          refine Zq 0 rfl (w0 rfl) rfl rfl rfl rfl (by first | omega | (simp; omega)) rfl rfl ?_
          refine .done ?_
          refine Z2 ?_
          refine Z1 (w0 rfl) rfl (Z0 rfl rfl) ?_
          refine Z1 (w0 rfl) rfl (Z7 rfl rfl rfl (Zd (by first | omega | (simp only [List.length_map]; omega)))) ?_
          refine Z1 (w0 rfl) rfl (Z3 rfl rfl) ?_
          refine Z4 ?_
          refine ⟨(swp w.1 w.2 (w.2 - 1), w.2 + 1), ⟨.step _ _ hJ4.1 (by (try simp only) <;> omega) (by (try simp only) <;> omega) (by (try simp only) <;> omega), (by (try simp only) <;> omega), (by (try simp only) <;> omega), hJ4.2.2.2.swp_ge (by (try simp only) <;> omega) (by (try simp only) <;> omega) (by (try simp only) <;> omega) (by (try simp only) <;> omega)⟩, (by (try simp only) <;> omega), ?_⟩
          exact Zc [0] ⟨rfl, rfl, rfl, rfl, rfl, rfl, trivial⟩ rfl (by decide) rfl rfl
        ·intro hc
         have hsw := hJ4.1
         have hsa := hJ4.2.2.2
         refine Zy ?_
         refine Z2 ?_
         refine Z1 (w0 rfl) rfl (Z0 rfl rfl) ?_
         refine Z1 (w0 rfl) rfl (Z7 rfl rfl rfl (Zd (by first | omega | (simp only [List.length_map]; omega)))) ?_
         refine Z1 (w0 rfl) rfl (Z3 rfl rfl) ?_
         refine Z4 ?_
         refine ⟨(w.1, u, x.2.2 + 1), ⟨hsw, (by (try simp only) <;> omega), (by (try simp only) <;> omega), (by (try simp only) <;> omega), hsa⟩, (by (try simp only) <;> omega), ?_⟩
         exact Zc [0] ⟨rfl, rfl, rfl, rfl, rfl, trivial⟩ rfl (by decide) rfl rfl
       ·intro hc
        refine Zh ?_
        refine Z2 ?_
        refine Z1 (w0 rfl) rfl (Z0 rfl rfl) ?_
        refine Z1 (w0 rfl) rfl (Z7 rfl rfl rfl (Zd (by first | omega | (simp only [List.length_map]; omega)))) ?_
        refine Z1 (w0 rfl) rfl (Z3 rfl rfl) ?_
        refine Z4 ?_
        refine ⟨(y.1, u, x.2.2 + 1), ⟨hsw, (by (try simp only) <;> omega), (by (try simp only) <;> omega), (by (try simp only) <;> omega), hsa⟩, (by (try simp only) <;> omega), ?_⟩
        exact Zc [0] ⟨rfl, rfl, rfl, rfl, rfl, trivial⟩ rfl (by decide) rfl rfl
     ·intro hc
      have hsw : Sw a b l (swp x.1 u (u - 1)) := .step _ _ hJ.1 (by omega) (by omega) (by omega)
      have hu2 : u = a + 1 := by simp at hc; omega
      have hsa : SAdj ltS a u (swp x.1 u (u - 1)) := SAdj.refl1 (by omega)
      refine Zh ?_
      refine Z5 ?_
      refine Z2 ?_
      refine Z1 (w0 rfl) rfl (Z0 rfl rfl) ?_
      refine Z1 (w0 rfl) rfl (Z0 rfl rfl) ?_
      refine Z1 (w0 rfl) rfl (Z7 rfl rfl rfl (Zg (by first | omega | (simp only [List.length_map]; omega)))) ?_
      refine Z1 (w0 rfl) rfl (Zb rfl rfl rfl rfl) ?_
      refine Z4 ?_
      refine Za rfl ?_ ?_
      ·intro hc
       have hu3 : u + 2 ≤ b := by simp at hc; omega
       refine Z5 ?_
       refine Z2 ?_
       refine Z1 (w0 rfl) rfl (Z0 rfl rfl) ?_
       refine Z1 (w0 rfl) rfl (Z7 rfl rfl rfl (Zd (by first | omega | (simp only [List.length_map]; omega)))) ?_
       refine Z1 (w0 rfl) rfl (Z3 rfl rfl) ?_
       refine Z4 ?_
       refine Zm ?_
       refine Z06 (α := List Str × Nat) (fun w => ⟨[(10, iA w.2), (7, iA u), (8, iA x.2.2), (0, .own q 1 0 n), (1, iA a), (2, iA b)], [(q, .rows 9 1 (w.1.map fun x => [sA x]))], [], 133⟩) (fun w => Sw a b l w.1 ∧ u + 1 ≤ w.2 ∧ w.2 ≤ b ∧ SAdj ltS a u w.1) (fun w => b - w.2) ((swp x.1 u (u - 1)), u + 1) ⟨hsw, (by (try simp only) <;> omega), (by (try simp only) <;> omega), hsa⟩ ?_ ?_
       ·exact Zc [0] ⟨rfl, rfl, rfl, rfl, rfl, rfl, trivial⟩ rfl (by decide) rfl rfl
       rintro w hJ4
       have hm4 := hJ4.1.len
       refine Z5 ?_
       refine Z5 ?_
       refine Z2 ?_
       refine Z1 (w0 rfl) rfl (Z0 rfl rfl) ?_
       refine Z1 (w0 rfl) rfl (Z0 rfl rfl) ?_
       refine Z1 (w0 rfl) rfl (Zb rfl rfl rfl rfl) ?_
       refine Z4 ?_
       refine Za rfl ?_ ?_
       ·intro hc
        have hw1 : w.2 < b := by simpa using hc
        refine Zh ?_
        refine Z5 ?_
        refine Zm ?_
        refine Z5 ?_
        refine Z5 ?_
        refine Z1l 11 rfl (by kernel_rfl) ?_
        refine Z9 (w0 rfl) rfl (Z0 rfl rfl) ?_
        refine Z9 (w0 rfl) rfl (Z0 rfl rfl) ?_
        refine Z9 (w0 rfl) rfl (Z6 w.2 rfl rfl rfl (by first | omega | (simp only [List.length_map]; omega) | (simp only [List.length_map, List.length_drop]; omega)) (by first | omega | (simp only [List.length_map]; omega) | (simp only [List.length_map, List.length_drop]; omega)) (by omega)) ?_
        refine Zw 0 (w0 rfl) rfl rfl rfl rfl (Z02 (by first | assumption | omega | (simp only [List.length_drop]; omega))) Zo ?_
        refine Z9 (w0 rfl) rfl (Z0 rfl rfl) ?_
        refine Z9 (w0 rfl) rfl (Z0 rfl rfl) ?_
        refine Z9 (w0 rfl) rfl (Z7 rfl rfl rfl (Zg (by first | omega | (simp only [List.length_map]; omega)))) ?_
        refine Z9 (w0 rfl) rfl (Z6 (w.2 - 1) rfl rfl rfl (by first | omega | (simp only [List.length_map]; omega) | (simp only [List.length_map, List.length_drop]; omega)) (by first | omega | (simp only [List.length_map]; omega) | (simp only [List.length_map, List.length_drop]; omega)) (by omega)) ?_
        refine Zw 0 (w0 rfl) rfl rfl rfl rfl (Z02 (by first | assumption | omega | (simp only [List.length_drop]; omega))) Zo ?_
        refine Z9 (w0 rfl) rfl (Zp [] rfl rfl rfl (Z11 _ _) List.nodup_nil) ?_
        refine Z9 (w0 rfl) rfl (Z0j rfl rfl) ?_
        refine .done ?_
        refine Z4 ?_
        refine Za rfl ?_ ?_
        ·intro hc
         have hsw := hJ4.1
         have hsa := hJ4.2.2.2
         refine Zy ?_
         refine Z2 ?_
         refine Z1 (w0 rfl) rfl (Z0 rfl rfl) ?_
         refine Z1 (w0 rfl) rfl (Z7 rfl rfl rfl (Zd (by first | omega | (simp only [List.length_map]; omega)))) ?_
         refine Z1 (w0 rfl) rfl (Z3 rfl rfl) ?_
         refine Z4 ?_
         refine ⟨(w.1, u, x.2.2 + 1), ⟨hsw, (by (try simp only) <;> omega), (by (try simp only) <;> omega), (by (try simp only) <;> omega), hsa⟩, (by (try simp only) <;> omega), ?_⟩
         exact Zc [0] ⟨rfl, rfl, rfl, rfl, rfl, trivial⟩ rfl (by decide) rfl rfl
        ·intro hc
         refine Zh ?_
         refine Z0m [0, 0, 0, 0, 8, 0, 0, 64, 224, 480, 0, 0, 3072, 7168, 16355, 32739, 65535, 131071] [15, 17] [9, 13] rfl (by kernel_rfl) ?_
         refine Z8 (w0 rfl) rfl (Z0 rfl rfl) rfl ?_
         refine Z8 (w0 rfl) rfl (Z0 rfl rfl) rfl ?_
         refine Z8 (w0 rfl) rfl (Z0 rfl rfl) rfl ?_
         refine Z8 (w0 rfl) rfl (Z0 rfl rfl) rfl ?_
         refine Z8 (w0 rfl) rfl (Z7 rfl rfl rfl (Zg (by first | omega | (simp only [List.length_map]; omega)))) rfl ?_
         refine Z8 (w0 rfl) rfl (Z0 rfl rfl) rfl ?_
         refine Z8 (w0 rfl) rfl (Z0 rfl rfl) rfl ?_
         refine Z8 (w0 rfl) rfl (Z7 rfl rfl rfl (Zg (by first | omega | (simp only [List.length_map]; omega)))) rfl ?_
         refine Z8 (w0 rfl) rfl (Z6 (w.2 - 1) rfl rfl rfl (by first | omega | (simp only [List.length_map]; omega) | (simp only [List.length_map, List.length_drop]; omega)) (by first | omega | (simp only [List.length_map]; omega) | (simp only [List.length_map, List.length_drop]; omega)) (by omega)) rfl ?_
         refine Zk 0 (w0 rfl) rfl rfl rfl rfl (Z02 (by first | assumption | omega | (simp only [List.length_drop]; omega))) Zo rfl rfl ?_
         refine Z8 (w0 rfl) rfl (Z0 rfl rfl) rfl ?_
         refine Z8 (w0 rfl) rfl (Z0 rfl rfl) rfl ?_
         refine Z8 (w0 rfl) rfl (Z6 w.2 rfl rfl rfl (by first | omega | (simp only [List.length_map]; omega) | (simp only [List.length_map, List.length_drop]; omega)) (by first | omega | (simp only [List.length_map]; omega) | (simp only [List.length_map, List.length_drop]; omega)) (by omega)) rfl ?_
         refine Zk 0 (w0 rfl) rfl rfl rfl rfl (Z02 (by first | assumption | omega | (simp only [List.length_drop]; omega))) Zo rfl rfl ?_
         refine Z8 (w0 rfl) rfl (Z6 w.2 rfl rfl rfl (by first | omega | (simp only [List.length_map]; omega) | (simp only [List.length_map, List.length_drop]; omega)) (by first | omega | (simp only [List.length_map]; omega) | (simp only [List.length_map, List.length_drop]; omega)) (by omega)) rfl ?_
         refine Zq 0 rfl (w0 rfl) rfl rfl rfl rfl (by first | omega | (simp; omega)) rfl rfl ?_
         refine Z8 (w0 rfl) rfl (Z6 (w.2 - 1) rfl rfl rfl (by first | omega | (simp only [List.length_map]; omega) | (simp only [List.length_map, List.length_drop]; omega)) (by first | omega | (simp only [List.length_map]; omega) | (simp only [List.length_map, List.length_drop]; omega)) (by omega)) rfl ?_
         refine Zq 0 rfl (w0 rfl) rfl rfl rfl rfl (by first | omega | (simp; omega)) rfl rfl ?_
         refine .done ?_
         refine Z2 ?_
         refine Z1 (w0 rfl) rfl (Z0 rfl rfl) ?_
         refine Z1 (w0 rfl) rfl (Z7 rfl rfl rfl (Zd (by first | omega | (simp only [List.length_map]; omega)))) ?_
         refine Z1 (w0 rfl) rfl (Z3 rfl rfl) ?_
         refine Z4 ?_
         refine ⟨(swp w.1 w.2 (w.2 - 1), w.2 + 1), ⟨.step _ _ hJ4.1 (by (try simp only) <;> omega) (by (try simp only) <;> omega) (by (try simp only) <;> omega), (by (try simp only) <;> omega), (by (try simp only) <;> omega), hJ4.2.2.2.swp_ge (by (try simp only) <;> omega) (by (try simp only) <;> omega) (by (try simp only) <;> omega) (by (try simp only) <;> omega)⟩, (by (try simp only) <;> omega), ?_⟩
         exact Zc [0] ⟨rfl, rfl, rfl, rfl, rfl, rfl, trivial⟩ rfl (by decide) rfl rfl
       ·intro hc
        have hsw := hJ4.1
        have hsa := hJ4.2.2.2
        refine Zy ?_
        refine Z2 ?_
        refine Z1 (w0 rfl) rfl (Z0 rfl rfl) ?_
        refine Z1 (w0 rfl) rfl (Z7 rfl rfl rfl (Zd (by first | omega | (simp only [List.length_map]; omega)))) ?_
        refine Z1 (w0 rfl) rfl (Z3 rfl rfl) ?_
        refine Z4 ?_
        refine ⟨(w.1, u, x.2.2 + 1), ⟨hsw, (by (try simp only) <;> omega), (by (try simp only) <;> omega), (by (try simp only) <;> omega), hsa⟩, (by (try simp only) <;> omega), ?_⟩
        exact Zc [0] ⟨rfl, rfl, rfl, rfl, rfl, trivial⟩ rfl (by decide) rfl rfl
      ·intro hc
       refine Zh ?_
       refine Z2 ?_
       refine Z1 (w0 rfl) rfl (Z0 rfl rfl) ?_
       refine Z1 (w0 rfl) rfl (Z7 rfl rfl rfl (Zd (by first | omega | (simp only [List.length_map]; omega)))) ?_
       refine Z1 (w0 rfl) rfl (Z3 rfl rfl) ?_
       refine Z4 ?_
       refine ⟨((swp x.1 u (u - 1)), u, x.2.2 + 1), ⟨hsw, (by (try simp only) <;> omega), (by (try simp only) <;> omega), (by (try simp only) <;> omega), hsa⟩, (by (try simp only) <;> omega), ?_⟩
       exact Zc [0] ⟨rfl, rfl, rfl, rfl, rfl, trivial⟩ rfl (by decide) rfl rfl
 ·intro hc
  refine Zy ?_
  refine Z5 ?_
  refine Z2 ?_
  refine Z1 (w0 rfl) rfl (Z3 rfl rfl) ?_
  refine Z4 ?_
  refine Zs ?_
  exact Zr rfl (Zf rfl Ze) (.cons_cons _ .slnil) (gp (x.1, false) ⟨hJ.1, nofun⟩ rfl rfl)
theorem Zh0 (x : Nat) (hx : x < 18446744073709551616) : ACalls Try.prog 81 [xA x] [] (GSome (fun k : Nat => iA k) (fun k => k ≤ 64 ∧ (0 < x → 2 ^ k ≤ 2 * x))) := by
 refine Zj (n := 25) Try.func81 rfl (by decide +kernel) rfl rfl ?_
 refine Z5 ?_
 refine Z2 ?_
 refine Z1 (w0 rfl) rfl (Zz (y := iA (0 : Nat)) (Z3 rfl rfl) (rfl)) ?_
 refine Z4 ?_
 refine Z5 ?_
 refine Z5 ?_
 refine Z2 ?_
 refine Z1 (w0 rfl) rfl (Z0 rfl rfl) ?_
 refine Z1 (w0 rfl) rfl (Zb rfl rfl rfl rfl) ?_
 refine Z4 ?_
 refine Za rfl ?_ ?_
 ·intro hc
  refine Z5 ?_
  refine Z2 ?_
  refine Z1 (w0 rfl) rfl (Z0 rfl rfl) ?_
  refine Z1 (w0 rfl) rfl (Zz (y := xA (x / 2 ^ 32 : Nat)) (Z2a rfl rfl rfl (by decide)) (congrArg xA (Zhv x 32 (by decide)))) ?_
  refine Z1 (w0 rfl) rfl (Z3 rfl rfl) ?_
  refine Z4 ?_
  refine Z2 ?_
  refine Z1 (w0 rfl) rfl (Zz (y := iA (32 : Nat)) (Z3 rfl rfl) (rfl)) ?_
  refine Z4 ?_
  refine Z5 ?_
  refine Z5 ?_
  refine Z0a 0 rfl (fun y1 hy1 => ?_)
  refine Z0a 2 rfl (fun n1 hn1 => ?_)
  have j1 : LenJ x y1 n1 := by rw [hy1, hn1]; exact LenJ.shr (LenJ.start x) 32 (by have := hc; simp at this; omega)
  have b1 : y1 < 4294967296 := by rw [hy1]; simp at hc; omega
  have e1 : n1 ≤ 32 := by rw [hn1]; omega
  refine Z2 ?_
  refine Z1 (w0 rfl) rfl (Z0 rfl rfl) ?_
  refine Z1 (w0 rfl) rfl (Zb rfl rfl rfl rfl) ?_
  refine Z4 ?_
  refine Za rfl ?_ ?_
  ·intro hc
   refine Z5 ?_
   refine Z2 ?_
   refine Z1 (w0 rfl) rfl (Z0 rfl rfl) ?_
   refine Z1 (w0 rfl) rfl (Zz (y := xA (y1 / 2 ^ 16 : Nat)) (Z2a rfl rfl rfl (by decide)) (congrArg xA (Zhv y1 16 (by decide)))) ?_
   refine Z1 (w0 rfl) rfl (Z3 rfl rfl) ?_
   refine Z4 ?_
   refine Z2 ?_
   refine Z1 (w0 rfl) rfl (Z0 rfl rfl) ?_
   refine Z1 (w0 rfl) rfl (Zz (y := iA (n1 + 16 : Nat)) (Z7 rfl rfl rfl (Zd (by first | omega | (simp only [List.length_map]; omega)))) (congrArg iA (by omega))) ?_
   refine Z1 (w0 rfl) rfl (Z3 rfl rfl) ?_
   refine Z4 ?_
   refine Z5 ?_
   refine Z5 ?_
   refine Z0a 0 rfl (fun y2 hy2 => ?_)
   refine Z0a 2 rfl (fun n2 hn2 => ?_)
   have j2 : LenJ x y2 n2 := by rw [hy2, hn2]; exact LenJ.shr j1 16 (by have := hc; simp at this; omega)
   have b2 : y2 < 65536 := by rw [hy2]; simp at hc; omega
   have e2 : n2 ≤ 48 := by rw [hn2]; omega
   refine Z2 ?_
   refine Z1 (w0 rfl) rfl (Z0 rfl rfl) ?_
   refine Z1 (w0 rfl) rfl (Zb rfl rfl rfl rfl) ?_
   refine Z4 ?_
   refine Za rfl ?_ ?_
   ·intro hc
    refine Z5 ?_
    refine Z2 ?_
    refine Z1 (w0 rfl) rfl (Z0 rfl rfl) ?_
    refine Z1 (w0 rfl) rfl (Zz (y := xA (y2 / 2 ^ 8 : Nat)) (Z2a rfl rfl rfl (by decide)) (congrArg xA (Zhv y2 8 (by decide)))) ?_
    refine Z1 (w0 rfl) rfl (Z3 rfl rfl) ?_
    refine Z4 ?_
    refine Z2 ?_
    refine Z1 (w0 rfl) rfl (Z0 rfl rfl) ?_
    refine Z1 (w0 rfl) rfl (Zz (y := iA (n2 + 8 : Nat)) (Z7 rfl rfl rfl (Zd (by first | omega | (simp only [List.length_map]; omega)))) (congrArg iA (by omega))) ?_
    refine Z1 (w0 rfl) rfl (Z3 rfl rfl) ?_
    refine Z4 ?_
    refine Z5 ?_
    refine Z0a 0 rfl (fun y3 hy3 => ?_)
    refine Z0a 2 rfl (fun n3 hn3 => ?_)
    have j3 : LenJ x y3 n3 := by rw [hy3, hn3]; exact LenJ.shr j2 8 (by have := hc; simp at this; omega)
    have b3 : y3 < 256 := by rw [hy3]; simp at hc; omega
    have e3 : n3 ≤ 56 := by rw [hn3]; omega
    refine Z2 ?_
    refine Z1 (w0 rfl) rfl (Z0 rfl rfl) ?_
    refine Z1 (w0 rfl) rfl (Z0 rfl rfl) ?_
    refine Z1 (w0 rfl) rfl (Zz (y := uA (y3 : Nat)) (Z03 rfl rfl) (congrArg uA (Z30 (by omega)))) ?_
    refine Z1 (w0 rfl) rfl (Zz (y := uA (byteAt len8 (y3 : Nat))) (Z12 rfl rfl rfl (by first | (exact Z1d (by decide +kernel) (by omega)) | omega) (by first | (exact Z1d (by decide +kernel) (by omega)) | omega)) (Z1s (by decide +kernel) _)) ?_
    refine Z1 (w0 rfl) rfl (Zz (y := iA (byteAt len8 (y3 : Nat))) (Z03 rfl rfl) (congrArg iA (Z0u (by have := Z0c ⟨y3, b3⟩; simp only at this; omega)))) ?_
    refine Z1 (w0 rfl) rfl (Z7 rfl rfl rfl (Zd (by (have := Z0c ⟨y3, b3⟩; simp only at this; omega)))) ?_
    refine Z1 (w0 rfl) rfl (Z3 rfl rfl) ?_
    refine Z4 ?_
    refine Zs ?_
    exact Z0y rfl (Zf rfl Ze) (Z6m (n3 + (byteAt len8 (y3 : Nat)).toNat) ⟨by have := Z0c ⟨y3, b3⟩; simp only at this; omega, fun hx => j3.fin (Z0c ⟨y3, b3⟩).2.2 hx⟩ (congrArg iA (by have := Z0c ⟨y3, b3⟩; simp only at this; omega)))
   ·intro hc
    refine Zh ?_
    refine Z5 ?_
    refine Z0a 0 rfl (fun y3 hy3 => ?_)
    refine Z0a 2 rfl (fun n3 hn3 => ?_)
    have j3 : LenJ x y3 n3 := by rw [hy3, hn3]; exact j2
    have b3 : y3 < 256 := by rw [hy3]; simp at hc; omega
    have e3 : n3 ≤ 56 := by rw [hn3]; omega
    refine Z2 ?_
    refine Z1 (w0 rfl) rfl (Z0 rfl rfl) ?_
    refine Z1 (w0 rfl) rfl (Z0 rfl rfl) ?_
    refine Z1 (w0 rfl) rfl (Zz (y := uA (y3 : Nat)) (Z03 rfl rfl) (congrArg uA (Z30 (by omega)))) ?_
    refine Z1 (w0 rfl) rfl (Zz (y := uA (byteAt len8 (y3 : Nat))) (Z12 rfl rfl rfl (by first | (exact Z1d (by decide +kernel) (by omega)) | omega) (by first | (exact Z1d (by decide +kernel) (by omega)) | omega)) (Z1s (by decide +kernel) _)) ?_
    refine Z1 (w0 rfl) rfl (Zz (y := iA (byteAt len8 (y3 : Nat))) (Z03 rfl rfl) (congrArg iA (Z0u (by have := Z0c ⟨y3, b3⟩; simp only at this; omega)))) ?_
    refine Z1 (w0 rfl) rfl (Z7 rfl rfl rfl (Zd (by (have := Z0c ⟨y3, b3⟩; simp only at this; omega)))) ?_
    refine Z1 (w0 rfl) rfl (Z3 rfl rfl) ?_
    refine Z4 ?_
    refine Zs ?_
    exact Z0y rfl (Zf rfl Ze) (Z6m (n3 + (byteAt len8 (y3 : Nat)).toNat) ⟨by have := Z0c ⟨y3, b3⟩; simp only at this; omega, fun hx => j3.fin (Z0c ⟨y3, b3⟩).2.2 hx⟩ (congrArg iA (by have := Z0c ⟨y3, b3⟩; simp only at this; omega)))
  ·intro hc
   refine Zh ?_
   refine Z5 ?_
   refine Z5 ?_
   refine Z0a 0 rfl (fun y2 hy2 => ?_)
   refine Z0a 2 rfl (fun n2 hn2 => ?_)
   have j2 : LenJ x y2 n2 := by rw [hy2, hn2]; exact j1
   have b2 : y2 < 65536 := by rw [hy2]; simp at hc; omega
   have e2 : n2 ≤ 48 := by rw [hn2]; omega
   refine Z2 ?_
   refine Z1 (w0 rfl) rfl (Z0 rfl rfl) ?_
   refine Z1 (w0 rfl) rfl (Zb rfl rfl rfl rfl) ?_
   refine Z4 ?_
   refine Za rfl ?_ ?_
   ·intro hc
    refine Z5 ?_
    refine Z2 ?_
    refine Z1 (w0 rfl) rfl (Z0 rfl rfl) ?_
    refine Z1 (w0 rfl) rfl (Zz (y := xA (y2 / 2 ^ 8 : Nat)) (Z2a rfl rfl rfl (by decide)) (congrArg xA (Zhv y2 8 (by decide)))) ?_
    refine Z1 (w0 rfl) rfl (Z3 rfl rfl) ?_
    refine Z4 ?_
    refine Z2 ?_
    refine Z1 (w0 rfl) rfl (Z0 rfl rfl) ?_
    refine Z1 (w0 rfl) rfl (Zz (y := iA (n2 + 8 : Nat)) (Z7 rfl rfl rfl (Zd (by first | omega | (simp only [List.length_map]; omega)))) (congrArg iA (by omega))) ?_
    refine Z1 (w0 rfl) rfl (Z3 rfl rfl) ?_
    refine Z4 ?_
    refine Z5 ?_
    refine Z0a 0 rfl (fun y3 hy3 => ?_)
    refine Z0a 2 rfl (fun n3 hn3 => ?_)
    have j3 : LenJ x y3 n3 := by rw [hy3, hn3]; exact LenJ.shr j2 8 (by have := hc; simp at this; omega)
    have b3 : y3 < 256 := by rw [hy3]; simp at hc; omega
    have e3 : n3 ≤ 56 := by rw [hn3]; omega
    refine Z2 ?_
    refine Z1 (w0 rfl) rfl (Z0 rfl rfl) ?_
    refine Z1 (w0 rfl) rfl (Z0 rfl rfl) ?_
    refine Z1 (w0 rfl) rfl (Zz (y := uA (y3 : Nat)) (Z03 rfl rfl) (congrArg uA (Z30 (by omega)))) ?_
    refine Z1 (w0 rfl) rfl (Zz (y := uA (byteAt len8 (y3 : Nat))) (Z12 rfl rfl rfl (by first | (exact Z1d (by decide +kernel) (by omega)) | omega) (by first | (exact Z1d (by decide +kernel) (by omega)) | omega)) (Z1s (by decide +kernel) _)) ?_
    refine Z1 (w0 rfl) rfl (Zz (y := iA (byteAt len8 (y3 : Nat))) (Z03 rfl rfl) (congrArg iA (Z0u (by have := Z0c ⟨y3, b3⟩; simp only at this; omega)))) ?_
    refine Z1 (w0 rfl) rfl (Z7 rfl rfl rfl (Zd (by (have := Z0c ⟨y3, b3⟩; simp only at this; omega)))) ?_
    refine Z1 (w0 rfl) rfl (Z3 rfl rfl) ?_
    refine Z4 ?_
    refine Zs ?_
    exact Z0y rfl (Zf rfl Ze) (Z6m (n3 + (byteAt len8 (y3 : Nat)).toNat) ⟨by have := Z0c ⟨y3, b3⟩; simp only at this; omega, fun hx => j3.fin (Z0c ⟨y3, b3⟩).2.2 hx⟩ (congrArg iA (by have := Z0c ⟨y3, b3⟩; simp only at this; omega)))
   ·intro hc
    refine Zh ?_
    refine Z5 ?_
    refine Z0a 0 rfl (fun y3 hy3 => ?_)
    refine Z0a 2 rfl (fun n3 hn3 => ?_)
    have j3 : LenJ x y3 n3 := by rw [hy3, hn3]; exact j2
    have b3 : y3 < 256 := by rw [hy3]; simp at hc; omega
    have e3 : n3 ≤ 56 := by rw [hn3]; omega
    refine Z2 ?_
    refine Z1 (w0 rfl) rfl (Z0 rfl rfl) ?_
    refine Z1 (w0 rfl) rfl (Z0 rfl rfl) ?_
    refine Z1 (w0 rfl) rfl (Zz (y := uA (y3 : Nat)) (Z03 rfl rfl) (congrArg uA (Z30 (by omega)))) ?_
    refine Z1 (w0 rfl) rfl (Zz (y := uA (byteAt len8 (y3 : Nat))) (Z12 rfl rfl rfl (by first | (exact Z1d (by decide +kernel) (by omega)) | omega) (by first | (exact Z1d (by decide +kernel) (by omega)) | omega)) (Z1s (by decide +kernel) _)) ?_
    refine Z1 (w0 rfl) rfl (Zz (y := iA (byteAt len8 (y3 : Nat))) (Z03 rfl rfl) (congrArg iA (Z0u (by have := Z0c ⟨y3, b3⟩; simp only at this; omega)))) ?_
    refine Z1 (w0 rfl) rfl (Z7 rfl rfl rfl (Zd (by (have := Z0c ⟨y3, b3⟩; simp only at this; omega)))) ?_
    refine Z1 (w0 rfl) rfl (Z3 rfl rfl) ?_
    refine Z4 ?_
    refine Zs ?_
    exact Z0y rfl (Zf rfl Ze) (Z6m (n3 + (byteAt len8 (y3 : Nat)).toNat) ⟨by have := Z0c ⟨y3, b3⟩; simp only at this; omega, fun hx => j3.fin (Z0c ⟨y3, b3⟩).2.2 hx⟩ (congrArg iA (by have := Z0c ⟨y3, b3⟩; simp only at this; omega)))
 ·intro hc
  refine Zh ?_
  refine Z5 ?_
  refine Z5 ?_
  refine Z0a 0 rfl (fun y1 hy1 => ?_)
  refine Z0a 2 rfl (fun n1 hn1 => ?_)
  have j1 : LenJ x y1 n1 := by rw [hy1, hn1]; exact (LenJ.start x)
  have b1 : y1 < 4294967296 := by rw [hy1]; simp at hc; omega
  have e1 : n1 ≤ 32 := by rw [hn1]; omega
  refine Z2 ?_
  refine Z1 (w0 rfl) rfl (Z0 rfl rfl) ?_
  refine Z1 (w0 rfl) rfl (Zb rfl rfl rfl rfl) ?_
  refine Z4 ?_
  refine Za rfl ?_ ?_
  ·intro hc
   refine Z5 ?_
   refine Z2 ?_
   refine Z1 (w0 rfl) rfl (Z0 rfl rfl) ?_
   refine Z1 (w0 rfl) rfl (Zz (y := xA (y1 / 2 ^ 16 : Nat)) (Z2a rfl rfl rfl (by decide)) (congrArg xA (Zhv y1 16 (by decide)))) ?_
   refine Z1 (w0 rfl) rfl (Z3 rfl rfl) ?_
   refine Z4 ?_
   refine Z2 ?_
   refine Z1 (w0 rfl) rfl (Z0 rfl rfl) ?_
   refine Z1 (w0 rfl) rfl (Zz (y := iA (n1 + 16 : Nat)) (Z7 rfl rfl rfl (Zd (by first | omega | (simp only [List.length_map]; omega)))) (congrArg iA (by omega))) ?_
   refine Z1 (w0 rfl) rfl (Z3 rfl rfl) ?_
   refine Z4 ?_
   refine Z5 ?_
   refine Z5 ?_
   refine Z0a 0 rfl (fun y2 hy2 => ?_)
   refine Z0a 2 rfl (fun n2 hn2 => ?_)
   have j2 : LenJ x y2 n2 := by rw [hy2, hn2]; exact LenJ.shr j1 16 (by have := hc; simp at this; omega)
   have b2 : y2 < 65536 := by rw [hy2]; simp at hc; omega
   have e2 : n2 ≤ 48 := by rw [hn2]; omega
   refine Z2 ?_
   refine Z1 (w0 rfl) rfl (Z0 rfl rfl) ?_
   refine Z1 (w0 rfl) rfl (Zb rfl rfl rfl rfl) ?_
   refine Z4 ?_
   refine Za rfl ?_ ?_
   ·intro hc
    refine Z5 ?_
    refine Z2 ?_
    refine Z1 (w0 rfl) rfl (Z0 rfl rfl) ?_
    refine Z1 (w0 rfl) rfl (Zz (y := xA (y2 / 2 ^ 8 : Nat)) (Z2a rfl rfl rfl (by decide)) (congrArg xA (Zhv y2 8 (by decide)))) ?_
    refine Z1 (w0 rfl) rfl (Z3 rfl rfl) ?_
    refine Z4 ?_
    refine Z2 ?_
    refine Z1 (w0 rfl) rfl (Z0 rfl rfl) ?_
    refine Z1 (w0 rfl) rfl (Zz (y := iA (n2 + 8 : Nat)) (Z7 rfl rfl rfl (Zd (by first | omega | (simp only [List.length_map]; omega)))) (congrArg iA (by omega))) ?_
    refine Z1 (w0 rfl) rfl (Z3 rfl rfl) ?_
    refine Z4 ?_
    refine Z5 ?_
    refine Z0a 0 rfl (fun y3 hy3 => ?_)
    refine Z0a 2 rfl (fun n3 hn3 => ?_)
    have j3 : LenJ x y3 n3 := by rw [hy3, hn3]; exact LenJ.shr j2 8 (by have := hc; simp at this; omega)
    have b3 : y3 < 256 := by rw [hy3]; simp at hc; omega
    have e3 : n3 ≤ 56 := by rw [hn3]; omega
    refine Z2 ?_
    refine Z1 (w0 rfl) rfl (Z0 rfl rfl) ?_
    refine Z1 (w0 rfl) rfl (Z0 rfl rfl) ?_
    refine Z1 (w0 rfl) rfl (Zz (y := uA (y3 : Nat)) (Z03 rfl rfl) (congrArg uA (Z30 (by omega)))) ?_
    refine Z1 (w0 rfl) rfl (Zz (y := uA (byteAt len8 (y3 : Nat))) (Z12 rfl rfl rfl (by first | (exact Z1d (by decide +kernel) (by omega)) | omega) (by first | (exact Z1d (by decide +kernel) (by omega)) | omega)) (Z1s (by decide +kernel) _)) ?_
    refine Z1 (w0 rfl) rfl (Zz (y := iA (byteAt len8 (y3 : Nat))) (Z03 rfl rfl) (congrArg iA (Z0u (by have := Z0c ⟨y3, b3⟩; simp only at this; omega)))) ?_
    refine Z1 (w0 rfl) rfl (Z7 rfl rfl rfl (Zd (by (have := Z0c ⟨y3, b3⟩; simp only at this; omega)))) ?_
    refine Z1 (w0 rfl) rfl (Z3 rfl rfl) ?_
    refine Z4 ?_
    refine Zs ?_
    exact Z0y rfl (Zf rfl Ze) (Z6m (n3 + (byteAt len8 (y3 : Nat)).toNat) ⟨by have := Z0c ⟨y3, b3⟩; simp only at this; omega, fun hx => j3.fin (Z0c ⟨y3, b3⟩).2.2 hx⟩ (congrArg iA (by have := Z0c ⟨y3, b3⟩; simp only at this; omega)))
   ·intro hc
    refine Zh ?_
    refine Z5 ?_
    refine Z0a 0 rfl (fun y3 hy3 => ?_)
    refine Z0a 2 rfl (fun n3 hn3 => ?_)
    have j3 : LenJ x y3 n3 := by rw [hy3, hn3]; exact j2
    have b3 : y3 < 256 := by rw [hy3]; simp at hc; omega
    have e3 : n3 ≤ 56 := by rw [hn3]; omega
    refine Z2 ?_
    refine Z1 (w0 rfl) rfl (Z0 rfl rfl) ?_
    refine Z1 (w0 rfl) rfl (Z0 rfl rfl) ?_
    refine Z1 (w0 rfl) rfl (Zz (y := uA (y3 : Nat)) (Z03 rfl rfl) (congrArg uA (Z30 (by omega)))) ?_
    refine Z1 (w0 rfl) rfl (Zz (y := uA (byteAt len8 (y3 : Nat))) (Z12 rfl rfl rfl (by first | (exact Z1d (by decide +kernel) (by omega)) | omega) (by first | (exact Z1d (by decide +kernel) (by omega)) | omega)) (Z1s (by decide +kernel) _)) ?_
    refine Z1 (w0 rfl) rfl (Zz (y := iA (byteAt len8 (y3 : Nat))) (Z03 rfl rfl) (congrArg iA (Z0u (by have := Z0c ⟨y3, b3⟩; simp only at this; omega)))) ?_
    refine Z1 (w0 rfl) rfl (Z7 rfl rfl rfl (Zd (by (have := Z0c ⟨y3, b3⟩; simp only at this; omega)))) ?_
    refine Z1 (w0 rfl) rfl (Z3 rfl rfl) ?_
    refine Z4 ?_
    refine Zs ?_
    exact Z0y rfl (Zf rfl Ze) (Z6m (n3 + (byteAt len8 (y3 : Nat)).toNat) ⟨by have := Z0c ⟨y3, b3⟩; simp only at this; omega, fun hx => j3.fin (Z0c ⟨y3, b3⟩).2.2 hx⟩ (congrArg iA (by have := Z0c ⟨y3, b3⟩; simp only at this; omega)))
  ·intro hc
   refine Zh ?_
   refine Z5 ?_
   refine Z5 ?_
   refine Z0a 0 rfl (fun y2 hy2 => ?_)
   refine Z0a 2 rfl (fun n2 hn2 => ?_)
   have j2 : LenJ x y2 n2 := by rw [hy2, hn2]; exact j1
   have b2 : y2 < 65536 := by rw [hy2]; simp at hc; omega
   have e2 : n2 ≤ 48 := by rw [hn2]; omega
   refine Z2 ?_
   refine Z1 (w0 rfl) rfl (Z0 rfl rfl) ?_
   refine Z1 (w0 rfl) rfl (Zb rfl rfl rfl rfl) ?_
   refine Z4 ?_
   refine Za rfl ?_ ?_
   ·intro hc
    refine Z5 ?_
    refine Z2 ?_
    refine Z1 (w0 rfl) rfl (Z0 rfl rfl) ?_
    refine Z1 (w0 rfl) rfl (Zz (y := xA (y2 / 2 ^ 8 : Nat)) (Z2a rfl rfl rfl (by decide)) (congrArg xA (Zhv y2 8 (by decide)))) ?_
    refine Z1 (w0 rfl) rfl (Z3 rfl rfl) ?_
    refine Z4 ?_
    refine Z2 ?_
    refine Z1 (w0 rfl) rfl (Z0 rfl rfl) ?_
    refine Z1 (w0 rfl) rfl (Zz (y := iA (n2 + 8 : Nat)) (Z7 rfl rfl rfl (Zd (by first | omega | (simp only [List.length_map]; omega)))) (congrArg iA (by omega))) ?_
    refine Z1 (w0 rfl) rfl (Z3 rfl rfl) ?_
    refine Z4 ?_
    refine Z5 ?_
    refine Z0a 0 rfl (fun y3 hy3 => ?_)
    refine Z0a 2 rfl (fun n3 hn3 => ?_)
    have j3 : LenJ x y3 n3 := by rw [hy3, hn3]; exact LenJ.shr j2 8 (by have := hc; simp at this; omega)
    have b3 : y3 < 256 := by rw [hy3]; simp at hc; omega
    have e3 : n3 ≤ 56 := by rw [hn3]; omega
    refine Z2 ?_
    refine Z1 (w0 rfl) rfl (Z0 rfl rfl) ?_
    refine Z1 (w0 rfl) rfl (Z0 rfl rfl) ?_
    refine Z1 (w0 rfl) rfl (Zz (y := uA (y3 : Nat)) (Z03 rfl rfl) (congrArg uA (Z30 (by omega)))) ?_
    refine Z1 (w0 rfl) rfl (Zz (y := uA (byteAt len8 (y3 : Nat))) (Z12 rfl rfl rfl (by first | (exact Z1d (by decide +kernel) (by omega)) | omega) (by first | (exact Z1d (by decide +kernel) (by omega)) | omega)) (Z1s (by decide +kernel) _)) ?_
    refine Z1 (w0 rfl) rfl (Zz (y := iA (byteAt len8 (y3 : Nat))) (Z03 rfl rfl) (congrArg iA (Z0u (by have := Z0c ⟨y3, b3⟩; simp only at this; omega)))) ?_
    refine Z1 (w0 rfl) rfl (Z7 rfl rfl rfl (Zd (by (have := Z0c ⟨y3, b3⟩; simp only at this; omega)))) ?_
    refine Z1 (w0 rfl) rfl (Z3 rfl rfl) ?_
    refine Z4 ?_
    refine Zs ?_
    exact Z0y rfl (Zf rfl Ze) (Z6m (n3 + (byteAt len8 (y3 : Nat)).toNat) ⟨by have := Z0c ⟨y3, b3⟩; simp only at this; omega, fun hx => j3.fin (Z0c ⟨y3, b3⟩).2.2 hx⟩ (congrArg iA (by have := Z0c ⟨y3, b3⟩; simp only at this; omega)))
   ·intro hc
    refine Zh ?_
    refine Z5 ?_
    refine Z0a 0 rfl (fun y3 hy3 => ?_)
    refine Z0a 2 rfl (fun n3 hn3 => ?_)
    have j3 : LenJ x y3 n3 := by rw [hy3, hn3]; exact j2
    have b3 : y3 < 256 := by rw [hy3]; simp at hc; omega
    have e3 : n3 ≤ 56 := by rw [hn3]; omega
    refine Z2 ?_
    refine Z1 (w0 rfl) rfl (Z0 rfl rfl) ?_
    refine Z1 (w0 rfl) rfl (Z0 rfl rfl) ?_
    refine Z1 (w0 rfl) rfl (Zz (y := uA (y3 : Nat)) (Z03 rfl rfl) (congrArg uA (Z30 (by omega)))) ?_
    refine Z1 (w0 rfl) rfl (Zz (y := uA (byteAt len8 (y3 : Nat))) (Z12 rfl rfl rfl (by first | (exact Z1d (by decide +kernel) (by omega)) | omega) (by first | (exact Z1d (by decide +kernel) (by omega)) | omega)) (Z1s (by decide +kernel) _)) ?_
    refine Z1 (w0 rfl) rfl (Zz (y := iA (byteAt len8 (y3 : Nat))) (Z03 rfl rfl) (congrArg iA (Z0u (by have := Z0c ⟨y3, b3⟩; simp only at this; omega)))) ?_
    refine Z1 (w0 rfl) rfl (Z7 rfl rfl rfl (Zd (by (have := Z0c ⟨y3, b3⟩; simp only at this; omega)))) ?_
    refine Z1 (w0 rfl) rfl (Z3 rfl rfl) ?_
    refine Z4 ?_
    refine Zs ?_
    exact Z0y rfl (Zf rfl Ze) (Z6m (n3 + (byteAt len8 (y3 : Nat)).toNat) ⟨by have := Z0c ⟨y3, b3⟩; simp only at this; omega, fun hx => j3.fin (Z0c ⟨y3, b3⟩).2.2 hx⟩ (congrArg iA (by have := Z0c ⟨y3, b3⟩; simp only at this; omega)))
theorem Z83 (x : Nat) (hx : x < 18446744073709551616) : ACalls Try.prog 58 [xA x] [] (GSome (fun k : Nat => iA k) (fun k => k ≤ 64 ∧ (0 < x → 2 ^ k ≤ 2 * x))) := by
 refine Zj (n := 8) Try.func58 rfl (by decide +kernel) rfl rfl ?_
 refine Z5 ?_
 refine Z2 ?_
 refine Z1 (w0 rfl) rfl (Z3 rfl rfl) ?_
 refine Z4 ?_
 refine Z5 ?_
 refine Za rfl ?_ ?_
 ·intro hc
  simp at hc
 ·intro hc
  refine Zh ?_
  refine Z5 ?_
  refine Z2 ?_
  refine Z1 (w0 rfl) rfl (Z0 rfl rfl) ?_
  refine Z33 (w0 rfl) rfl rfl rfl rfl (Zh0 x hx) (fun v1 hv1 => ?_)
  refine Z1 (w0 rfl) rfl (Z3 rfl rfl) ?_
  refine Z4 ?_
  refine Zs ?_
  exact Z0y rfl (Zf rfl Ze) (Z6m _ hv1 rfl)
theorem Zck (x : Nat) (h0 : 0 < x) (hx : x ≤ 140737488355328) : ACalls Try.prog 87 [iA x] [] (GSome (fun m : Nat => xA m) (fun m => 0 < m ∧ m ≤ 2 * x)) := by
 refine Zj (n := 7) Try.func87 rfl (by decide +kernel) rfl rfl ?_
 refine Z5 ?_
 refine Z2 ?_
 refine Z1 (w0 rfl) rfl (Z3 rfl rfl) ?_
 refine Z4 ?_
 refine Z5 ?_
 refine Z2 ?_
 refine Z1 (w0 rfl) rfl (Z0 rfl rfl) ?_
 refine Z1 (w0 rfl) rfl (Zz (y := xA x) (Z03 rfl rfl) (congrArg xA (Z2r (by omega)))) ?_
 refine Z33 (w0 rfl) rfl rfl rfl rfl (Z83 x (by omega)) (fun v1 hv1 => ?_)
 refine Z1 (w0 rfl) rfl (Zz (y := xA (2 ^ v1 : Nat)) (Z5k rfl rfl rfl (by omega)) (congrArg xA (Zhs h0 hx hv1))) ?_
 refine Z1 (w0 rfl) rfl (Z3 rfl rfl) ?_
 refine Z4 ?_
 refine Zs ?_
 exact Z0y rfl (Zf rfl Ze) (Z6m (2 ^ v1) ⟨Nat.two_pow_pos _, hv1.2 h0⟩ rfl)
theorem Zh8 (si : Nat) (c : Int) : ACalls Try.prog 88 [.ptr si 1 0 0] [(si, .rows 114 1 [[xA c]])] (GP (fun v : Int => xA v) (fun v => [(si, .rows 114 1 [[xA v]])]) (fun _ => True)) := by
 refine Zj (n := 33) Try.func88 rfl (by decide +kernel) rfl rfl ?_
 refine Z5 ?_
 refine Z2 ?_
 refine Z1 (w0 rfl) rfl (Z3 rfl rfl) ?_
 refine Z4 ?_
 refine Z5 ?_
 refine Z1l 9 rfl (by kernel_rfl) ?_
 refine Z9 (w0 rfl) rfl (Z0 rfl rfl) ?_
 refine Z9 (w0 rfl) rfl (Z0d rfl rfl rfl) ?_
 refine Zw 0 (w0 rfl) rfl rfl rfl rfl rfl Zo ?_
 refine Z9 (w0 rfl) rfl (Z0 rfl rfl) ?_
 refine Z9 (w0 rfl) rfl (Z0d rfl rfl rfl) ?_
 refine Zw 0 (w0 rfl) rfl rfl rfl rfl rfl Zo ?_
 refine Z9 (w0 rfl) rfl (Z5k rfl rfl rfl (by decide)) ?_
 refine Z9 (w0 rfl) rfl (Z1p rfl (by simp) rfl rfl) ?_
 refine Z9 (w0 rfl) rfl (Z0d rfl rfl rfl) ?_
 refine .done ?_
 refine Z19 0 (w0 rfl) rfl rfl rfl rfl rfl rfl rfl rfl rfl ?_
 refine Z4 ?_
 refine Z5 ?_
 refine Z1l 9 rfl (by kernel_rfl) ?_
 refine Z9 (w0 rfl) rfl (Z0 rfl rfl) ?_
 refine Z9 (w0 rfl) rfl (Z0d rfl rfl rfl) ?_
 refine Zw 0 (w0 rfl) rfl rfl rfl rfl rfl Zo ?_
 refine Z9 (w0 rfl) rfl (Z0 rfl rfl) ?_
 refine Z9 (w0 rfl) rfl (Z0d rfl rfl rfl) ?_
 refine Zw 0 (w0 rfl) rfl rfl rfl rfl rfl Zo ?_
 refine Z9 (w0 rfl) rfl (Z2a rfl rfl rfl (by decide)) ?_
 refine Z9 (w0 rfl) rfl (Z1p rfl (by simp) rfl rfl) ?_
 refine Z9 (w0 rfl) rfl (Z0d rfl rfl rfl) ?_
 refine .done ?_
 refine Z19 0 (w0 rfl) rfl rfl rfl rfl rfl rfl rfl rfl rfl ?_
 refine Z4 ?_
 refine Z5 ?_
 refine Z1l 9 rfl (by kernel_rfl) ?_
 refine Z9 (w0 rfl) rfl (Z0 rfl rfl) ?_
 refine Z9 (w0 rfl) rfl (Z0d rfl rfl rfl) ?_
 refine Zw 0 (w0 rfl) rfl rfl rfl rfl rfl Zo ?_
 refine Z9 (w0 rfl) rfl (Z0 rfl rfl) ?_
 refine Z9 (w0 rfl) rfl (Z0d rfl rfl rfl) ?_
 refine Zw 0 (w0 rfl) rfl rfl rfl rfl rfl Zo ?_
 refine Z9 (w0 rfl) rfl (Z5k rfl rfl rfl (by decide)) ?_
 refine Z9 (w0 rfl) rfl (Z1p rfl (by simp) rfl rfl) ?_
 refine Z9 (w0 rfl) rfl (Z0d rfl rfl rfl) ?_
 refine .done ?_
 refine Z19 0 (w0 rfl) rfl rfl rfl rfl rfl rfl rfl rfl rfl ?_
 refine Z4 ?_
 refine Z5 ?_
 refine Z2 ?_
 refine Z1 (w0 rfl) rfl (Z0 rfl rfl) ?_
 refine Z1 (w0 rfl) rfl (Z0d rfl rfl rfl) ?_
 refine Z00 0 (w0 rfl) rfl rfl rfl rfl rfl Zo ?_
 refine Z1 (w0 rfl) rfl (Z3 rfl rfl) ?_
 refine Z4 ?_
 refine Zs ?_
 exact Zr rfl (Zf rfl Ze) (.cons_cons _ .slnil) (gp _ trivial rfl rfl)
theorem Zgs (q n : Nat) (l : List Str) (hn : l.length = n) (hN : n ≤ 140737488355328) (a b : Nat) (hab : a + 12 < b) (hb : b ≤ n) : ACalls Try.prog 73 [.own q 1 0 n, iA a, iA b] [(q, .rows 9 1 (l.map fun x => [sA x]))] (GP (fun _ : List Str => mkRes []) (fun m => [(q, .rows 9 1 (m.map fun x => [sA x]))]) (fun m => Sw a b l m)) := by
 refine Zj (n := 65) Try.func73 rfl (by decide +kernel) rfl rfl ?_
 refine Z5 ?_
 refine Z2 ?_
 refine Z1 (w0 rfl) rfl (Z0 rfl rfl) ?_
 refine Z1 (w0 rfl) rfl (Z0 rfl rfl) ?_
 refine Z1 (w0 rfl) rfl (Zz (y := iA (b - a : Nat)) (Z7 rfl rfl rfl (Zg (by first | omega | (simp only [List.length_map]; omega)))) (congrArg iA (by omega))) ?_
 refine Z1 (w0 rfl) rfl (Z3 rfl rfl) ?_
 refine Z4 ?_
 refine Z5 ?_
 refine Z2 ?_
 refine Z1 (w0 rfl) rfl (Z0 rfl rfl) ?_
 refine Z1 (w0 rfl) rfl (Zb rfl rfl rfl rfl) ?_
 refine Z4 ?_
 refine Za rfl ?_ ?_
 ·intro hc
  refine Z5 ?_
  refine Z2 ?_
  refine Z1 (w0 rfl) rfl (Z0 rfl rfl) ?_
  refine Z1 (w0 rfl) rfl (Z03 rfl rfl) ?_
  refine Z15 (w0 rfl) rfl (fun id => Z20 id rfl rfl rfl) (fun id1 => ?_)
  refine Z19 0 (w0 rfl) rfl rfl rfl rfl rfl rfl rfl rfl rfl ?_
  refine Z4 ?_
  refine Z5 ?_
  refine Z2 ?_
  refine Z1 (w0 rfl) rfl (Z0 rfl rfl) ?_
  refine Z33 (w0 rfl) rfl rfl rfl rfl (Zck (b - a) (by omega) (by omega)) (fun v2 hv2 => ?_)
  refine Z1 (w0 rfl) rfl (Z3 rfl rfl) ?_
  refine Z4 ?_
  refine Z5 ?_
  refine Z2 ?_
  refine Z1 (w0 rfl) rfl (Z0 rfl rfl) ?_
  refine Z1 (w0 rfl) rfl (Z0 rfl rfl) ?_
  refine Z1 (w0 rfl) rfl (Zz (y := iA ((b - a) / 4 : Nat)) (Z1g rfl rfl rfl (by decide) (Z13 (b - a) 4 (by omega))) (congrArg iA (Z3q (b - a) 4))) ?_
  refine Z1 (w0 rfl) rfl (Z7 rfl rfl rfl (Z1x (by first | omega | (simp only [List.length_map]; omega)))) ?_
  refine Z1 (w0 rfl) rfl (Z7 rfl rfl rfl (Zd (by first | omega | (simp only [List.length_map]; omega)))) ?_
  refine Z1 (w0 rfl) rfl (Zz (y := iA (a + (b - a) / 4 * 2 - 1 : Nat)) (Z7 rfl rfl rfl (Zg (by first | omega | (simp only [List.length_map]; omega)))) (congrArg iA (by omega))) ?_
  refine Z1 (w0 rfl) rfl (Z3 rfl rfl) ?_
  refine Z4 ?_
  refine Zm ?_
  refine Z06 (α := List Str × Nat × Int) (fun x => ⟨[(9, iA x.2.1), (6, iA (b - a : Nat)), (7, .ptr id1 1 0 0), (8, xA v2), (0, .own q 1 0 n), (1, iA a)], [(q, .rows 9 1 (x.1.map fun x => [sA x])), (id1, .rows 114 1 [[xA x.2.2]])], [], 65⟩) (fun x => Sw a b l x.1 ∧ a ≤ x.2.1) (fun x => a + (b - a) / 4 * 2 + 2 - x.2.1) (l, a + (b - a) / 4 * 2 - 1, IntKind.u64.wrap (b - a : Nat)) ⟨.refl, (by (try simp only) <;> omega)⟩ ?_ ?_
  ·exact Zc [1, 0] ⟨rfl, rfl, rfl, rfl, rfl, rfl, trivial⟩ rfl (by decide) rfl rfl
  rintro x hJ
  have hm := hJ.1.len
  refine Z5 ?_
  refine Z5 ?_
  refine Z2 ?_
  refine Z1 (w0 rfl) rfl (Z0 rfl rfl) ?_
  refine Z1 (w0 rfl) rfl (Z0 rfl rfl) ?_
  refine Z1 (w0 rfl) rfl (Z0 rfl rfl) ?_
  refine Z1 (w0 rfl) rfl (Zz (y := iA ((b - a : Nat) / 4 : Nat)) (Z1g rfl rfl rfl (by decide) (Z13 (b - a : Nat) 4 (by omega))) (congrArg iA (Z3q (b - a : Nat) 4))) ?_
  refine Z1 (w0 rfl) rfl (Z7 rfl rfl rfl (Z1x (by first | omega | (simp only [List.length_map]; omega)))) ?_
  refine Z1 (w0 rfl) rfl (Z7 rfl rfl rfl (Zd (by first | omega | (simp only [List.length_map]; omega)))) ?_
  refine Z1 (w0 rfl) rfl (Zz (y := iA (a + (b - a) / 4 * 2 + 1 : Nat)) (Z7 rfl rfl rfl (Zd (by first | omega | (simp only [List.length_map]; omega)))) (congrArg iA (by omega))) ?_
  refine Z1 (w0 rfl) rfl (Zb rfl rfl rfl rfl) ?_
  refine Z4 ?_
  refine Za rfl ?_ ?_
  ·intro hc
   have hx : x.2.1 ≤ a + (b - a) / 4 * 2 + 1 := by simp at hc; omega
   refine Zh ?_
   refine Z5 ?_
   refine Zm ?_
   refine Z5 ?_
   refine Z2 ?_
   refine Zl [_] _ (w0 rfl) rfl rfl rfl rfl (Zu (k := 1) rfl) (Zh8 _ _) (fun v3 hv3 => ?_)
   refine Z1 (w0 rfl) rfl (Z0 rfl rfl) ?_
   refine Z1 (w0 rfl) rfl (Z7 rfl rfl rfl rfl) ?_
   refine Z1 (w0 rfl) rfl (Z1p rfl (by simp) rfl rfl) ?_
   refine Z1 (w0 rfl) rfl (Z03 rfl rfl) ?_
   refine Z1 (w0 rfl) rfl (Z3 rfl rfl) ?_
   refine Z4 ?_
   refine Z5 ?_
   refine Z5 ?_
   refine Zef 10 rfl (fun ot hot => ?_)
   have ho := Zi3 (v := v3) (m := v2) hv2.1 (by omega)
   rw [← hot] at ho
   refine Z2 ?_
   refine Z1 (w0 rfl) rfl (Z0 rfl rfl) ?_
   refine Z1 (w0 rfl) rfl (Z0 rfl rfl) ?_
   refine Z1 (w0 rfl) rfl (Zb rfl rfl rfl rfl) ?_
   refine Z4 ?_
   refine Za rfl ?_ ?_
   ·intro hc
    have hge : ((b - a : Nat) : Int) ≤ ot := by simpa using hc
    refine Z2 ?_
    refine Z1 (w0 rfl) rfl (Z0 rfl rfl) ?_
    refine Z1 (w0 rfl) rfl (Z0 rfl rfl) ?_
    refine Z1 (w0 rfl) rfl (Z7 rfl rfl rfl (Zg (by first | omega | (simp only [List.length_map]; omega)))) ?_
    refine Z1 (w0 rfl) rfl (Z3 rfl rfl) ?_
    refine Z4 ?_
    refine Z79 10 rfl (show _ = (((ot - (b - a : Nat)).toNat : Nat) : Int) by omega) ?_
    refine Z0m [0, 0, 0, 0, 0, 24, 0, 0, 0, 384, 960, 1984, 0, 0, 12288, 28672, 65475, 131011, 262143, 524287] [17, 19] [11, 15] rfl (by kernel_rfl) ?_
    refine Z8 (w0 rfl) rfl (Z0 rfl rfl) rfl ?_
    refine Z8 (w0 rfl) rfl (Z0 rfl rfl) rfl ?_
    refine Z8 (w0 rfl) rfl (Z0 rfl rfl) rfl ?_
    refine Z8 (w0 rfl) rfl (Z0 rfl rfl) rfl ?_
    refine Z8 (w0 rfl) rfl (Z0 rfl rfl) rfl ?_
    refine Z8 (w0 rfl) rfl (Z7 rfl rfl rfl (Zd (by first | omega | (simp only [List.length_map]; omega)))) rfl ?_
    refine Z8 (w0 rfl) rfl (Z0 rfl rfl) rfl ?_
    refine Z8 (w0 rfl) rfl (Z0 rfl rfl) rfl ?_
    refine Z8 (w0 rfl) rfl (Z0 rfl rfl) rfl ?_
    refine Z8 (w0 rfl) rfl (Z7 rfl rfl rfl (Zd (by first | omega | (simp only [List.length_map]; omega)))) rfl ?_
    refine Z8 (w0 rfl) rfl (Z6 (a + (ot - (b - a : Nat)).toNat) rfl rfl rfl (by first | omega | (simp only [List.length_map]; omega) | (simp only [List.length_map, List.length_drop]; omega)) (by first | omega | (simp only [List.length_map]; omega) | (simp only [List.length_map, List.length_drop]; omega)) (by omega)) rfl ?_
    refine Zk 1 (w0 rfl) rfl rfl rfl rfl (Z02 (by first | assumption | omega | (simp only [List.length_drop]; omega))) Zo rfl rfl ?_
    refine Z8 (w0 rfl) rfl (Z0 rfl rfl) rfl ?_
    refine Z8 (w0 rfl) rfl (Z0 rfl rfl) rfl ?_
    refine Z8 (w0 rfl) rfl (Z6 x.2.1 rfl rfl rfl (by first | omega | (simp only [List.length_map]; omega) | (simp only [List.length_map, List.length_drop]; omega)) (by first | omega | (simp only [List.length_map]; omega) | (simp only [List.length_map, List.length_drop]; omega)) (by omega)) rfl ?_
    refine Zk 1 (w0 rfl) rfl rfl rfl rfl (Z02 (by first | assumption | omega | (simp only [List.length_drop]; omega))) Zo rfl rfl ?_
    refine Z8 (w0 rfl) rfl (Z6 x.2.1 rfl rfl rfl (by first | omega | (simp only [List.length_map]; omega) | (simp only [List.length_map, List.length_drop]; omega)) (by first | omega | (simp only [List.length_map]; omega) | (simp only [List.length_map, List.length_drop]; omega)) (by omega)) rfl ?_
    refine Zq 1 rfl (w0 rfl) rfl rfl rfl rfl (by first | omega | (simp; omega)) rfl rfl ?_
    refine Z8 (w0 rfl) rfl (Z6 (a + (ot - (b - a : Nat)).toNat) rfl rfl rfl (by first | omega | (simp only [List.length_map]; omega) | (simp only [List.length_map, List.length_drop]; omega)) (by first | omega | (simp only [List.length_map]; omega) | (simp only [List.length_map, List.length_drop]; omega)) (by omega)) rfl ?_
    refine Zq 1 rfl (w0 rfl) rfl rfl rfl rfl (by first | omega | (simp; omega)) rfl rfl ?_
    refine .done ?_
    refine Z2 ?_
    refine Z1 (w0 rfl) rfl (Z0 rfl rfl) ?_
    refine Z1 (w0 rfl) rfl (Z7 rfl rfl rfl (Zd (by first | omega | (simp only [List.length_map]; omega)))) ?_
    refine Z1 (w0 rfl) rfl (Z3 rfl rfl) ?_
    refine Z4 ?_
    refine ⟨(swp x.1 x.2.1 (a + (ot - (b - a : Nat)).toNat), x.2.1 + 1, v3), ⟨.step _ _ hJ.1 (by (try simp only) <;> omega) (by (try simp only) <;> omega) (by (try simp only) <;> omega), (by (try simp only) <;> omega)⟩, (by (try simp only) <;> omega), ?_⟩
    exact Zc [1, 0] ⟨rfl, rfl, rfl, rfl, rfl, rfl, trivial⟩ rfl (by decide) rfl rfl
   ·intro hc
    have hlt : ot < ((b - a : Nat) : Int) := by simpa using hc
    refine Zh ?_
    refine Z79 10 rfl (show _ = ((ot.toNat : Nat) : Int) by omega) ?_
    refine Z0m [0, 0, 0, 0, 0, 24, 0, 0, 0, 384, 960, 1984, 0, 0, 12288, 28672, 65475, 131011, 262143, 524287] [17, 19] [11, 15] rfl (by kernel_rfl) ?_
    refine Z8 (w0 rfl) rfl (Z0 rfl rfl) rfl ?_
    refine Z8 (w0 rfl) rfl (Z0 rfl rfl) rfl ?_
    refine Z8 (w0 rfl) rfl (Z0 rfl rfl) rfl ?_
    refine Z8 (w0 rfl) rfl (Z0 rfl rfl) rfl ?_
    refine Z8 (w0 rfl) rfl (Z0 rfl rfl) rfl ?_
    refine Z8 (w0 rfl) rfl (Z7 rfl rfl rfl (Zd (by first | omega | (simp only [List.length_map]; omega)))) rfl ?_
    refine Z8 (w0 rfl) rfl (Z0 rfl rfl) rfl ?_
    refine Z8 (w0 rfl) rfl (Z0 rfl rfl) rfl ?_
    refine Z8 (w0 rfl) rfl (Z0 rfl rfl) rfl ?_
    refine Z8 (w0 rfl) rfl (Z7 rfl rfl rfl (Zd (by first | omega | (simp only [List.length_map]; omega)))) rfl ?_
    refine Z8 (w0 rfl) rfl (Z6 (a + ot.toNat) rfl rfl rfl (by first | omega | (simp only [List.length_map]; omega) | (simp only [List.length_map, List.length_drop]; omega)) (by first | omega | (simp only [List.length_map]; omega) | (simp only [List.length_map, List.length_drop]; omega)) (by omega)) rfl ?_
    refine Zk 1 (w0 rfl) rfl rfl rfl rfl (Z02 (by first | assumption | omega | (simp only [List.length_drop]; omega))) Zo rfl rfl ?_
    refine Z8 (w0 rfl) rfl (Z0 rfl rfl) rfl ?_
    refine Z8 (w0 rfl) rfl (Z0 rfl rfl) rfl ?_
    refine Z8 (w0 rfl) rfl (Z6 x.2.1 rfl rfl rfl (by first | omega | (simp only [List.length_map]; omega) | (simp only [List.length_map, List.length_drop]; omega)) (by first | omega | (simp only [List.length_map]; omega) | (simp only [List.length_map, List.length_drop]; omega)) (by omega)) rfl ?_
    refine Zk 1 (w0 rfl) rfl rfl rfl rfl (Z02 (by first | assumption | omega | (simp only [List.length_drop]; omega))) Zo rfl rfl ?_
    refine Z8 (w0 rfl) rfl (Z6 x.2.1 rfl rfl rfl (by first | omega | (simp only [List.length_map]; omega) | (simp only [List.length_map, List.length_drop]; omega)) (by first | omega | (simp only [List.length_map]; omega) | (simp only [List.length_map, List.length_drop]; omega)) (by omega)) rfl ?_
    refine Zq 1 rfl (w0 rfl) rfl rfl rfl rfl (by first | omega | (simp; omega)) rfl rfl ?_
    refine Z8 (w0 rfl) rfl (Z6 (a + ot.toNat) rfl rfl rfl (by first | omega | (simp only [List.length_map]; omega) | (simp only [List.length_map, List.length_drop]; omega)) (by first | omega | (simp only [List.length_map]; omega) | (simp only [List.length_map, List.length_drop]; omega)) (by omega)) rfl ?_
    refine Zq 1 rfl (w0 rfl) rfl rfl rfl rfl (by first | omega | (simp; omega)) rfl rfl ?_
    refine .done ?_
    refine Z2 ?_
    refine Z1 (w0 rfl) rfl (Z0 rfl rfl) ?_
    refine Z1 (w0 rfl) rfl (Z7 rfl rfl rfl (Zd (by first | omega | (simp only [List.length_map]; omega)))) ?_
    refine Z1 (w0 rfl) rfl (Z3 rfl rfl) ?_
    refine Z4 ?_
    refine ⟨(swp x.1 x.2.1 (a + ot.toNat), x.2.1 + 1, v3), ⟨.step _ _ hJ.1 (by (try simp only) <;> omega) (by (try simp only) <;> omega) (by (try simp only) <;> omega), (by (try simp only) <;> omega)⟩, (by (try simp only) <;> omega), ?_⟩
    exact Zc [1, 0] ⟨rfl, rfl, rfl, rfl, rfl, rfl, trivial⟩ rfl (by decide) rfl rfl
  ·intro hc
   refine Zy ?_
   exact Zr rfl Ze (.cons_cons _ (.cons _ .slnil)) (gp x.1 hJ.1 rfl rfl)
 ·intro hc
  exfalso; simp at hc; omega
theorem Zjp (q n : Nat) (hN : n ≤ 140737488355328) (k : Nat) : ∀ (l : List Str) (hn : l.length = n) (a b : Nat) (lim : Int) (hk : b - a ≤ k) (ha : a ≤ b) (hb : b ≤ n) (hbd : Bd ltS a b l), ACalls Try.prog 57 [.own q 1 0 n, iA a, iA b, iA lim] [(q, .rows 9 1 (l.map fun x => [sA x]))] (GP (fun _ : List Str => mkRes []) (fun m => [(q, .rows 9 1 (m.map fun x => [sA x]))]) (fun m => Sw a b l m ∧ SOn ltS a b m)) := by
 induction k using Nat.strongRecOn with
 | _ k ih =>
 intro l hn a b lim hk ha hb hbd
 refine Zj (n := 134) Try.func57 rfl (by decide +kernel) rfl rfl ?_
 refine Z5 ?_
 refine Z2 ?_
 refine Z1 (w0 rfl) rfl (Z3 rfl rfl) ?_
 refine Z4 ?_
 refine Z5 ?_
 refine Z2 ?_
 refine Z1 (w0 rfl) rfl (Z3 rfl rfl) ?_
 refine Z4 ?_
 refine Zm ?_
 refine Z06 (α := List Str × Nat × Nat × Int × Bool × Bool) (fun x => ⟨[(8, bA x.2.2.2.2.1), (9, bA x.2.2.2.2.2), (0, .own q 1 0 n), (1, iA x.2.1), (2, iA x.2.2.1), (3, iA x.2.2.2.1)], [(q, .rows 9 1 (x.1.map fun x => [sA x]))], [], 134⟩) (fun x => Rest ltS a b l x.2.1 x.2.2.1 x.1) (fun x => x.2.2.1 - x.2.1) (l, a, b, lim, true, true) (Rest.start ha hbd) ?_ ?_
 ·exact Zc [0] ⟨rfl, rfl, rfl, rfl, rfl, rfl, trivial⟩ rfl (by decide) rfl rfl
 rintro x hJ
 have hm := hJ.sw.len
 have hA := hJ.ha
 have hB := hJ.hb
 have hAB := hJ.hab
 refine Zm ?_
 refine Z5 ?_
 refine Z2 ?_
 refine Z1 (w0 rfl) rfl (Z0 rfl rfl) ?_
 refine Z1 (w0 rfl) rfl (Z0 rfl rfl) ?_
 refine Z1 (w0 rfl) rfl (Zz (y := iA (x.2.2.1 - x.2.1 : Nat)) (Z7 rfl rfl rfl (Zg (by first | omega | (simp only [List.length_map]; omega)))) (congrArg iA (by omega))) ?_
 refine Z1 (w0 rfl) rfl (Z3 rfl rfl) ?_
 refine Z4 ?_
 refine Z5 ?_
 refine Z5 ?_
 refine Z2 ?_
 refine Z1 (w0 rfl) rfl (Z0 rfl rfl) ?_
 refine Z1 (w0 rfl) rfl (Zb rfl rfl rfl rfl) ?_
 refine Z4 ?_
 refine Za rfl ?_ ?_
 ·intro hc
  refine Z5 ?_
  refine Z2 ?_
  refine Z1 (w0 rfl) rfl (Z0 rfl rfl) ?_
  refine Z1 (w0 rfl) rfl (Z0 rfl rfl) ?_
  refine Z1 (w0 rfl) rfl (Z0 rfl rfl) ?_
  refine Zl [_] _ (w0 rfl) rfl rfl rfl rfl (Zu (k := 0) rfl) (Zch q n x.1 (by omega) hN x.2.1 x.2.2.1 hAB (by omega)) (fun v1 hv1 => ?_)
  refine Z4 ?_
  refine Zs ?_
  exact Zr rfl Ze (.cons_cons _ .slnil) (gp v1 ⟨hJ.sw.trans (hv1.1.mono hA hB (by omega)), hJ.fin _ hv1.1 (hv1.2.on ltS_ok)⟩ rfl rfl)
 ·intro hc
  have hlen : 12 < x.2.2.1 - x.2.1 := by simp at hc; omega
  refine Zh ?_
  refine Z5 ?_
  refine Z5 ?_
  refine Z2 ?_
  refine Z1 (w0 rfl) rfl (Z0 rfl rfl) ?_
  refine Z1 (w0 rfl) rfl (Zb rfl rfl rfl rfl) ?_
  refine Z4 ?_
  refine Za rfl ?_ ?_
  ·intro hc
   refine Z5 ?_
   refine Z2 ?_
   refine Z1 (w0 rfl) rfl (Z0 rfl rfl) ?_
   refine Z1 (w0 rfl) rfl (Z0 rfl rfl) ?_
   refine Z1 (w0 rfl) rfl (Z0 rfl rfl) ?_
   refine Zl [_] _ (w0 rfl) rfl rfl rfl rfl (Zu (k := 0) rfl) (Zbq q n x.1 (by omega) hN x.2.1 x.2.2.1 hAB (by omega)) (fun v2 hv2 => ?_)
   refine Z4 ?_
   refine Zs ?_
   exact Zr rfl Ze (.cons_cons _ .slnil) (gp v2 ⟨hJ.sw.trans (hv2.1.mono hA hB (by omega)), hJ.fin _ hv2.1 hv2.2⟩ rfl rfl)
  ·intro hc
   refine Zh ?_
   refine Z5 ?_
   refine Z5 ?_
   refine Z2 ?_
   refine Z1 (w0 rfl) rfl (Z0 rfl rfl) ?_
   refine Z1 (w0 rfl) rfl (Z0j rfl rfl) ?_
   refine Z4 ?_
   refine Za rfl ?_ ?_
   ·intro hc
    refine Z5 ?_
    refine Z2 ?_
    refine Z1 (w0 rfl) rfl (Z0 rfl rfl) ?_
    refine Z1 (w0 rfl) rfl (Z0 rfl rfl) ?_
    refine Z1 (w0 rfl) rfl (Z0 rfl rfl) ?_
    refine Zl [_] _ (w0 rfl) rfl rfl rfl rfl (Zu (k := 0) rfl) (Zgs q n x.1 (by omega) hN x.2.1 x.2.2.1 (by omega) (by omega)) (fun v3 hv3 => ?_)
    have hJ1 := hJ.move (by omega) hv3
    refine Z4 ?_
    refine Z2 ?_
    refine Z1 (w0 rfl) rfl (Z0 rfl rfl) ?_
    refine Z1 (w0 rfl) rfl (Z7 rfl rfl rfl rfl) ?_
    refine Z1 (w0 rfl) rfl (Z3 rfl rfl) ?_
    refine Z4 ?_
    refine Z5 ?_
    refine Z2 ?_
    refine Z1 (w0 rfl) rfl (Z0 rfl rfl) ?_
    refine Z1 (w0 rfl) rfl (Z0 rfl rfl) ?_
    refine Z1 (w0 rfl) rfl (Z0 rfl rfl) ?_
    refine Zl [_] _ (w0 rfl) rfl rfl rfl rfl (Zu (k := 0) rfl) (Zcl q n _ (by have := hJ1.sw.len; omega) hN x.2.1 x.2.2.1 (by omega) (by omega)) (fun v4 hv4 => ?_)
    refine Z1 (w0 rfl) rfl (Z0 rfl rfl) ?_
    refine Z1 (w0 rfl) rfl (Zv rfl rfl rfl) ?_
    refine Z1 (w0 rfl) rfl (Zv rfl rfl rfl) ?_
    refine Z1 (w0 rfl) rfl (Z3 rfl rfl) ?_
    refine Z1 (w0 rfl) rfl (Z3 rfl rfl) ?_
    refine Z4 ?_
    refine Z5 ?_
    refine Z5 ?_
    refine Z0a 11 rfl (fun pv hpv => ?_)
    have hp : x.2.1 ≤ pv ∧ pv < x.2.2.1 := by rw [hpv]; exact hv4
    refine Z2 ?_
    refine Z1 (w0 rfl) rfl (Z0 rfl rfl) ?_
    refine Z1 (w0 rfl) rfl (Zb rfl rfl rfl rfl) ?_
    refine Z4 ?_
    refine Za rfl ?_ ?_
    ·intro hc
     refine Z5 ?_
     refine Z2 ?_
     refine Z1 (w0 rfl) rfl (Z0 rfl rfl) ?_
     refine Z1 (w0 rfl) rfl (Z0 rfl rfl) ?_
     refine Z1 (w0 rfl) rfl (Z0 rfl rfl) ?_
     refine Zl [_] _ (w0 rfl) rfl rfl rfl rfl (Zu (k := 0) rfl) (Zif q n _ (by have := hJ1.sw.len; omega) hN x.2.1 x.2.2.1 (by omega) (by omega)) (fun v5 hv5 => ?_)
     have hJ2 := hJ1.move (by omega) hv5
     refine Z4 ?_
     refine Z5 ?_
     refine Z2 ?_
     refine Z1 (w0 rfl) rfl (Z0 rfl rfl) ?_
     refine Z1 (w0 rfl) rfl (Z7 rfl rfl rfl (Zg (by first | omega | (simp only [List.length_map]; omega)))) ?_
     refine Z1 (w0 rfl) rfl (Z0 rfl rfl) ?_
     refine Z1 (w0 rfl) rfl (Z0 rfl rfl) ?_
     refine Z1 (w0 rfl) rfl (Z7 rfl rfl rfl (Zg (by first | omega | (simp only [List.length_map]; omega)))) ?_
     refine Z1 (w0 rfl) rfl (Zz (y := iA (x.2.2.1 - 1 - (pv - x.2.1) : Nat)) (Z7 rfl rfl rfl (Zg (by first | omega | (simp only [List.length_map]; omega)))) (congrArg iA (by omega))) ?_
     refine Z1 (w0 rfl) rfl (Z3 rfl rfl) ?_
     refine Z4 ?_
     refine Z2 ?_
     refine Z1 (w0 rfl) rfl (Z3 rfl rfl) ?_
     refine Z4 ?_
     refine Z5 ?_
     refine Z5 ?_
     refine Z0a 11 rfl (fun p2 hp2 => ?_)
     have hp2' : x.2.1 ≤ p2 ∧ p2 < x.2.2.1 := by omega
     refine Z2 ?_
     refine Z1 (w0 rfl) rfl (Z0 rfl rfl) ?_
     refine Z1 (w0 rfl) rfl (Z0 rfl rfl) ?_
     refine Z0f (wT rfl rfl rfl rfl) rfl (fun hg => (Z0 rfl rfl)) ?_
     refine Z1 (w0 rfl) rfl (Z0h rfl rfl rfl (fun h => h)) ?_
     refine Z1 (w0 rfl) rfl (Z0 rfl rfl) ?_
     refine Z0f (wT rfl rfl rfl rfl) rfl (fun hg => (Z0 rfl rfl)) ?_
     refine Z0f (wT rfl rfl rfl rfl) rfl (fun hg => (Zb rfl (Z05 hg rfl) rfl rfl)) ?_
     refine Z1 (w0 rfl) rfl (Z0h rfl rfl rfl (fun h => h)) ?_
     refine Z4 ?_
     refine Za rfl ?_ ?_
     ·intro hc
      refine Z5 ?_
      refine Z2 ?_
      refine Z1 (w0 rfl) rfl (Z0 rfl rfl) ?_
      refine Z1 (w0 rfl) rfl (Z0 rfl rfl) ?_
      refine Z1 (w0 rfl) rfl (Z0 rfl rfl) ?_
      refine Zl [_] _ (w0 rfl) rfl rfl rfl rfl (Zu (k := 0) rfl) (Z3x q n _ (by have := hJ2.sw.len; omega) hN x.2.1 x.2.2.1 (by omega) (by omega) hJ2.bd) (fun v6 hv6 => ?_)
      have hJ3 := hJ2.move (by omega) hv6.1
      refine Z4 ?_
      refine Za rfl ?_ ?_
      ·intro hc
       refine Zs ?_
       exact Zr rfl Ze (.cons_cons _ .slnil) (gp v6.1 ⟨hJ3.sw, hJ2.fin _ hv6.1 ((hv6.2 hc).on ltS_ok)⟩ rfl rfl)
      ·intro hc
       have hl3 := hJ3.sw.len
       refine Zh ?_
       refine Z5 ?_
       refine Z5 ?_
       refine Z0i [0, 1, 3, 7, 7, 23, 63, 127, 7, 7, 775, 1799, 4095, 8191, 16383] 15 rfl (by kernel_rfl) ?_
       refine Z9 (w0 rfl) rfl (Z0 rfl rfl) ?_
       refine Z9 (w0 rfl) rfl (Zb rfl rfl rfl rfl) ?_
       refine Z9 (w0 rfl) rfl (Z0 rfl rfl) ?_
       refine Zi (wT rfl rfl rfl rfl) rfl (fun hg => (Z0 rfl rfl)) ?_
       refine Zi (wT rfl rfl rfl rfl) rfl (fun hg => (Z0 rfl rfl)) ?_
       refine Zi (wT rfl rfl rfl rfl) rfl (fun hg => (Z7 rfl (Z05 hg rfl) rfl (Zg (by first | omega | (simp only [List.length_map]; omega))))) ?_
       refine Zi (wT rfl rfl rfl rfl) rfl (fun hg => (Z6 (x.2.1 - 1) rfl (Z05 hg rfl) (Z05 hg rfl) (by (try simp at hg) <;> first | omega | (simp only [List.length_map]; omega) | (simp only [List.length_map, List.length_drop]; omega)) (by (try simp at hg) <;> first | omega | (simp only [List.length_map]; omega) | (simp only [List.length_map, List.length_drop]; omega)) (by omega))) ?_
       refine Zt 0 (wT rfl rfl rfl rfl) rfl rfl (fun hg => (Z05 hg rfl)) rfl (fun hg => by (try simp at hg) <;> (first | assumption | omega | (simp only [List.length_drop]; omega))) (fun _ => Zo) ?_
       refine Zi (wT rfl rfl rfl rfl) rfl (fun hg => (Z0 rfl rfl)) ?_
       refine Zi (wT rfl rfl rfl rfl) rfl (fun hg => (Z0 rfl rfl)) ?_
       refine Zi (wT rfl rfl rfl rfl) rfl (fun hg => (Z6 p2 rfl (Z05 hg rfl) (Z05 hg rfl) (by (try simp at hg) <;> first | omega | (simp only [List.length_map]; omega) | (simp only [List.length_map, List.length_drop]; omega)) (by (try simp at hg) <;> first | omega | (simp only [List.length_map]; omega) | (simp only [List.length_map, List.length_drop]; omega)) (by omega))) ?_
       refine Zt 0 (wT rfl rfl rfl rfl) rfl rfl (fun hg => (Z05 hg rfl)) rfl (fun hg => by (try simp at hg) <;> (first | assumption | omega | (simp only [List.length_drop]; omega))) (fun _ => Zo) ?_
       refine Zi (wT rfl rfl rfl rfl) rfl (fun hg => (Zp [] rfl rfl (Zn (Z05 hg rfl) (Zn (Z05 hg rfl) Z0e)) (Z11 _ _) List.nodup_nil)) ?_
       refine Zi (wT rfl rfl rfl rfl) rfl (fun hg => (Z0j rfl (Z05 hg rfl))) ?_
       refine Z9 (w0 rfl) rfl (Z0h rfl rfl rfl (fun h => h)) ?_
       refine .done ?_
       refine Z4 ?_
       refine Za rfl ?_ ?_
       ·intro hc
        have ha0 : 0 < x.2.1 := by have := Z78 hc; simpa using this
        have hpe := Z6j (Z6k hc)
        refine Z5 ?_
        refine Z2 ?_
        refine Z1 (w0 rfl) rfl (Z0 rfl rfl) ?_
        refine Z1 (w0 rfl) rfl (Z0 rfl rfl) ?_
        refine Z1 (w0 rfl) rfl (Z0 rfl rfl) ?_
        refine Z1 (w0 rfl) rfl (Z0 rfl rfl) ?_
        refine Zl [_] _ (w0 rfl) rfl rfl rfl rfl (Zu (k := 0) rfl) (Z2w q n _ (by omega) hN x.2.1 x.2.2.1 p2 hp2'.1 hp2'.2 (by omega)) (fun v7 hv7 => ?_)
        refine Z1 (w0 rfl) rfl (Z3 rfl rfl) ?_
        refine Z4 ?_
        refine Z5 ?_
        refine Z2 ?_
        refine Z1 (w0 rfl) rfl (Z0 rfl rfl) ?_
        refine Z1 (w0 rfl) rfl (Z3 rfl rfl) ?_
        refine Z4 ?_
        refine Zy ?_
        refine ⟨(v7.1, v7.2, x.2.2.1, IntKind.i64.wrap (x.2.2.2.1 - 1), x.2.2.2.2.1, x.2.2.2.2.2), (by obtain ⟨j, e, he⟩ := hv7.2.2.2.2; exact (hJ3.move (by omega) hv7.1).equal ltS_ok (by omega) ha0 (by rw [hv7.1.out (.inl (by omega)), hv7.2.2.2.1]; exact hpe) he e hv7.2.1 hv7.2.2.1), (by (try simp only) <;> (have := hv7.2.1; omega)), ?_⟩
        exact Zc [0] ⟨rfl, rfl, rfl, rfl, rfl, rfl, trivial⟩ rfl (by decide) rfl rfl
       ·intro hc
        refine Zh ?_
        refine Z5 ?_
        refine Z2 ?_
        refine Z1 (w0 rfl) rfl (Z0 rfl rfl) ?_
        refine Z1 (w0 rfl) rfl (Z0 rfl rfl) ?_
        refine Z1 (w0 rfl) rfl (Z0 rfl rfl) ?_
        refine Z1 (w0 rfl) rfl (Z0 rfl rfl) ?_
        refine Zl [_] _ (w0 rfl) rfl rfl rfl rfl (Zu (k := 0) rfl) (Z4p q n _ (by omega) hN x.2.1 x.2.2.1 p2 hp2'.1 hp2'.2 (by omega)) (fun v8 hv8 => ?_)
        refine Z1 (w0 rfl) rfl (Z0 rfl rfl) ?_
        refine Z1 (w0 rfl) rfl (Zv rfl rfl rfl) ?_
        refine Z1 (w0 rfl) rfl (Zv rfl rfl rfl) ?_
        refine Z1 (w0 rfl) rfl (Z3 rfl rfl) ?_
        refine Z1 (w0 rfl) rfl (Z3 rfl rfl) ?_
        refine Z4 ?_
        refine Z5 ?_
        refine Z2 ?_
        refine Z1 (w0 rfl) rfl (Z0 rfl rfl) ?_
        refine Z1 (w0 rfl) rfl (Z3 rfl rfl) ?_
        refine Z4 ?_
        refine Z5 ?_
        have hJ4 := hJ3.move (by omega) hv8.1
        have hl4 := hJ4.sw.len
        have hmid : x.2.1 ≤ v8.2.1 ∧ v8.2.1 < x.2.2.1 := ⟨hv8.2.1, hv8.2.2.1⟩
        refine Z2 ?_
        refine Z1 (w0 rfl) rfl (Z0 rfl rfl) ?_
        refine Z1 (w0 rfl) rfl (Z0 rfl rfl) ?_
        refine Z1 (w0 rfl) rfl (Z7 rfl rfl rfl (Zg (by first | omega | (simp only [List.length_map]; omega)))) ?_
        refine Z1 (w0 rfl) rfl (Z0 rfl rfl) ?_
        refine Z1 (w0 rfl) rfl (Z0 rfl rfl) ?_
        refine Z1 (w0 rfl) rfl (Z7 rfl rfl rfl (Zg (by first | omega | (simp only [List.length_map]; omega)))) ?_
        refine Z1 (w0 rfl) rfl (Z3 rfl rfl) ?_
        refine Z1 (w0 rfl) rfl (Z3 rfl rfl) ?_
        refine Z4 ?_
        refine Z5 ?_
        refine Z2 ?_
        refine Z1 (w0 rfl) rfl (Z0 rfl rfl) ?_
        refine Z1 (w0 rfl) rfl (Zz (y := iA ((x.2.2.1 - x.2.1) / 8 : Nat)) (Z1g rfl rfl rfl (by decide) (Z13 (x.2.2.1 - x.2.1) 8 (by omega))) (congrArg iA (Z3q (x.2.2.1 - x.2.1) 8))) ?_
        refine Z1 (w0 rfl) rfl (Z3 rfl rfl) ?_
        refine Z4 ?_
        refine Z5 ?_
        refine Z2 ?_
        refine Z1 (w0 rfl) rfl (Z0 rfl rfl) ?_
        refine Z1 (w0 rfl) rfl (Z0 rfl rfl) ?_
        refine Z1 (w0 rfl) rfl (Zb rfl rfl rfl rfl) ?_
        refine Z4 ?_
        refine Za rfl ?_ ?_
        ·intro hc
         refine Z5 ?_
         refine Z2 ?_
         refine Z1 (w0 rfl) rfl (Z0 rfl rfl) ?_
         refine Z1 (w0 rfl) rfl (Z0 rfl rfl) ?_
         refine Z1 (w0 rfl) rfl (Zb rfl rfl rfl rfl) ?_
         refine Z1 (w0 rfl) rfl (Z3 rfl rfl) ?_
         refine Z4 ?_
         refine Z5 ?_
         refine Z0q 8 rfl (fun wb hwb => ?_)
         refine Z2 ?_
         refine Z1 (w0 rfl) rfl (Z0 rfl rfl) ?_
         refine Z1 (w0 rfl) rfl (Z0 rfl rfl) ?_
         refine Z1 (w0 rfl) rfl (Z0 rfl rfl) ?_
         refine Z1 (w0 rfl) rfl (Z0 rfl rfl) ?_
         refine Zl [_] _ (w0 rfl) rfl rfl rfl rfl (Zu (k := 0) rfl) (ih (v8.2.1 - x.2.1) (by omega) _ (by omega) x.2.1 v8.2.1 _ (Nat.le_refl _) (by omega) (by omega) (hJ4.bd.le (by omega))) (fun v9 hv9 => ?_)
         refine Z4 ?_
         refine Z2 ?_
         refine Z1 (w0 rfl) rfl (Z0 rfl rfl) ?_
         refine Z1 (w0 rfl) rfl (Z7 rfl rfl rfl (Zd (by first | omega | (simp only [List.length_map]; omega)))) ?_
         refine Z1 (w0 rfl) rfl (Z3 rfl rfl) ?_
         refine Z4 ?_
         refine ⟨(v9, v8.2.1 + 1, x.2.2.1, IntKind.i64.wrap (x.2.2.2.1 - 1), wb, v8.2.2), (hJ4.lower ltS_ok (by omega) hmid hv8.2.2.2 hv9.1 hv9.2), (by (try simp only) <;> omega), ?_⟩
         exact Zc [0] ⟨rfl, rfl, rfl, rfl, rfl, rfl, trivial⟩ rfl (by decide) rfl rfl
        ·intro hc
         refine Z5 ?_
         refine Z2 ?_
         refine Z1 (w0 rfl) rfl (Z0 rfl rfl) ?_
         refine Z1 (w0 rfl) rfl (Z0 rfl rfl) ?_
         refine Z1 (w0 rfl) rfl (Zb rfl rfl rfl rfl) ?_
         refine Z1 (w0 rfl) rfl (Z3 rfl rfl) ?_
         refine Z4 ?_
         refine Z5 ?_
         refine Z0q 8 rfl (fun wb hwb => ?_)
         refine Z2 ?_
         refine Z1 (w0 rfl) rfl (Z0 rfl rfl) ?_
         refine Z1 (w0 rfl) rfl (Z0 rfl rfl) ?_
         refine Z1 (w0 rfl) rfl (Z7 rfl rfl rfl (Zd (by first | omega | (simp only [List.length_map]; omega)))) ?_
         refine Z1 (w0 rfl) rfl (Z0 rfl rfl) ?_
         refine Z1 (w0 rfl) rfl (Z0 rfl rfl) ?_
         refine Zl [_] _ (w0 rfl) rfl rfl rfl rfl (Zu (k := 0) rfl) (ih (x.2.2.1 - (v8.2.1 + 1)) (by omega) _ (by omega) (v8.2.1 + 1) x.2.2.1 _ (Nat.le_refl _) (by omega) (by omega) hv8.2.2.2.bd) (fun v10 hv10 => ?_)
         refine Z4 ?_
         refine Z2 ?_
         refine Z1 (w0 rfl) rfl (Z0 rfl rfl) ?_
         refine Z1 (w0 rfl) rfl (Z3 rfl rfl) ?_
         refine Z4 ?_
         refine ⟨(v10, x.2.1, v8.2.1, IntKind.i64.wrap (x.2.2.2.1 - 1), wb, v8.2.2), (hJ4.upper ltS_ok (by omega) hmid hv8.2.2.2 hv10.1 hv10.2), (by (try simp only) <;> omega), ?_⟩
         exact Zc [0] ⟨rfl, rfl, rfl, rfl, rfl, rfl, trivial⟩ rfl (by decide) rfl rfl
     ·intro hc
      have hJ3 := hJ2
      have hl3 := hJ3.sw.len
      refine Zh ?_
      refine Z5 ?_
      refine Z5 ?_
      refine Z0i [0, 1, 3, 7, 7, 23, 63, 127, 7, 7, 775, 1799, 4095, 8191, 16383] 15 rfl (by kernel_rfl) ?_
      refine Z9 (w0 rfl) rfl (Z0 rfl rfl) ?_
      refine Z9 (w0 rfl) rfl (Zb rfl rfl rfl rfl) ?_
      refine Z9 (w0 rfl) rfl (Z0 rfl rfl) ?_
      refine Zi (wT rfl rfl rfl rfl) rfl (fun hg => (Z0 rfl rfl)) ?_
      refine Zi (wT rfl rfl rfl rfl) rfl (fun hg => (Z0 rfl rfl)) ?_
      refine Zi (wT rfl rfl rfl rfl) rfl (fun hg => (Z7 rfl (Z05 hg rfl) rfl (Zg (by first | omega | (simp only [List.length_map]; omega))))) ?_
      refine Zi (wT rfl rfl rfl rfl) rfl (fun hg => (Z6 (x.2.1 - 1) rfl (Z05 hg rfl) (Z05 hg rfl) (by (try simp at hg) <;> first | omega | (simp only [List.length_map]; omega) | (simp only [List.length_map, List.length_drop]; omega)) (by (try simp at hg) <;> first | omega | (simp only [List.length_map]; omega) | (simp only [List.length_map, List.length_drop]; omega)) (by omega))) ?_
      refine Zt 0 (wT rfl rfl rfl rfl) rfl rfl (fun hg => (Z05 hg rfl)) rfl (fun hg => by (try simp at hg) <;> (first | assumption | omega | (simp only [List.length_drop]; omega))) (fun _ => Zo) ?_
      refine Zi (wT rfl rfl rfl rfl) rfl (fun hg => (Z0 rfl rfl)) ?_
      refine Zi (wT rfl rfl rfl rfl) rfl (fun hg => (Z0 rfl rfl)) ?_
      refine Zi (wT rfl rfl rfl rfl) rfl (fun hg => (Z6 p2 rfl (Z05 hg rfl) (Z05 hg rfl) (by (try simp at hg) <;> first | omega | (simp only [List.length_map]; omega) | (simp only [List.length_map, List.length_drop]; omega)) (by (try simp at hg) <;> first | omega | (simp only [List.length_map]; omega) | (simp only [List.length_map, List.length_drop]; omega)) (by omega))) ?_
      refine Zt 0 (wT rfl rfl rfl rfl) rfl rfl (fun hg => (Z05 hg rfl)) rfl (fun hg => by (try simp at hg) <;> (first | assumption | omega | (simp only [List.length_drop]; omega))) (fun _ => Zo) ?_
      refine Zi (wT rfl rfl rfl rfl) rfl (fun hg => (Zp [] rfl rfl (Zn (Z05 hg rfl) (Zn (Z05 hg rfl) Z0e)) (Z11 _ _) List.nodup_nil)) ?_
      refine Zi (wT rfl rfl rfl rfl) rfl (fun hg => (Z0j rfl (Z05 hg rfl))) ?_
      refine Z9 (w0 rfl) rfl (Z0h rfl rfl rfl (fun h => h)) ?_
      refine .done ?_
      refine Z4 ?_
      refine Za rfl ?_ ?_
      ·intro hc
       have ha0 : 0 < x.2.1 := by have := Z78 hc; simpa using this
       have hpe := Z6j (Z6k hc)
       refine Z5 ?_
       refine Z2 ?_
       refine Z1 (w0 rfl) rfl (Z0 rfl rfl) ?_
       refine Z1 (w0 rfl) rfl (Z0 rfl rfl) ?_
       refine Z1 (w0 rfl) rfl (Z0 rfl rfl) ?_
       refine Z1 (w0 rfl) rfl (Z0 rfl rfl) ?_
       refine Zl [_] _ (w0 rfl) rfl rfl rfl rfl (Zu (k := 0) rfl) (Z2w q n _ (by omega) hN x.2.1 x.2.2.1 p2 hp2'.1 hp2'.2 (by omega)) (fun v11 hv11 => ?_)
       refine Z1 (w0 rfl) rfl (Z3 rfl rfl) ?_
       refine Z4 ?_
       refine Z5 ?_
       refine Z2 ?_
       refine Z1 (w0 rfl) rfl (Z0 rfl rfl) ?_
       refine Z1 (w0 rfl) rfl (Z3 rfl rfl) ?_
       refine Z4 ?_
       refine Zy ?_
       refine ⟨(v11.1, v11.2, x.2.2.1, IntKind.i64.wrap (x.2.2.2.1 - 1), x.2.2.2.2.1, x.2.2.2.2.2), (by obtain ⟨j, e, he⟩ := hv11.2.2.2.2; exact (hJ3.move (by omega) hv11.1).equal ltS_ok (by omega) ha0 (by rw [hv11.1.out (.inl (by omega)), hv11.2.2.2.1]; exact hpe) he e hv11.2.1 hv11.2.2.1), (by (try simp only) <;> (have := hv11.2.1; omega)), ?_⟩
       exact Zc [0] ⟨rfl, rfl, rfl, rfl, rfl, rfl, trivial⟩ rfl (by decide) rfl rfl
      ·intro hc
       refine Zh ?_
       refine Z5 ?_
       refine Z2 ?_
       refine Z1 (w0 rfl) rfl (Z0 rfl rfl) ?_
       refine Z1 (w0 rfl) rfl (Z0 rfl rfl) ?_
       refine Z1 (w0 rfl) rfl (Z0 rfl rfl) ?_
       refine Z1 (w0 rfl) rfl (Z0 rfl rfl) ?_
       refine Zl [_] _ (w0 rfl) rfl rfl rfl rfl (Zu (k := 0) rfl) (Z4p q n _ (by omega) hN x.2.1 x.2.2.1 p2 hp2'.1 hp2'.2 (by omega)) (fun v12 hv12 => ?_)
       refine Z1 (w0 rfl) rfl (Z0 rfl rfl) ?_
       refine Z1 (w0 rfl) rfl (Zv rfl rfl rfl) ?_
       refine Z1 (w0 rfl) rfl (Zv rfl rfl rfl) ?_
       refine Z1 (w0 rfl) rfl (Z3 rfl rfl) ?_
       refine Z1 (w0 rfl) rfl (Z3 rfl rfl) ?_
       refine Z4 ?_
       refine Z5 ?_
       refine Z2 ?_
       refine Z1 (w0 rfl) rfl (Z0 rfl rfl) ?_
       refine Z1 (w0 rfl) rfl (Z3 rfl rfl) ?_
       refine Z4 ?_
       refine Z5 ?_
       have hJ4 := hJ3.move (by omega) hv12.1
       have hl4 := hJ4.sw.len
       have hmid : x.2.1 ≤ v12.2.1 ∧ v12.2.1 < x.2.2.1 := ⟨hv12.2.1, hv12.2.2.1⟩
       refine Z2 ?_
       refine Z1 (w0 rfl) rfl (Z0 rfl rfl) ?_
       refine Z1 (w0 rfl) rfl (Z0 rfl rfl) ?_
       refine Z1 (w0 rfl) rfl (Z7 rfl rfl rfl (Zg (by first | omega | (simp only [List.length_map]; omega)))) ?_
       refine Z1 (w0 rfl) rfl (Z0 rfl rfl) ?_
       refine Z1 (w0 rfl) rfl (Z0 rfl rfl) ?_
       refine Z1 (w0 rfl) rfl (Z7 rfl rfl rfl (Zg (by first | omega | (simp only [List.length_map]; omega)))) ?_
       refine Z1 (w0 rfl) rfl (Z3 rfl rfl) ?_
       refine Z1 (w0 rfl) rfl (Z3 rfl rfl) ?_
       refine Z4 ?_
       refine Z5 ?_
       refine Z2 ?_
       refine Z1 (w0 rfl) rfl (Z0 rfl rfl) ?_
       refine Z1 (w0 rfl) rfl (Zz (y := iA ((x.2.2.1 - x.2.1) / 8 : Nat)) (Z1g rfl rfl rfl (by decide) (Z13 (x.2.2.1 - x.2.1) 8 (by omega))) (congrArg iA (Z3q (x.2.2.1 - x.2.1) 8))) ?_
       refine Z1 (w0 rfl) rfl (Z3 rfl rfl) ?_
       refine Z4 ?_
       refine Z5 ?_
       refine Z2 ?_
       refine Z1 (w0 rfl) rfl (Z0 rfl rfl) ?_
       refine Z1 (w0 rfl) rfl (Z0 rfl rfl) ?_
       refine Z1 (w0 rfl) rfl (Zb rfl rfl rfl rfl) ?_
       refine Z4 ?_
       refine Za rfl ?_ ?_
       ·intro hc
        refine Z5 ?_
        refine Z2 ?_
        refine Z1 (w0 rfl) rfl (Z0 rfl rfl) ?_
        refine Z1 (w0 rfl) rfl (Z0 rfl rfl) ?_
        refine Z1 (w0 rfl) rfl (Zb rfl rfl rfl rfl) ?_
        refine Z1 (w0 rfl) rfl (Z3 rfl rfl) ?_
        refine Z4 ?_
        refine Z5 ?_
        refine Z0q 8 rfl (fun wb hwb => ?_)
        refine Z2 ?_
        refine Z1 (w0 rfl) rfl (Z0 rfl rfl) ?_
        refine Z1 (w0 rfl) rfl (Z0 rfl rfl) ?_
        refine Z1 (w0 rfl) rfl (Z0 rfl rfl) ?_
        refine Z1 (w0 rfl) rfl (Z0 rfl rfl) ?_
        refine Zl [_] _ (w0 rfl) rfl rfl rfl rfl (Zu (k := 0) rfl) (ih (v12.2.1 - x.2.1) (by omega) _ (by omega) x.2.1 v12.2.1 _ (Nat.le_refl _) (by omega) (by omega) (hJ4.bd.le (by omega))) (fun v13 hv13 => ?_)
        refine Z4 ?_
        refine Z2 ?_
        refine Z1 (w0 rfl) rfl (Z0 rfl rfl) ?_
        refine Z1 (w0 rfl) rfl (Z7 rfl rfl rfl (Zd (by first | omega | (simp only [List.length_map]; omega)))) ?_
        refine Z1 (w0 rfl) rfl (Z3 rfl rfl) ?_
        refine Z4 ?_
        refine ⟨(v13, v12.2.1 + 1, x.2.2.1, IntKind.i64.wrap (x.2.2.2.1 - 1), wb, v12.2.2), (hJ4.lower ltS_ok (by omega) hmid hv12.2.2.2 hv13.1 hv13.2), (by (try simp only) <;> omega), ?_⟩
        exact Zc [0] ⟨rfl, rfl, rfl, rfl, rfl, rfl, trivial⟩ rfl (by decide) rfl rfl
       ·intro hc
        refine Z5 ?_
        refine Z2 ?_
        refine Z1 (w0 rfl) rfl (Z0 rfl rfl) ?_
        refine Z1 (w0 rfl) rfl (Z0 rfl rfl) ?_
        refine Z1 (w0 rfl) rfl (Zb rfl rfl rfl rfl) ?_
        refine Z1 (w0 rfl) rfl (Z3 rfl rfl) ?_
        refine Z4 ?_
        refine Z5 ?_
        refine Z0q 8 rfl (fun wb hwb => ?_)
        refine Z2 ?_
        refine Z1 (w0 rfl) rfl (Z0 rfl rfl) ?_
        refine Z1 (w0 rfl) rfl (Z0 rfl rfl) ?_
        refine Z1 (w0 rfl) rfl (Z7 rfl rfl rfl (Zd (by first | omega | (simp only [List.length_map]; omega)))) ?_
        refine Z1 (w0 rfl) rfl (Z0 rfl rfl) ?_
        refine Z1 (w0 rfl) rfl (Z0 rfl rfl) ?_
        refine Zl [_] _ (w0 rfl) rfl rfl rfl rfl (Zu (k := 0) rfl) (ih (x.2.2.1 - (v12.2.1 + 1)) (by omega) _ (by omega) (v12.2.1 + 1) x.2.2.1 _ (Nat.le_refl _) (by omega) (by omega) hv12.2.2.2.bd) (fun v14 hv14 => ?_)
        refine Z4 ?_
        refine Z2 ?_
        refine Z1 (w0 rfl) rfl (Z0 rfl rfl) ?_
        refine Z1 (w0 rfl) rfl (Z3 rfl rfl) ?_
        refine Z4 ?_
        refine ⟨(v14, x.2.1, v12.2.1, IntKind.i64.wrap (x.2.2.2.1 - 1), wb, v12.2.2), (hJ4.upper ltS_ok (by omega) hmid hv12.2.2.2 hv14.1 hv14.2), (by (try simp only) <;> omega), ?_⟩
        exact Zc [0] ⟨rfl, rfl, rfl, rfl, rfl, rfl, trivial⟩ rfl (by decide) rfl rfl
    ·intro hc
     have hJ2 := hJ1
     refine Zh ?_
     refine Z5 ?_
     refine Z5 ?_
     refine Z0a 11 rfl (fun p2 hp2 => ?_)
     have hp2' : x.2.1 ≤ p2 ∧ p2 < x.2.2.1 := by omega
     refine Z2 ?_
     refine Z1 (w0 rfl) rfl (Z0 rfl rfl) ?_
     refine Z1 (w0 rfl) rfl (Z0 rfl rfl) ?_
     refine Z0f (wT rfl rfl rfl rfl) rfl (fun hg => (Z0 rfl rfl)) ?_
     refine Z1 (w0 rfl) rfl (Z0h rfl rfl rfl (fun h => h)) ?_
     refine Z1 (w0 rfl) rfl (Z0 rfl rfl) ?_
     refine Z0f (wT rfl rfl rfl rfl) rfl (fun hg => (Z0 rfl rfl)) ?_
     refine Z0f (wT rfl rfl rfl rfl) rfl (fun hg => (Zb rfl (Z05 hg rfl) rfl rfl)) ?_
     refine Z1 (w0 rfl) rfl (Z0h rfl rfl rfl (fun h => h)) ?_
     refine Z4 ?_
     refine Za rfl ?_ ?_
     ·intro hc
      refine Z5 ?_
      refine Z2 ?_
      refine Z1 (w0 rfl) rfl (Z0 rfl rfl) ?_
      refine Z1 (w0 rfl) rfl (Z0 rfl rfl) ?_
      refine Z1 (w0 rfl) rfl (Z0 rfl rfl) ?_
      refine Zl [_] _ (w0 rfl) rfl rfl rfl rfl (Zu (k := 0) rfl) (Z3x q n _ (by have := hJ2.sw.len; omega) hN x.2.1 x.2.2.1 (by omega) (by omega) hJ2.bd) (fun v15 hv15 => ?_)
      have hJ3 := hJ2.move (by omega) hv15.1
      refine Z4 ?_
      refine Za rfl ?_ ?_
      ·intro hc
       refine Zs ?_
       exact Zr rfl Ze (.cons_cons _ .slnil) (gp v15.1 ⟨hJ3.sw, hJ2.fin _ hv15.1 ((hv15.2 hc).on ltS_ok)⟩ rfl rfl)
      ·intro hc
       have hl3 := hJ3.sw.len
       refine Zh ?_
       refine Z5 ?_
       refine Z5 ?_
       refine Z0i [0, 1, 3, 7, 7, 23, 63, 127, 7, 7, 775, 1799, 4095, 8191, 16383] 15 rfl (by kernel_rfl) ?_
       refine Z9 (w0 rfl) rfl (Z0 rfl rfl) ?_
       refine Z9 (w0 rfl) rfl (Zb rfl rfl rfl rfl) ?_
       refine Z9 (w0 rfl) rfl (Z0 rfl rfl) ?_
       refine Zi (wT rfl rfl rfl rfl) rfl (fun hg => (Z0 rfl rfl)) ?_
       refine Zi (wT rfl rfl rfl rfl) rfl (fun hg => (Z0 rfl rfl)) ?_
       refine Zi (wT rfl rfl rfl rfl) rfl (fun hg => (Z7 rfl (Z05 hg rfl) rfl (Zg (by first | omega | (simp only [List.length_map]; omega))))) ?_
       refine Zi (wT rfl rfl rfl rfl) rfl (fun hg => (Z6 (x.2.1 - 1) rfl (Z05 hg rfl) (Z05 hg rfl) (by (try simp at hg) <;> first | omega | (simp only [List.length_map]; omega) | (simp only [List.length_map, List.length_drop]; omega)) (by (try simp at hg) <;> first | omega | (simp only [List.length_map]; omega) | (simp only [List.length_map, List.length_drop]; omega)) (by omega))) ?_
       refine Zt 0 (wT rfl rfl rfl rfl) rfl rfl (fun hg => (Z05 hg rfl)) rfl (fun hg => by (try simp at hg) <;> (first | assumption | omega | (simp only [List.length_drop]; omega))) (fun _ => Zo) ?_
       refine Zi (wT rfl rfl rfl rfl) rfl (fun hg => (Z0 rfl rfl)) ?_
       refine Zi (wT rfl rfl rfl rfl) rfl (fun hg => (Z0 rfl rfl)) ?_
       refine Zi (wT rfl rfl rfl rfl) rfl (fun hg => (Z6 p2 rfl (Z05 hg rfl) (Z05 hg rfl) (by (try simp at hg) <;> first | omega | (simp only [List.length_map]; omega) | (simp only [List.length_map, List.length_drop]; omega)) (by (try simp at hg) <;> first | omega | (simp only [List.length_map]; omega) | (simp only [List.length_map, List.length_drop]; omega)) (by omega))) ?_
       refine Zt 0 (wT rfl rfl rfl rfl) rfl rfl (fun hg => (Z05 hg rfl)) rfl (fun hg => by (try simp at hg) <;> (first | assumption | omega | (simp only [List.length_drop]; omega))) (fun _ => Zo) ?_
       refine Zi (wT rfl rfl rfl rfl) rfl (fun hg => (Zp [] rfl rfl (Zn (Z05 hg rfl) (Zn (Z05 hg rfl) Z0e)) (Z11 _ _) List.nodup_nil)) ?_
       refine Zi (wT rfl rfl rfl rfl) rfl (fun hg => (Z0j rfl (Z05 hg rfl))) ?_
       refine Z9 (w0 rfl) rfl (Z0h rfl rfl rfl (fun h => h)) ?_
       refine .done ?_
       refine Z4 ?_
       refine Za rfl ?_ ?_
       ·intro hc
        have ha0 : 0 < x.2.1 := by have := Z78 hc; simpa using this
        have hpe := Z6j (Z6k hc)
        refine Z5 ?_
        refine Z2 ?_
        refine Z1 (w0 rfl) rfl (Z0 rfl rfl) ?_
        refine Z1 (w0 rfl) rfl (Z0 rfl rfl) ?_
        refine Z1 (w0 rfl) rfl (Z0 rfl rfl) ?_
        refine Z1 (w0 rfl) rfl (Z0 rfl rfl) ?_
        refine Zl [_] _ (w0 rfl) rfl rfl rfl rfl (Zu (k := 0) rfl) (Z2w q n _ (by omega) hN x.2.1 x.2.2.1 p2 hp2'.1 hp2'.2 (by omega)) (fun v16 hv16 => ?_)
        refine Z1 (w0 rfl) rfl (Z3 rfl rfl) ?_
        refine Z4 ?_
        refine Z5 ?_
        refine Z2 ?_
        refine Z1 (w0 rfl) rfl (Z0 rfl rfl) ?_
        refine Z1 (w0 rfl) rfl (Z3 rfl rfl) ?_
        refine Z4 ?_
        refine Zy ?_
        refine ⟨(v16.1, v16.2, x.2.2.1, IntKind.i64.wrap (x.2.2.2.1 - 1), x.2.2.2.2.1, x.2.2.2.2.2), (by obtain ⟨j, e, he⟩ := hv16.2.2.2.2; exact (hJ3.move (by omega) hv16.1).equal ltS_ok (by omega) ha0 (by rw [hv16.1.out (.inl (by omega)), hv16.2.2.2.1]; exact hpe) he e hv16.2.1 hv16.2.2.1), (by (try simp only) <;> (have := hv16.2.1; omega)), ?_⟩
        exact Zc [0] ⟨rfl, rfl, rfl, rfl, rfl, rfl, trivial⟩ rfl (by decide) rfl rfl
       ·intro hc
        refine Zh ?_
        refine Z5 ?_
        refine Z2 ?_
        refine Z1 (w0 rfl) rfl (Z0 rfl rfl) ?_
        refine Z1 (w0 rfl) rfl (Z0 rfl rfl) ?_
        refine Z1 (w0 rfl) rfl (Z0 rfl rfl) ?_
        refine Z1 (w0 rfl) rfl (Z0 rfl rfl) ?_
        refine Zl [_] _ (w0 rfl) rfl rfl rfl rfl (Zu (k := 0) rfl) (Z4p q n _ (by omega) hN x.2.1 x.2.2.1 p2 hp2'.1 hp2'.2 (by omega)) (fun v17 hv17 => ?_)
        refine Z1 (w0 rfl) rfl (Z0 rfl rfl) ?_
        refine Z1 (w0 rfl) rfl (Zv rfl rfl rfl) ?_
        refine Z1 (w0 rfl) rfl (Zv rfl rfl rfl) ?_
        refine Z1 (w0 rfl) rfl (Z3 rfl rfl) ?_
        refine Z1 (w0 rfl) rfl (Z3 rfl rfl) ?_
        refine Z4 ?_
        refine Z5 ?_
        refine Z2 ?_
        refine Z1 (w0 rfl) rfl (Z0 rfl rfl) ?_
        refine Z1 (w0 rfl) rfl (Z3 rfl rfl) ?_
        refine Z4 ?_
        refine Z5 ?_
        have hJ4 := hJ3.move (by omega) hv17.1
        have hl4 := hJ4.sw.len
        have hmid : x.2.1 ≤ v17.2.1 ∧ v17.2.1 < x.2.2.1 := ⟨hv17.2.1, hv17.2.2.1⟩
        refine Z2 ?_
        refine Z1 (w0 rfl) rfl (Z0 rfl rfl) ?_
        refine Z1 (w0 rfl) rfl (Z0 rfl rfl) ?_
        refine Z1 (w0 rfl) rfl (Z7 rfl rfl rfl (Zg (by first | omega | (simp only [List.length_map]; omega)))) ?_
        refine Z1 (w0 rfl) rfl (Z0 rfl rfl) ?_
        refine Z1 (w0 rfl) rfl (Z0 rfl rfl) ?_
        refine Z1 (w0 rfl) rfl (Z7 rfl rfl rfl (Zg (by first | omega | (simp only [List.length_map]; omega)))) ?_
        refine Z1 (w0 rfl) rfl (Z3 rfl rfl) ?_
        refine Z1 (w0 rfl) rfl (Z3 rfl rfl) ?_
        refine Z4 ?_
        refine Z5 ?_
        refine Z2 ?_
        refine Z1 (w0 rfl) rfl (Z0 rfl rfl) ?_
        refine Z1 (w0 rfl) rfl (Zz (y := iA ((x.2.2.1 - x.2.1) / 8 : Nat)) (Z1g rfl rfl rfl (by decide) (Z13 (x.2.2.1 - x.2.1) 8 (by omega))) (congrArg iA (Z3q (x.2.2.1 - x.2.1) 8))) ?_
        refine Z1 (w0 rfl) rfl (Z3 rfl rfl) ?_
        refine Z4 ?_
        refine Z5 ?_
        refine Z2 ?_
        refine Z1 (w0 rfl) rfl (Z0 rfl rfl) ?_
        refine Z1 (w0 rfl) rfl (Z0 rfl rfl) ?_
        refine Z1 (w0 rfl) rfl (Zb rfl rfl rfl rfl) ?_
        refine Z4 ?_
        refine Za rfl ?_ ?_
        ·intro hc
         refine Z5 ?_
         refine Z2 ?_
         refine Z1 (w0 rfl) rfl (Z0 rfl rfl) ?_
         refine Z1 (w0 rfl) rfl (Z0 rfl rfl) ?_
         refine Z1 (w0 rfl) rfl (Zb rfl rfl rfl rfl) ?_
         refine Z1 (w0 rfl) rfl (Z3 rfl rfl) ?_
         refine Z4 ?_
         refine Z5 ?_
         refine Z0q 8 rfl (fun wb hwb => ?_)
         refine Z2 ?_
         refine Z1 (w0 rfl) rfl (Z0 rfl rfl) ?_
         refine Z1 (w0 rfl) rfl (Z0 rfl rfl) ?_
         refine Z1 (w0 rfl) rfl (Z0 rfl rfl) ?_
         refine Z1 (w0 rfl) rfl (Z0 rfl rfl) ?_
         refine Zl [_] _ (w0 rfl) rfl rfl rfl rfl (Zu (k := 0) rfl) (ih (v17.2.1 - x.2.1) (by omega) _ (by omega) x.2.1 v17.2.1 _ (Nat.le_refl _) (by omega) (by omega) (hJ4.bd.le (by omega))) (fun v18 hv18 => ?_)
         refine Z4 ?_
         refine Z2 ?_
         refine Z1 (w0 rfl) rfl (Z0 rfl rfl) ?_
         refine Z1 (w0 rfl) rfl (Z7 rfl rfl rfl (Zd (by first | omega | (simp only [List.length_map]; omega)))) ?_
         refine Z1 (w0 rfl) rfl (Z3 rfl rfl) ?_
         refine Z4 ?_
         refine ⟨(v18, v17.2.1 + 1, x.2.2.1, IntKind.i64.wrap (x.2.2.2.1 - 1), wb, v17.2.2), (hJ4.lower ltS_ok (by omega) hmid hv17.2.2.2 hv18.1 hv18.2), (by (try simp only) <;> omega), ?_⟩
         exact Zc [0] ⟨rfl, rfl, rfl, rfl, rfl, rfl, trivial⟩ rfl (by decide) rfl rfl
        ·intro hc
         refine Z5 ?_
         refine Z2 ?_
         refine Z1 (w0 rfl) rfl (Z0 rfl rfl) ?_
         refine Z1 (w0 rfl) rfl (Z0 rfl rfl) ?_
         refine Z1 (w0 rfl) rfl (Zb rfl rfl rfl rfl) ?_
         refine Z1 (w0 rfl) rfl (Z3 rfl rfl) ?_
         refine Z4 ?_
         refine Z5 ?_
         refine Z0q 8 rfl (fun wb hwb => ?_)
         refine Z2 ?_
         refine Z1 (w0 rfl) rfl (Z0 rfl rfl) ?_
         refine Z1 (w0 rfl) rfl (Z0 rfl rfl) ?_
         refine Z1 (w0 rfl) rfl (Z7 rfl rfl rfl (Zd (by first | omega | (simp only [List.length_map]; omega)))) ?_
         refine Z1 (w0 rfl) rfl (Z0 rfl rfl) ?_
         refine Z1 (w0 rfl) rfl (Z0 rfl rfl) ?_
         refine Zl [_] _ (w0 rfl) rfl rfl rfl rfl (Zu (k := 0) rfl) (ih (x.2.2.1 - (v17.2.1 + 1)) (by omega) _ (by omega) (v17.2.1 + 1) x.2.2.1 _ (Nat.le_refl _) (by omega) (by omega) hv17.2.2.2.bd) (fun v19 hv19 => ?_)
         refine Z4 ?_
         refine Z2 ?_
         refine Z1 (w0 rfl) rfl (Z0 rfl rfl) ?_
         refine Z1 (w0 rfl) rfl (Z3 rfl rfl) ?_
         refine Z4 ?_
         refine ⟨(v19, x.2.1, v17.2.1, IntKind.i64.wrap (x.2.2.2.1 - 1), wb, v17.2.2), (hJ4.upper ltS_ok (by omega) hmid hv17.2.2.2 hv19.1 hv19.2), (by (try simp only) <;> omega), ?_⟩
         exact Zc [0] ⟨rfl, rfl, rfl, rfl, rfl, rfl, trivial⟩ rfl (by decide) rfl rfl
     ·intro hc
      have hJ3 := hJ2
      have hl3 := hJ3.sw.len
      refine Zh ?_
      refine Z5 ?_
      refine Z5 ?_
      refine Z0i [0, 1, 3, 7, 7, 23, 63, 127, 7, 7, 775, 1799, 4095, 8191, 16383] 15 rfl (by kernel_rfl) ?_
      refine Z9 (w0 rfl) rfl (Z0 rfl rfl) ?_
      refine Z9 (w0 rfl) rfl (Zb rfl rfl rfl rfl) ?_
      refine Z9 (w0 rfl) rfl (Z0 rfl rfl) ?_
      refine Zi (wT rfl rfl rfl rfl) rfl (fun hg => (Z0 rfl rfl)) ?_
      refine Zi (wT rfl rfl rfl rfl) rfl (fun hg => (Z0 rfl rfl)) ?_
      refine Zi (wT rfl rfl rfl rfl) rfl (fun hg => (Z7 rfl (Z05 hg rfl) rfl (Zg (by first | omega | (simp only [List.length_map]; omega))))) ?_
      refine Zi (wT rfl rfl rfl rfl) rfl (fun hg => (Z6 (x.2.1 - 1) rfl (Z05 hg rfl) (Z05 hg rfl) (by (try simp at hg) <;> first | omega | (simp only [List.length_map]; omega) | (simp only [List.length_map, List.length_drop]; omega)) (by (try simp at hg) <;> first | omega | (simp only [List.length_map]; omega) | (simp only [List.length_map, List.length_drop]; omega)) (by omega))) ?_
      refine Zt 0 (wT rfl rfl rfl rfl) rfl rfl (fun hg => (Z05 hg rfl)) rfl (fun hg => by (try simp at hg) <;> (first | assumption | omega | (simp only [List.length_drop]; omega))) (fun _ => Zo) ?_
      refine Zi (wT rfl rfl rfl rfl) rfl (fun hg => (Z0 rfl rfl)) ?_
      refine Zi (wT rfl rfl rfl rfl) rfl (fun hg => (Z0 rfl rfl)) ?_
      refine Zi (wT rfl rfl rfl rfl) rfl (fun hg => (Z6 p2 rfl (Z05 hg rfl) (Z05 hg rfl) (by (try simp at hg) <;> first | omega | (simp only [List.length_map]; omega) | (simp only [List.length_map, List.length_drop]; omega)) (by (try simp at hg) <;> first | omega | (simp only [List.length_map]; omega) | (simp only [List.length_map, List.length_drop]; omega)) (by omega))) ?_
      refine Zt 0 (wT rfl rfl rfl rfl) rfl rfl (fun hg => (Z05 hg rfl)) rfl (fun hg => by (try simp at hg) <;> (first | assumption | omega | (simp only [List.length_drop]; omega))) (fun _ => Zo) ?_
      refine Zi (wT rfl rfl rfl rfl) rfl (fun hg => (Zp [] rfl rfl (Zn (Z05 hg rfl) (Zn (Z05 hg rfl) Z0e)) (Z11 _ _) List.nodup_nil)) ?_
      refine Zi (wT rfl rfl rfl rfl) rfl (fun hg => (Z0j rfl (Z05 hg rfl))) ?_
      refine Z9 (w0 rfl) rfl (Z0h rfl rfl rfl (fun h => h)) ?_
      refine .done ?_
      refine Z4 ?_
      refine Za rfl ?_ ?_
      ·intro hc
       have ha0 : 0 < x.2.1 := by have := Z78 hc; simpa using this
       have hpe := Z6j (Z6k hc)
       refine Z5 ?_
       refine Z2 ?_
       refine Z1 (w0 rfl) rfl (Z0 rfl rfl) ?_
       refine Z1 (w0 rfl) rfl (Z0 rfl rfl) ?_
       refine Z1 (w0 rfl) rfl (Z0 rfl rfl) ?_
       refine Z1 (w0 rfl) rfl (Z0 rfl rfl) ?_
       refine Zl [_] _ (w0 rfl) rfl rfl rfl rfl (Zu (k := 0) rfl) (Z2w q n _ (by omega) hN x.2.1 x.2.2.1 p2 hp2'.1 hp2'.2 (by omega)) (fun v20 hv20 => ?_)
       refine Z1 (w0 rfl) rfl (Z3 rfl rfl) ?_
       refine Z4 ?_
       refine Z5 ?_
       refine Z2 ?_
       refine Z1 (w0 rfl) rfl (Z0 rfl rfl) ?_
       refine Z1 (w0 rfl) rfl (Z3 rfl rfl) ?_
       refine Z4 ?_
       refine Zy ?_
       refine ⟨(v20.1, v20.2, x.2.2.1, IntKind.i64.wrap (x.2.2.2.1 - 1), x.2.2.2.2.1, x.2.2.2.2.2), (by obtain ⟨j, e, he⟩ := hv20.2.2.2.2; exact (hJ3.move (by omega) hv20.1).equal ltS_ok (by omega) ha0 (by rw [hv20.1.out (.inl (by omega)), hv20.2.2.2.1]; exact hpe) he e hv20.2.1 hv20.2.2.1), (by (try simp only) <;> (have := hv20.2.1; omega)), ?_⟩
       exact Zc [0] ⟨rfl, rfl, rfl, rfl, rfl, rfl, trivial⟩ rfl (by decide) rfl rfl
      ·intro hc
       refine Zh ?_
       refine Z5 ?_
       refine Z2 ?_
       refine Z1 (w0 rfl) rfl (Z0 rfl rfl) ?_
       refine Z1 (w0 rfl) rfl (Z0 rfl rfl) ?_
       refine Z1 (w0 rfl) rfl (Z0 rfl rfl) ?_
       refine Z1 (w0 rfl) rfl (Z0 rfl rfl) ?_
       refine Zl [_] _ (w0 rfl) rfl rfl rfl rfl (Zu (k := 0) rfl) (Z4p q n _ (by omega) hN x.2.1 x.2.2.1 p2 hp2'.1 hp2'.2 (by omega)) (fun v21 hv21 => ?_)
       refine Z1 (w0 rfl) rfl (Z0 rfl rfl) ?_
       refine Z1 (w0 rfl) rfl (Zv rfl rfl rfl) ?_
       refine Z1 (w0 rfl) rfl (Zv rfl rfl rfl) ?_
       refine Z1 (w0 rfl) rfl (Z3 rfl rfl) ?_
       refine Z1 (w0 rfl) rfl (Z3 rfl rfl) ?_
       refine Z4 ?_
       refine Z5 ?_
       refine Z2 ?_
       refine Z1 (w0 rfl) rfl (Z0 rfl rfl) ?_
       refine Z1 (w0 rfl) rfl (Z3 rfl rfl) ?_
       refine Z4 ?_
       refine Z5 ?_
       have hJ4 := hJ3.move (by omega) hv21.1
       have hl4 := hJ4.sw.len
       have hmid : x.2.1 ≤ v21.2.1 ∧ v21.2.1 < x.2.2.1 := ⟨hv21.2.1, hv21.2.2.1⟩
       refine Z2 ?_
       refine Z1 (w0 rfl) rfl (Z0 rfl rfl) ?_
       refine Z1 (w0 rfl) rfl (Z0 rfl rfl) ?_
       refine Z1 (w0 rfl) rfl (Z7 rfl rfl rfl (Zg (by first | omega | (simp only [List.length_map]; omega)))) ?_
       refine Z1 (w0 rfl) rfl (Z0 rfl rfl) ?_
       refine Z1 (w0 rfl) rfl (Z0 rfl rfl) ?_
       refine Z1 (w0 rfl) rfl (Z7 rfl rfl rfl (Zg (by first | omega | (simp only [List.length_map]; omega)))) ?_
       refine Z1 (w0 rfl) rfl (Z3 rfl rfl) ?_
       refine Z1 (w0 rfl) rfl (Z3 rfl rfl) ?_
       refine Z4 ?_
       refine Z5 ?_
       refine Z2 ?_
       refine Z1 (w0 rfl) rfl (Z0 rfl rfl) ?_
       refine Z1 (w0 rfl) rfl (Zz (y := iA ((x.2.2.1 - x.2.1) / 8 : Nat)) (Z1g rfl rfl rfl (by decide) (Z13 (x.2.2.1 - x.2.1) 8 (by omega))) (congrArg iA (Z3q (x.2.2.1 - x.2.1) 8))) ?_
       refine Z1 (w0 rfl) rfl (Z3 rfl rfl) ?_
       refine Z4 ?_
       refine Z5 ?_
       refine Z2 ?_
       refine Z1 (w0 rfl) rfl (Z0 rfl rfl) ?_
       refine Z1 (w0 rfl) rfl (Z0 rfl rfl) ?_
       refine Z1 (w0 rfl) rfl (Zb rfl rfl rfl rfl) ?_
       refine Z4 ?_
       refine Za rfl ?_ ?_
       ·intro hc
        refine Z5 ?_
        refine Z2 ?_
        refine Z1 (w0 rfl) rfl (Z0 rfl rfl) ?_
        refine Z1 (w0 rfl) rfl (Z0 rfl rfl) ?_
        refine Z1 (w0 rfl) rfl (Zb rfl rfl rfl rfl) ?_
        refine Z1 (w0 rfl) rfl (Z3 rfl rfl) ?_
        refine Z4 ?_
        refine Z5 ?_
        refine Z0q 8 rfl (fun wb hwb => ?_)
        refine Z2 ?_
        refine Z1 (w0 rfl) rfl (Z0 rfl rfl) ?_
        refine Z1 (w0 rfl) rfl (Z0 rfl rfl) ?_
        refine Z1 (w0 rfl) rfl (Z0 rfl rfl) ?_
        refine Z1 (w0 rfl) rfl (Z0 rfl rfl) ?_
        refine Zl [_] _ (w0 rfl) rfl rfl rfl rfl (Zu (k := 0) rfl) (ih (v21.2.1 - x.2.1) (by omega) _ (by omega) x.2.1 v21.2.1 _ (Nat.le_refl _) (by omega) (by omega) (hJ4.bd.le (by omega))) (fun v22 hv22 => ?_)
        refine Z4 ?_
        refine Z2 ?_
        refine Z1 (w0 rfl) rfl (Z0 rfl rfl) ?_
        refine Z1 (w0 rfl) rfl (Z7 rfl rfl rfl (Zd (by first | omega | (simp only [List.length_map]; omega)))) ?_
        refine Z1 (w0 rfl) rfl (Z3 rfl rfl) ?_
        refine Z4 ?_
        refine ⟨(v22, v21.2.1 + 1, x.2.2.1, IntKind.i64.wrap (x.2.2.2.1 - 1), wb, v21.2.2), (hJ4.lower ltS_ok (by omega) hmid hv21.2.2.2 hv22.1 hv22.2), (by (try simp only) <;> omega), ?_⟩
        exact Zc [0] ⟨rfl, rfl, rfl, rfl, rfl, rfl, trivial⟩ rfl (by decide) rfl rfl
       ·intro hc
        refine Z5 ?_
        refine Z2 ?_
        refine Z1 (w0 rfl) rfl (Z0 rfl rfl) ?_
        refine Z1 (w0 rfl) rfl (Z0 rfl rfl) ?_
        refine Z1 (w0 rfl) rfl (Zb rfl rfl rfl rfl) ?_
        refine Z1 (w0 rfl) rfl (Z3 rfl rfl) ?_
        refine Z4 ?_
        refine Z5 ?_
        refine Z0q 8 rfl (fun wb hwb => ?_)
        refine Z2 ?_
        refine Z1 (w0 rfl) rfl (Z0 rfl rfl) ?_
        refine Z1 (w0 rfl) rfl (Z0 rfl rfl) ?_
        refine Z1 (w0 rfl) rfl (Z7 rfl rfl rfl (Zd (by first | omega | (simp only [List.length_map]; omega)))) ?_
        refine Z1 (w0 rfl) rfl (Z0 rfl rfl) ?_
        refine Z1 (w0 rfl) rfl (Z0 rfl rfl) ?_
        refine Zl [_] _ (w0 rfl) rfl rfl rfl rfl (Zu (k := 0) rfl) (ih (x.2.2.1 - (v21.2.1 + 1)) (by omega) _ (by omega) (v21.2.1 + 1) x.2.2.1 _ (Nat.le_refl _) (by omega) (by omega) hv21.2.2.2.bd) (fun v23 hv23 => ?_)
        refine Z4 ?_
        refine Z2 ?_
        refine Z1 (w0 rfl) rfl (Z0 rfl rfl) ?_
        refine Z1 (w0 rfl) rfl (Z3 rfl rfl) ?_
        refine Z4 ?_
        refine ⟨(v23, x.2.1, v21.2.1, IntKind.i64.wrap (x.2.2.2.1 - 1), wb, v21.2.2), (hJ4.upper ltS_ok (by omega) hmid hv21.2.2.2 hv23.1 hv23.2), (by (try simp only) <;> omega), ?_⟩
        exact Zc [0] ⟨rfl, rfl, rfl, rfl, rfl, rfl, trivial⟩ rfl (by decide) rfl rfl
   ·intro hc
    have hJ1 := hJ
    refine Zh ?_
    refine Z5 ?_
    refine Z2 ?_
    refine Z1 (w0 rfl) rfl (Z0 rfl rfl) ?_
    refine Z1 (w0 rfl) rfl (Z0 rfl rfl) ?_
    refine Z1 (w0 rfl) rfl (Z0 rfl rfl) ?_
    refine Zl [_] _ (w0 rfl) rfl rfl rfl rfl (Zu (k := 0) rfl) (Zcl q n _ (by have := hJ1.sw.len; omega) hN x.2.1 x.2.2.1 (by omega) (by omega)) (fun v24 hv24 => ?_)
    refine Z1 (w0 rfl) rfl (Z0 rfl rfl) ?_
    refine Z1 (w0 rfl) rfl (Zv rfl rfl rfl) ?_
    refine Z1 (w0 rfl) rfl (Zv rfl rfl rfl) ?_
    refine Z1 (w0 rfl) rfl (Z3 rfl rfl) ?_
    refine Z1 (w0 rfl) rfl (Z3 rfl rfl) ?_
    refine Z4 ?_
    refine Z5 ?_
    refine Z5 ?_
    refine Z0a 11 rfl (fun pv hpv => ?_)
    have hp : x.2.1 ≤ pv ∧ pv < x.2.2.1 := by rw [hpv]; exact hv24
    refine Z2 ?_
    refine Z1 (w0 rfl) rfl (Z0 rfl rfl) ?_
    refine Z1 (w0 rfl) rfl (Zb rfl rfl rfl rfl) ?_
    refine Z4 ?_
    refine Za rfl ?_ ?_
    ·intro hc
     refine Z5 ?_
     refine Z2 ?_
     refine Z1 (w0 rfl) rfl (Z0 rfl rfl) ?_
     refine Z1 (w0 rfl) rfl (Z0 rfl rfl) ?_
     refine Z1 (w0 rfl) rfl (Z0 rfl rfl) ?_
     refine Zl [_] _ (w0 rfl) rfl rfl rfl rfl (Zu (k := 0) rfl) (Zif q n _ (by have := hJ1.sw.len; omega) hN x.2.1 x.2.2.1 (by omega) (by omega)) (fun v25 hv25 => ?_)
     have hJ2 := hJ1.move (by omega) hv25
     refine Z4 ?_
     refine Z5 ?_
     refine Z2 ?_
     refine Z1 (w0 rfl) rfl (Z0 rfl rfl) ?_
     refine Z1 (w0 rfl) rfl (Z7 rfl rfl rfl (Zg (by first | omega | (simp only [List.length_map]; omega)))) ?_
     refine Z1 (w0 rfl) rfl (Z0 rfl rfl) ?_
     refine Z1 (w0 rfl) rfl (Z0 rfl rfl) ?_
     refine Z1 (w0 rfl) rfl (Z7 rfl rfl rfl (Zg (by first | omega | (simp only [List.length_map]; omega)))) ?_
     refine Z1 (w0 rfl) rfl (Zz (y := iA (x.2.2.1 - 1 - (pv - x.2.1) : Nat)) (Z7 rfl rfl rfl (Zg (by first | omega | (simp only [List.length_map]; omega)))) (congrArg iA (by omega))) ?_
     refine Z1 (w0 rfl) rfl (Z3 rfl rfl) ?_
     refine Z4 ?_
     refine Z2 ?_
     refine Z1 (w0 rfl) rfl (Z3 rfl rfl) ?_
     refine Z4 ?_
     refine Z5 ?_
     refine Z5 ?_
     refine Z0a 11 rfl (fun p2 hp2 => ?_)
     have hp2' : x.2.1 ≤ p2 ∧ p2 < x.2.2.1 := by omega
     refine Z2 ?_
     refine Z1 (w0 rfl) rfl (Z0 rfl rfl) ?_
     refine Z1 (w0 rfl) rfl (Z0 rfl rfl) ?_
     refine Z0f (wT rfl rfl rfl rfl) rfl (fun hg => (Z0 rfl rfl)) ?_
     refine Z1 (w0 rfl) rfl (Z0h rfl rfl rfl (fun h => h)) ?_
     refine Z1 (w0 rfl) rfl (Z0 rfl rfl) ?_
     refine Z0f (wT rfl rfl rfl rfl) rfl (fun hg => (Z0 rfl rfl)) ?_
     refine Z0f (wT rfl rfl rfl rfl) rfl (fun hg => (Zb rfl (Z05 hg rfl) rfl rfl)) ?_
     refine Z1 (w0 rfl) rfl (Z0h rfl rfl rfl (fun h => h)) ?_
     refine Z4 ?_
     refine Za rfl ?_ ?_
     ·intro hc
      refine Z5 ?_
      refine Z2 ?_
      refine Z1 (w0 rfl) rfl (Z0 rfl rfl) ?_
      refine Z1 (w0 rfl) rfl (Z0 rfl rfl) ?_
      refine Z1 (w0 rfl) rfl (Z0 rfl rfl) ?_
      refine Zl [_] _ (w0 rfl) rfl rfl rfl rfl (Zu (k := 0) rfl) (Z3x q n _ (by have := hJ2.sw.len; omega) hN x.2.1 x.2.2.1 (by omega) (by omega) hJ2.bd) (fun v26 hv26 => ?_)
      have hJ3 := hJ2.move (by omega) hv26.1
      refine Z4 ?_
      refine Za rfl ?_ ?_
      ·intro hc
       refine Zs ?_
       exact Zr rfl Ze (.cons_cons _ .slnil) (gp v26.1 ⟨hJ3.sw, hJ2.fin _ hv26.1 ((hv26.2 hc).on ltS_ok)⟩ rfl rfl)
      ·intro hc
       have hl3 := hJ3.sw.len
       refine Zh ?_
       refine Z5 ?_
       refine Z5 ?_
       refine Z0i [0, 1, 3, 7, 7, 23, 63, 127, 7, 7, 775, 1799, 4095, 8191, 16383] 15 rfl (by kernel_rfl) ?_
       refine Z9 (w0 rfl) rfl (Z0 rfl rfl) ?_
       refine Z9 (w0 rfl) rfl (Zb rfl rfl rfl rfl) ?_
       refine Z9 (w0 rfl) rfl (Z0 rfl rfl) ?_
       refine Zi (wT rfl rfl rfl rfl) rfl (fun hg => (Z0 rfl rfl)) ?_
       refine Zi (wT rfl rfl rfl rfl) rfl (fun hg => (Z0 rfl rfl)) ?_
       refine Zi (wT rfl rfl rfl rfl) rfl (fun hg => (Z7 rfl (Z05 hg rfl) rfl (Zg (by first | omega | (simp only [List.length_map]; omega))))) ?_
       refine Zi (wT rfl rfl rfl rfl) rfl (fun hg => (Z6 (x.2.1 - 1) rfl (Z05 hg rfl) (Z05 hg rfl) (by (try simp at hg) <;> first | omega | (simp only [List.length_map]; omega) | (simp only [List.length_map, List.length_drop]; omega)) (by (try simp at hg) <;> first | omega | (simp only [List.length_map]; omega) | (simp only [List.length_map, List.length_drop]; omega)) (by omega))) ?_
       refine Zt 0 (wT rfl rfl rfl rfl) rfl rfl (fun hg => (Z05 hg rfl)) rfl (fun hg => by (try simp at hg) <;> (first | assumption | omega | (simp only [List.length_drop]; omega))) (fun _ => Zo) ?_
       refine Zi (wT rfl rfl rfl rfl) rfl (fun hg => (Z0 rfl rfl)) ?_
       refine Zi (wT rfl rfl rfl rfl) rfl (fun hg => (Z0 rfl rfl)) ?_
       refine Zi (wT rfl rfl rfl rfl) rfl (fun hg => (Z6 p2 rfl (Z05 hg rfl) (Z05 hg rfl) (by (try simp at hg) <;> first | omega | (simp only [List.length_map]; omega) | (simp only [List.length_map, List.length_drop]; omega)) (by (try simp at hg) <;> first | omega | (simp only [List.length_map]; omega) | (simp only [List.length_map, List.length_drop]; omega)) (by omega))) ?_
       refine Zt 0 (wT rfl rfl rfl rfl) rfl rfl (fun hg => (Z05 hg rfl)) rfl (fun hg => by (try simp at hg) <;> (first | assumption | omega | (simp only [List.length_drop]; omega))) (fun _ => Zo) ?_
       refine Zi (wT rfl rfl rfl rfl) rfl (fun hg => (Zp [] rfl rfl (Zn (Z05 hg rfl) (Zn (Z05 hg rfl) Z0e)) (Z11 _ _) List.nodup_nil)) ?_
       refine Zi (wT rfl rfl rfl rfl) rfl (fun hg => (Z0j rfl (Z05 hg rfl))) ?_
       refine Z9 (w0 rfl) rfl (Z0h rfl rfl rfl (fun h => h)) ?_
       refine .done ?_
       refine Z4 ?_
       refine Za rfl ?_ ?_
       ·intro hc
        have ha0 : 0 < x.2.1 := by have := Z78 hc; simpa using this
        have hpe := Z6j (Z6k hc)
        refine Z5 ?_
        refine Z2 ?_
        refine Z1 (w0 rfl) rfl (Z0 rfl rfl) ?_
        refine Z1 (w0 rfl) rfl (Z0 rfl rfl) ?_
        refine Z1 (w0 rfl) rfl (Z0 rfl rfl) ?_
        refine Z1 (w0 rfl) rfl (Z0 rfl rfl) ?_
        refine Zl [_] _ (w0 rfl) rfl rfl rfl rfl (Zu (k := 0) rfl) (Z2w q n _ (by omega) hN x.2.1 x.2.2.1 p2 hp2'.1 hp2'.2 (by omega)) (fun v27 hv27 => ?_)
        refine Z1 (w0 rfl) rfl (Z3 rfl rfl) ?_
        refine Z4 ?_
        refine Z5 ?_
        refine Z2 ?_
        refine Z1 (w0 rfl) rfl (Z0 rfl rfl) ?_
        refine Z1 (w0 rfl) rfl (Z3 rfl rfl) ?_
        refine Z4 ?_
        refine Zy ?_
        refine ⟨(v27.1, v27.2, x.2.2.1, x.2.2.2.1, x.2.2.2.2.1, x.2.2.2.2.2), (by obtain ⟨j, e, he⟩ := hv27.2.2.2.2; exact (hJ3.move (by omega) hv27.1).equal ltS_ok (by omega) ha0 (by rw [hv27.1.out (.inl (by omega)), hv27.2.2.2.1]; exact hpe) he e hv27.2.1 hv27.2.2.1), (by (try simp only) <;> (have := hv27.2.1; omega)), ?_⟩
        exact Zc [0] ⟨rfl, rfl, rfl, rfl, rfl, rfl, trivial⟩ rfl (by decide) rfl rfl
       ·intro hc
        refine Zh ?_
        refine Z5 ?_
        refine Z2 ?_
        refine Z1 (w0 rfl) rfl (Z0 rfl rfl) ?_
        refine Z1 (w0 rfl) rfl (Z0 rfl rfl) ?_
        refine Z1 (w0 rfl) rfl (Z0 rfl rfl) ?_
        refine Z1 (w0 rfl) rfl (Z0 rfl rfl) ?_
        refine Zl [_] _ (w0 rfl) rfl rfl rfl rfl (Zu (k := 0) rfl) (Z4p q n _ (by omega) hN x.2.1 x.2.2.1 p2 hp2'.1 hp2'.2 (by omega)) (fun v28 hv28 => ?_)
        refine Z1 (w0 rfl) rfl (Z0 rfl rfl) ?_
        refine Z1 (w0 rfl) rfl (Zv rfl rfl rfl) ?_
        refine Z1 (w0 rfl) rfl (Zv rfl rfl rfl) ?_
        refine Z1 (w0 rfl) rfl (Z3 rfl rfl) ?_
        refine Z1 (w0 rfl) rfl (Z3 rfl rfl) ?_
        refine Z4 ?_
        refine Z5 ?_
        refine Z2 ?_
        refine Z1 (w0 rfl) rfl (Z0 rfl rfl) ?_
        refine Z1 (w0 rfl) rfl (Z3 rfl rfl) ?_
        refine Z4 ?_
        refine Z5 ?_
        have hJ4 := hJ3.move (by omega) hv28.1
        have hl4 := hJ4.sw.len
        have hmid : x.2.1 ≤ v28.2.1 ∧ v28.2.1 < x.2.2.1 := ⟨hv28.2.1, hv28.2.2.1⟩
        refine Z2 ?_
        refine Z1 (w0 rfl) rfl (Z0 rfl rfl) ?_
        refine Z1 (w0 rfl) rfl (Z0 rfl rfl) ?_
        refine Z1 (w0 rfl) rfl (Z7 rfl rfl rfl (Zg (by first | omega | (simp only [List.length_map]; omega)))) ?_
        refine Z1 (w0 rfl) rfl (Z0 rfl rfl) ?_
        refine Z1 (w0 rfl) rfl (Z0 rfl rfl) ?_
        refine Z1 (w0 rfl) rfl (Z7 rfl rfl rfl (Zg (by first | omega | (simp only [List.length_map]; omega)))) ?_
        refine Z1 (w0 rfl) rfl (Z3 rfl rfl) ?_
        refine Z1 (w0 rfl) rfl (Z3 rfl rfl) ?_
        refine Z4 ?_
        refine Z5 ?_
        refine Z2 ?_
        refine Z1 (w0 rfl) rfl (Z0 rfl rfl) ?_
        refine Z1 (w0 rfl) rfl (Zz (y := iA ((x.2.2.1 - x.2.1) / 8 : Nat)) (Z1g rfl rfl rfl (by decide) (Z13 (x.2.2.1 - x.2.1) 8 (by omega))) (congrArg iA (Z3q (x.2.2.1 - x.2.1) 8))) ?_
        refine Z1 (w0 rfl) rfl (Z3 rfl rfl) ?_
        refine Z4 ?_
        refine Z5 ?_
        refine Z2 ?_
        refine Z1 (w0 rfl) rfl (Z0 rfl rfl) ?_
        refine Z1 (w0 rfl) rfl (Z0 rfl rfl) ?_
        refine Z1 (w0 rfl) rfl (Zb rfl rfl rfl rfl) ?_
        refine Z4 ?_
        refine Za rfl ?_ ?_
        ·intro hc
         refine Z5 ?_
         refine Z2 ?_
         refine Z1 (w0 rfl) rfl (Z0 rfl rfl) ?_
         refine Z1 (w0 rfl) rfl (Z0 rfl rfl) ?_
         refine Z1 (w0 rfl) rfl (Zb rfl rfl rfl rfl) ?_
         refine Z1 (w0 rfl) rfl (Z3 rfl rfl) ?_
         refine Z4 ?_
         refine Z5 ?_
         refine Z0q 8 rfl (fun wb hwb => ?_)
         refine Z2 ?_
         refine Z1 (w0 rfl) rfl (Z0 rfl rfl) ?_
         refine Z1 (w0 rfl) rfl (Z0 rfl rfl) ?_
         refine Z1 (w0 rfl) rfl (Z0 rfl rfl) ?_
         refine Z1 (w0 rfl) rfl (Z0 rfl rfl) ?_
         refine Zl [_] _ (w0 rfl) rfl rfl rfl rfl (Zu (k := 0) rfl) (ih (v28.2.1 - x.2.1) (by omega) _ (by omega) x.2.1 v28.2.1 _ (Nat.le_refl _) (by omega) (by omega) (hJ4.bd.le (by omega))) (fun v29 hv29 => ?_)
         refine Z4 ?_
         refine Z2 ?_
         refine Z1 (w0 rfl) rfl (Z0 rfl rfl) ?_
         refine Z1 (w0 rfl) rfl (Z7 rfl rfl rfl (Zd (by first | omega | (simp only [List.length_map]; omega)))) ?_
         refine Z1 (w0 rfl) rfl (Z3 rfl rfl) ?_
         refine Z4 ?_
         refine ⟨(v29, v28.2.1 + 1, x.2.2.1, x.2.2.2.1, wb, v28.2.2), (hJ4.lower ltS_ok (by omega) hmid hv28.2.2.2 hv29.1 hv29.2), (by (try simp only) <;> omega), ?_⟩
         exact Zc [0] ⟨rfl, rfl, rfl, rfl, rfl, rfl, trivial⟩ rfl (by decide) rfl rfl
        ·intro hc
         refine Z5 ?_
         refine Z2 ?_
         refine Z1 (w0 rfl) rfl (Z0 rfl rfl) ?_
         refine Z1 (w0 rfl) rfl (Z0 rfl rfl) ?_
         refine Z1 (w0 rfl) rfl (Zb rfl rfl rfl rfl) ?_
         refine Z1 (w0 rfl) rfl (Z3 rfl rfl) ?_
         refine Z4 ?_
         refine Z5 ?_
         refine Z0q 8 rfl (fun wb hwb => ?_)
         refine Z2 ?_
         refine Z1 (w0 rfl) rfl (Z0 rfl rfl) ?_
         refine Z1 (w0 rfl) rfl (Z0 rfl rfl) ?_
         refine Z1 (w0 rfl) rfl (Z7 rfl rfl rfl (Zd (by first | omega | (simp only [List.length_map]; omega)))) ?_
         refine Z1 (w0 rfl) rfl (Z0 rfl rfl) ?_
         refine Z1 (w0 rfl) rfl (Z0 rfl rfl) ?_
         refine Zl [_] _ (w0 rfl) rfl rfl rfl rfl (Zu (k := 0) rfl) (ih (x.2.2.1 - (v28.2.1 + 1)) (by omega) _ (by omega) (v28.2.1 + 1) x.2.2.1 _ (Nat.le_refl _) (by omega) (by omega) hv28.2.2.2.bd) (fun v30 hv30 => ?_)
         refine Z4 ?_
         refine Z2 ?_
         refine Z1 (w0 rfl) rfl (Z0 rfl rfl) ?_
         refine Z1 (w0 rfl) rfl (Z3 rfl rfl) ?_
         refine Z4 ?_
         refine ⟨(v30, x.2.1, v28.2.1, x.2.2.2.1, wb, v28.2.2), (hJ4.upper ltS_ok (by omega) hmid hv28.2.2.2 hv30.1 hv30.2), (by (try simp only) <;> omega), ?_⟩
         exact Zc [0] ⟨rfl, rfl, rfl, rfl, rfl, rfl, trivial⟩ rfl (by decide) rfl rfl
     ·intro hc
      have hJ3 := hJ2
      have hl3 := hJ3.sw.len
      refine Zh ?_
      refine Z5 ?_
      refine Z5 ?_
      refine Z0i [0, 1, 3, 7, 7, 23, 63, 127, 7, 7, 775, 1799, 4095, 8191, 16383] 15 rfl (by kernel_rfl) ?_
      refine Z9 (w0 rfl) rfl (Z0 rfl rfl) ?_
      refine Z9 (w0 rfl) rfl (Zb rfl rfl rfl rfl) ?_
      refine Z9 (w0 rfl) rfl (Z0 rfl rfl) ?_
      refine Zi (wT rfl rfl rfl rfl) rfl (fun hg => (Z0 rfl rfl)) ?_
      refine Zi (wT rfl rfl rfl rfl) rfl (fun hg => (Z0 rfl rfl)) ?_
      refine Zi (wT rfl rfl rfl rfl) rfl (fun hg => (Z7 rfl (Z05 hg rfl) rfl (Zg (by first | omega | (simp only [List.length_map]; omega))))) ?_
      refine Zi (wT rfl rfl rfl rfl) rfl (fun hg => (Z6 (x.2.1 - 1) rfl (Z05 hg rfl) (Z05 hg rfl) (by (try simp at hg) <;> first | omega | (simp only [List.length_map]; omega) | (simp only [List.length_map, List.length_drop]; omega)) (by (try simp at hg) <;> first | omega | (simp only [List.length_map]; omega) | (simp only [List.length_map, List.length_drop]; omega)) (by omega))) ?_
      refine Zt 0 (wT rfl rfl rfl rfl) rfl rfl (fun hg => (Z05 hg rfl)) rfl (fun hg => by (try simp at hg) <;> (first | assumption | omega | (simp only [List.length_drop]; omega))) (fun _ => Zo) ?_
      refine Zi (wT rfl rfl rfl rfl) rfl (fun hg => (Z0 rfl rfl)) ?_
      refine Zi (wT rfl rfl rfl rfl) rfl (fun hg => (Z0 rfl rfl)) ?_
      refine Zi (wT rfl rfl rfl rfl) rfl (fun hg => (Z6 p2 rfl (Z05 hg rfl) (Z05 hg rfl) (by (try simp at hg) <;> first | omega | (simp only [List.length_map]; omega) | (simp only [List.length_map, List.length_drop]; omega)) (by (try simp at hg) <;> first | omega | (simp only [List.length_map]; omega) | (simp only [List.length_map, List.length_drop]; omega)) (by omega))) ?_
      refine Zt 0 (wT rfl rfl rfl rfl) rfl rfl (fun hg => (Z05 hg rfl)) rfl (fun hg => by (try simp at hg) <;> (first | assumption | omega | (simp only [List.length_drop]; omega))) (fun _ => Zo) ?_
      refine Zi (wT rfl rfl rfl rfl) rfl (fun hg => (Zp [] rfl rfl (Zn (Z05 hg rfl) (Zn (Z05 hg rfl) Z0e)) (Z11 _ _) List.nodup_nil)) ?_
      refine Zi (wT rfl rfl rfl rfl) rfl (fun hg => (Z0j rfl (Z05 hg rfl))) ?_
      refine Z9 (w0 rfl) rfl (Z0h rfl rfl rfl (fun h => h)) ?_
      refine .done ?_
      refine Z4 ?_
      refine Za rfl ?_ ?_
      ·intro hc
       have ha0 : 0 < x.2.1 := by have := Z78 hc; simpa using this
       have hpe := Z6j (Z6k hc)
       refine Z5 ?_
       refine Z2 ?_
       refine Z1 (w0 rfl) rfl (Z0 rfl rfl) ?_
       refine Z1 (w0 rfl) rfl (Z0 rfl rfl) ?_
       refine Z1 (w0 rfl) rfl (Z0 rfl rfl) ?_
       refine Z1 (w0 rfl) rfl (Z0 rfl rfl) ?_
       refine Zl [_] _ (w0 rfl) rfl rfl rfl rfl (Zu (k := 0) rfl) (Z2w q n _ (by omega) hN x.2.1 x.2.2.1 p2 hp2'.1 hp2'.2 (by omega)) (fun v31 hv31 => ?_)
       refine Z1 (w0 rfl) rfl (Z3 rfl rfl) ?_
       refine Z4 ?_
       refine Z5 ?_
       refine Z2 ?_
       refine Z1 (w0 rfl) rfl (Z0 rfl rfl) ?_
       refine Z1 (w0 rfl) rfl (Z3 rfl rfl) ?_
       refine Z4 ?_
       refine Zy ?_
       refine ⟨(v31.1, v31.2, x.2.2.1, x.2.2.2.1, x.2.2.2.2.1, x.2.2.2.2.2), (by obtain ⟨j, e, he⟩ := hv31.2.2.2.2; exact (hJ3.move (by omega) hv31.1).equal ltS_ok (by omega) ha0 (by rw [hv31.1.out (.inl (by omega)), hv31.2.2.2.1]; exact hpe) he e hv31.2.1 hv31.2.2.1), (by (try simp only) <;> (have := hv31.2.1; omega)), ?_⟩
       exact Zc [0] ⟨rfl, rfl, rfl, rfl, rfl, rfl, trivial⟩ rfl (by decide) rfl rfl
      ·intro hc
       refine Zh ?_
       refine Z5 ?_
       refine Z2 ?_
       refine Z1 (w0 rfl) rfl (Z0 rfl rfl) ?_
       refine Z1 (w0 rfl) rfl (Z0 rfl rfl) ?_
       refine Z1 (w0 rfl) rfl (Z0 rfl rfl) ?_
       refine Z1 (w0 rfl) rfl (Z0 rfl rfl) ?_
       refine Zl [_] _ (w0 rfl) rfl rfl rfl rfl (Zu (k := 0) rfl) (Z4p q n _ (by omega) hN x.2.1 x.2.2.1 p2 hp2'.1 hp2'.2 (by omega)) (fun v32 hv32 => ?_)
       refine Z1 (w0 rfl) rfl (Z0 rfl rfl) ?_
       refine Z1 (w0 rfl) rfl (Zv rfl rfl rfl) ?_
       refine Z1 (w0 rfl) rfl (Zv rfl rfl rfl) ?_
       refine Z1 (w0 rfl) rfl (Z3 rfl rfl) ?_
       refine Z1 (w0 rfl) rfl (Z3 rfl rfl) ?_
       refine Z4 ?_
       refine Z5 ?_
       refine Z2 ?_
       refine Z1 (w0 rfl) rfl (Z0 rfl rfl) ?_
       refine Z1 (w0 rfl) rfl (Z3 rfl rfl) ?_
       refine Z4 ?_
       refine Z5 ?_
       have hJ4 := hJ3.move (by omega) hv32.1
       have hl4 := hJ4.sw.len
       have hmid : x.2.1 ≤ v32.2.1 ∧ v32.2.1 < x.2.2.1 := ⟨hv32.2.1, hv32.2.2.1⟩
       refine Z2 ?_
       refine Z1 (w0 rfl) rfl (Z0 rfl rfl) ?_
       refine Z1 (w0 rfl) rfl (Z0 rfl rfl) ?_
       refine Z1 (w0 rfl) rfl (Z7 rfl rfl rfl (Zg (by first | omega | (simp only [List.length_map]; omega)))) ?_
       refine Z1 (w0 rfl) rfl (Z0 rfl rfl) ?_
       refine Z1 (w0 rfl) rfl (Z0 rfl rfl) ?_
       refine Z1 (w0 rfl) rfl (Z7 rfl rfl rfl (Zg (by first | omega | (simp only [List.length_map]; omega)))) ?_
       refine Z1 (w0 rfl) rfl (Z3 rfl rfl) ?_
       refine Z1 (w0 rfl) rfl (Z3 rfl rfl) ?_
       refine Z4 ?_
       refine Z5 ?_
       refine Z2 ?_
       refine Z1 (w0 rfl) rfl (Z0 rfl rfl) ?_
       refine Z1 (w0 rfl) rfl (Zz (y := iA ((x.2.2.1 - x.2.1) / 8 : Nat)) (Z1g rfl rfl rfl (by decide) (Z13 (x.2.2.1 - x.2.1) 8 (by omega))) (congrArg iA (Z3q (x.2.2.1 - x.2.1) 8))) ?_
       refine Z1 (w0 rfl) rfl (Z3 rfl rfl) ?_
       refine Z4 ?_
       refine Z5 ?_
       refine Z2 ?_
       refine Z1 (w0 rfl) rfl (Z0 rfl rfl) ?_
       refine Z1 (w0 rfl) rfl (Z0 rfl rfl) ?_
       refine Z1 (w0 rfl) rfl (Zb rfl rfl rfl rfl) ?_
       refine Z4 ?_
       refine Za rfl ?_ ?_
       ·intro hc
        refine Z5 ?_
        refine Z2 ?_
        refine Z1 (w0 rfl) rfl (Z0 rfl rfl) ?_
        refine Z1 (w0 rfl) rfl (Z0 rfl rfl) ?_
        refine Z1 (w0 rfl) rfl (Zb rfl rfl rfl rfl) ?_
        refine Z1 (w0 rfl) rfl (Z3 rfl rfl) ?_
        refine Z4 ?_
        refine Z5 ?_
        refine Z0q 8 rfl (fun wb hwb => ?_)
        refine Z2 ?_
        refine Z1 (w0 rfl) rfl (Z0 rfl rfl) ?_
        refine Z1 (w0 rfl) rfl (Z0 rfl rfl) ?_
        refine Z1 (w0 rfl) rfl (Z0 rfl rfl) ?_
        refine Z1 (w0 rfl) rfl (Z0 rfl rfl) ?_
        refine Zl [_] _ (w0 rfl) rfl rfl rfl rfl (Zu (k := 0) rfl) (ih (v32.2.1 - x.2.1) (by omega) _ (by omega) x.2.1 v32.2.1 _ (Nat.le_refl _) (by omega) (by omega) (hJ4.bd.le (by omega))) (fun v33 hv33 => ?_)
        refine Z4 ?_
        refine Z2 ?_
        refine Z1 (w0 rfl) rfl (Z0 rfl rfl) ?_
        refine Z1 (w0 rfl) rfl (Z7 rfl rfl rfl (Zd (by first | omega | (simp only [List.length_map]; omega)))) ?_
        refine Z1 (w0 rfl) rfl (Z3 rfl rfl) ?_
        refine Z4 ?_
        refine ⟨(v33, v32.2.1 + 1, x.2.2.1, x.2.2.2.1, wb, v32.2.2), (hJ4.lower ltS_ok (by omega) hmid hv32.2.2.2 hv33.1 hv33.2), (by (try simp only) <;> omega), ?_⟩
        exact Zc [0] ⟨rfl, rfl, rfl, rfl, rfl, rfl, trivial⟩ rfl (by decide) rfl rfl
       ·intro hc
        refine Z5 ?_
        refine Z2 ?_
        refine Z1 (w0 rfl) rfl (Z0 rfl rfl) ?_
        refine Z1 (w0 rfl) rfl (Z0 rfl rfl) ?_
        refine Z1 (w0 rfl) rfl (Zb rfl rfl rfl rfl) ?_
        refine Z1 (w0 rfl) rfl (Z3 rfl rfl) ?_
        refine Z4 ?_
        refine Z5 ?_
        refine Z0q 8 rfl (fun wb hwb => ?_)
        refine Z2 ?_
        refine Z1 (w0 rfl) rfl (Z0 rfl rfl) ?_
        refine Z1 (w0 rfl) rfl (Z0 rfl rfl) ?_
        refine Z1 (w0 rfl) rfl (Z7 rfl rfl rfl (Zd (by first | omega | (simp only [List.length_map]; omega)))) ?_
        refine Z1 (w0 rfl) rfl (Z0 rfl rfl) ?_
        refine Z1 (w0 rfl) rfl (Z0 rfl rfl) ?_
        refine Zl [_] _ (w0 rfl) rfl rfl rfl rfl (Zu (k := 0) rfl) (ih (x.2.2.1 - (v32.2.1 + 1)) (by omega) _ (by omega) (v32.2.1 + 1) x.2.2.1 _ (Nat.le_refl _) (by omega) (by omega) hv32.2.2.2.bd) (fun v34 hv34 => ?_)
        refine Z4 ?_
        refine Z2 ?_
        refine Z1 (w0 rfl) rfl (Z0 rfl rfl) ?_
        refine Z1 (w0 rfl) rfl (Z3 rfl rfl) ?_
        refine Z4 ?_
        refine ⟨(v34, x.2.1, v32.2.1, x.2.2.2.1, wb, v32.2.2), (hJ4.upper ltS_ok (by omega) hmid hv32.2.2.2 hv34.1 hv34.2), (by (try simp only) <;> omega), ?_⟩
        exact Zc [0] ⟨rfl, rfl, rfl, rfl, rfl, rfl, trivial⟩ rfl (by decide) rfl rfl
    ·intro hc
     have hJ2 := hJ1
     refine Zh ?_
     refine Z5 ?_
     refine Z5 ?_
     refine Z0a 11 rfl (fun p2 hp2 => ?_)
     have hp2' : x.2.1 ≤ p2 ∧ p2 < x.2.2.1 := by omega
     refine Z2 ?_
     refine Z1 (w0 rfl) rfl (Z0 rfl rfl) ?_
     refine Z1 (w0 rfl) rfl (Z0 rfl rfl) ?_
     refine Z0f (wT rfl rfl rfl rfl) rfl (fun hg => (Z0 rfl rfl)) ?_
     refine Z1 (w0 rfl) rfl (Z0h rfl rfl rfl (fun h => h)) ?_
     refine Z1 (w0 rfl) rfl (Z0 rfl rfl) ?_
     refine Z0f (wT rfl rfl rfl rfl) rfl (fun hg => (Z0 rfl rfl)) ?_
     refine Z0f (wT rfl rfl rfl rfl) rfl (fun hg => (Zb rfl (Z05 hg rfl) rfl rfl)) ?_
     refine Z1 (w0 rfl) rfl (Z0h rfl rfl rfl (fun h => h)) ?_
     refine Z4 ?_
     refine Za rfl ?_ ?_
     ·intro hc
      refine Z5 ?_
      refine Z2 ?_
      refine Z1 (w0 rfl) rfl (Z0 rfl rfl) ?_
      refine Z1 (w0 rfl) rfl (Z0 rfl rfl) ?_
      refine Z1 (w0 rfl) rfl (Z0 rfl rfl) ?_
      refine Zl [_] _ (w0 rfl) rfl rfl rfl rfl (Zu (k := 0) rfl) (Z3x q n _ (by have := hJ2.sw.len; omega) hN x.2.1 x.2.2.1 (by omega) (by omega) hJ2.bd) (fun v35 hv35 => ?_)
      have hJ3 := hJ2.move (by omega) hv35.1
      refine Z4 ?_
      refine Za rfl ?_ ?_
      ·intro hc
       refine Zs ?_
       exact Zr rfl Ze (.cons_cons _ .slnil) (gp v35.1 ⟨hJ3.sw, hJ2.fin _ hv35.1 ((hv35.2 hc).on ltS_ok)⟩ rfl rfl)
      ·intro hc
       have hl3 := hJ3.sw.len
       refine Zh ?_
       refine Z5 ?_
       refine Z5 ?_
       refine Z0i [0, 1, 3, 7, 7, 23, 63, 127, 7, 7, 775, 1799, 4095, 8191, 16383] 15 rfl (by kernel_rfl) ?_
       refine Z9 (w0 rfl) rfl (Z0 rfl rfl) ?_
       refine Z9 (w0 rfl) rfl (Zb rfl rfl rfl rfl) ?_
       refine Z9 (w0 rfl) rfl (Z0 rfl rfl) ?_
       refine Zi (wT rfl rfl rfl rfl) rfl (fun hg => (Z0 rfl rfl)) ?_
       refine Zi (wT rfl rfl rfl rfl) rfl (fun hg => (Z0 rfl rfl)) ?_
       refine Zi (wT rfl rfl rfl rfl) rfl (fun hg => (Z7 rfl (Z05 hg rfl) rfl (Zg (by first | omega | (simp only [List.length_map]; omega))))) ?_
       refine Zi (wT rfl rfl rfl rfl) rfl (fun hg => (Z6 (x.2.1 - 1) rfl (Z05 hg rfl) (Z05 hg rfl) (by (try simp at hg) <;> first | omega | (simp only [List.length_map]; omega) | (simp only [List.length_map, List.length_drop]; omega)) (by (try simp at hg) <;> first | omega | (simp only [List.length_map]; omega) | (simp only [List.length_map, List.length_drop]; omega)) (by omega))) ?_
       refine Zt 0 (wT rfl rfl rfl rfl) rfl rfl (fun hg => (Z05 hg rfl)) rfl (fun hg => by (try simp at hg) <;> (first | assumption | omega | (simp only [List.length_drop]; omega))) (fun _ => Zo) ?_
       refine Zi (wT rfl rfl rfl rfl) rfl (fun hg => (Z0 rfl rfl)) ?_
       refine Zi (wT rfl rfl rfl rfl) rfl (fun hg => (Z0 rfl rfl)) ?_
       refine Zi (wT rfl rfl rfl rfl) rfl (fun hg => (Z6 p2 rfl (Z05 hg rfl) (Z05 hg rfl) (by (try simp at hg) <;> first | omega | (simp only [List.length_map]; omega) | (simp only [List.length_map, List.length_drop]; omega)) (by (try simp at hg) <;> first | omega | (simp only [List.length_map]; omega) | (simp only [List.length_map, List.length_drop]; omega)) (by omega))) ?_
       refine Zt 0 (wT rfl rfl rfl rfl) rfl rfl (fun hg => (Z05 hg rfl)) rfl (fun hg => by (try simp at hg) <;> (first | assumption | omega | (simp only [List.length_drop]; omega))) (fun _ => Zo) ?_
       refine Zi (wT rfl rfl rfl rfl) rfl (fun hg => (Zp [] rfl rfl (Zn (Z05 hg rfl) (Zn (Z05 hg rfl) Z0e)) (Z11 _ _) List.nodup_nil)) ?_
       refine Zi (wT rfl rfl rfl rfl) rfl (fun hg => (Z0j rfl (Z05 hg rfl))) ?_
       refine Z9 (w0 rfl) rfl (Z0h rfl rfl rfl (fun h => h)) ?_
       refine .done ?_
       refine Z4 ?_
       refine Za rfl ?_ ?_
       ·intro hc
        have ha0 : 0 < x.2.1 := by have := Z78 hc; simpa using this
        have hpe := Z6j (Z6k hc)
        refine Z5 ?_
        refine Z2 ?_
        refine Z1 (w0 rfl) rfl (Z0 rfl rfl) ?_
        refine Z1 (w0 rfl) rfl (Z0 rfl rfl) ?_
        refine Z1 (w0 rfl) rfl (Z0 rfl rfl) ?_
        refine Z1 (w0 rfl) rfl (Z0 rfl rfl) ?_
        refine Zl [_] _ (w0 rfl) rfl rfl rfl rfl (Zu (k := 0) rfl) (Z2w q n _ (by omega) hN x.2.1 x.2.2.1 p2 hp2'.1 hp2'.2 (by omega)) (fun v36 hv36 => ?_)
        refine Z1 (w0 rfl) rfl (Z3 rfl rfl) ?_
        refine Z4 ?_
        refine Z5 ?_
        refine Z2 ?_
        refine Z1 (w0 rfl) rfl (Z0 rfl rfl) ?_
        refine Z1 (w0 rfl) rfl (Z3 rfl rfl) ?_
        refine Z4 ?_
        refine Zy ?_
        refine ⟨(v36.1, v36.2, x.2.2.1, x.2.2.2.1, x.2.2.2.2.1, x.2.2.2.2.2), (by obtain ⟨j, e, he⟩ := hv36.2.2.2.2; exact (hJ3.move (by omega) hv36.1).equal ltS_ok (by omega) ha0 (by rw [hv36.1.out (.inl (by omega)), hv36.2.2.2.1]; exact hpe) he e hv36.2.1 hv36.2.2.1), (by (try simp only) <;> (have := hv36.2.1; omega)), ?_⟩
        exact Zc [0] ⟨rfl, rfl, rfl, rfl, rfl, rfl, trivial⟩ rfl (by decide) rfl rfl
       ·intro hc
        refine Zh ?_
        refine Z5 ?_
        refine Z2 ?_
        refine Z1 (w0 rfl) rfl (Z0 rfl rfl) ?_
        refine Z1 (w0 rfl) rfl (Z0 rfl rfl) ?_
        refine Z1 (w0 rfl) rfl (Z0 rfl rfl) ?_
        refine Z1 (w0 rfl) rfl (Z0 rfl rfl) ?_
        refine Zl [_] _ (w0 rfl) rfl rfl rfl rfl (Zu (k := 0) rfl) (Z4p q n _ (by omega) hN x.2.1 x.2.2.1 p2 hp2'.1 hp2'.2 (by omega)) (fun v37 hv37 => ?_)
        refine Z1 (w0 rfl) rfl (Z0 rfl rfl) ?_
        refine Z1 (w0 rfl) rfl (Zv rfl rfl rfl) ?_
        refine Z1 (w0 rfl) rfl (Zv rfl rfl rfl) ?_
        refine Z1 (w0 rfl) rfl (Z3 rfl rfl) ?_
        refine Z1 (w0 rfl) rfl (Z3 rfl rfl) ?_
        refine Z4 ?_
        refine Z5 ?_
        refine Z2 ?_
        refine Z1 (w0 rfl) rfl (Z0 rfl rfl) ?_
        refine Z1 (w0 rfl) rfl (Z3 rfl rfl) ?_
        refine Z4 ?_
        refine Z5 ?_
        have hJ4 := hJ3.move (by omega) hv37.1
        have hl4 := hJ4.sw.len
        have hmid : x.2.1 ≤ v37.2.1 ∧ v37.2.1 < x.2.2.1 := ⟨hv37.2.1, hv37.2.2.1⟩
        refine Z2 ?_
        refine Z1 (w0 rfl) rfl (Z0 rfl rfl) ?_
        refine Z1 (w0 rfl) rfl (Z0 rfl rfl) ?_
        refine Z1 (w0 rfl) rfl (Z7 rfl rfl rfl (Zg (by first | omega | (simp only [List.length_map]; omega)))) ?_
        refine Z1 (w0 rfl) rfl (Z0 rfl rfl) ?_
        refine Z1 (w0 rfl) rfl (Z0 rfl rfl) ?_
        refine Z1 (w0 rfl) rfl (Z7 rfl rfl rfl (Zg (by first | omega | (simp only [List.length_map]; omega)))) ?_
        refine Z1 (w0 rfl) rfl (Z3 rfl rfl) ?_
        refine Z1 (w0 rfl) rfl (Z3 rfl rfl) ?_
        refine Z4 ?_
        refine Z5 ?_
        refine Z2 ?_
        refine Z1 (w0 rfl) rfl (Z0 rfl rfl) ?_
        refine Z1 (w0 rfl) rfl (Zz (y := iA ((x.2.2.1 - x.2.1) / 8 : Nat)) (Z1g rfl rfl rfl (by decide) (Z13 (x.2.2.1 - x.2.1) 8 (by omega))) (congrArg iA (Z3q (x.2.2.1 - x.2.1) 8))) ?_
        refine Z1 (w0 rfl) rfl (Z3 rfl rfl) ?_
        refine Z4 ?_
        refine Z5 ?_
        refine Z2 ?_
        refine Z1 (w0 rfl) rfl (Z0 rfl rfl) ?_
        refine Z1 (w0 rfl) rfl (Z0 rfl rfl) ?_
        refine Z1 (w0 rfl) rfl (Zb rfl rfl rfl rfl) ?_
        refine Z4 ?_
        refine Za rfl ?_ ?_
        ·intro hc
         refine Z5 ?_
         refine Z2 ?_
         refine Z1 (w0 rfl) rfl (Z0 rfl rfl) ?_
         refine Z1 (w0 rfl) rfl (Z0 rfl rfl) ?_
         refine Z1 (w0 rfl) rfl (Zb rfl rfl rfl rfl) ?_
         refine Z1 (w0 rfl) rfl (Z3 rfl rfl) ?_
         refine Z4 ?_
         refine Z5 ?_
         refine Z0q 8 rfl (fun wb hwb => ?_)
         refine Z2 ?_
         refine Z1 (w0 rfl) rfl (Z0 rfl rfl) ?_
         refine Z1 (w0 rfl) rfl (Z0 rfl rfl) ?_
         refine Z1 (w0 rfl) rfl (Z0 rfl rfl) ?_
         refine Z1 (w0 rfl) rfl (Z0 rfl rfl) ?_
         refine Zl [_] _ (w0 rfl) rfl rfl rfl rfl (Zu (k := 0) rfl) (ih (v37.2.1 - x.2.1) (by omega) _ (by omega) x.2.1 v37.2.1 _ (Nat.le_refl _) (by omega) (by omega) (hJ4.bd.le (by omega))) (fun v38 hv38 => ?_)
         refine Z4 ?_
         refine Z2 ?_
         refine Z1 (w0 rfl) rfl (Z0 rfl rfl) ?_
         refine Z1 (w0 rfl) rfl (Z7 rfl rfl rfl (Zd (by first | omega | (simp only [List.length_map]; omega)))) ?_
         refine Z1 (w0 rfl) rfl (Z3 rfl rfl) ?_
         refine Z4 ?_
         refine ⟨(v38, v37.2.1 + 1, x.2.2.1, x.2.2.2.1, wb, v37.2.2), (hJ4.lower ltS_ok (by omega) hmid hv37.2.2.2 hv38.1 hv38.2), (by (try simp only) <;> omega), ?_⟩
         exact Zc [0] ⟨rfl, rfl, rfl, rfl, rfl, rfl, trivial⟩ rfl (by decide) rfl rfl
        ·intro hc
         refine Z5 ?_
         refine Z2 ?_
         refine Z1 (w0 rfl) rfl (Z0 rfl rfl) ?_
         refine Z1 (w0 rfl) rfl (Z0 rfl rfl) ?_
         refine Z1 (w0 rfl) rfl (Zb rfl rfl rfl rfl) ?_
         refine Z1 (w0 rfl) rfl (Z3 rfl rfl) ?_
         refine Z4 ?_
         refine Z5 ?_
         refine Z0q 8 rfl (fun wb hwb => ?_)
         refine Z2 ?_
         refine Z1 (w0 rfl) rfl (Z0 rfl rfl) ?_
         refine Z1 (w0 rfl) rfl (Z0 rfl rfl) ?_
         refine Z1 (w0 rfl) rfl (Z7 rfl rfl rfl (Zd (by first | omega | (simp only [List.length_map]; omega)))) ?_
         refine Z1 (w0 rfl) rfl (Z0 rfl rfl) ?_
         refine Z1 (w0 rfl) rfl (Z0 rfl rfl) ?_
         refine Zl [_] _ (w0 rfl) rfl rfl rfl rfl (Zu (k := 0) rfl) (ih (x.2.2.1 - (v37.2.1 + 1)) (by omega) _ (by omega) (v37.2.1 + 1) x.2.2.1 _ (Nat.le_refl _) (by omega) (by omega) hv37.2.2.2.bd) (fun v39 hv39 => ?_)
         refine Z4 ?_
         refine Z2 ?_
         refine Z1 (w0 rfl) rfl (Z0 rfl rfl) ?_
         refine Z1 (w0 rfl) rfl (Z3 rfl rfl) ?_
         refine Z4 ?_
         refine ⟨(v39, x.2.1, v37.2.1, x.2.2.2.1, wb, v37.2.2), (hJ4.upper ltS_ok (by omega) hmid hv37.2.2.2 hv39.1 hv39.2), (by (try simp only) <;> omega), ?_⟩
         exact Zc [0] ⟨rfl, rfl, rfl, rfl, rfl, rfl, trivial⟩ rfl (by decide) rfl rfl
     ·intro hc
      have hJ3 := hJ2
      have hl3 := hJ3.sw.len
      refine Zh ?_
      refine Z5 ?_
      refine Z5 ?_
      refine Z0i [0, 1, 3, 7, 7, 23, 63, 127, 7, 7, 775, 1799, 4095, 8191, 16383] 15 rfl (by kernel_rfl) ?_
      refine Z9 (w0 rfl) rfl (Z0 rfl rfl) ?_
      refine Z9 (w0 rfl) rfl (Zb rfl rfl rfl rfl) ?_
      refine Z9 (w0 rfl) rfl (Z0 rfl rfl) ?_
      refine Zi (wT rfl rfl rfl rfl) rfl (fun hg => (Z0 rfl rfl)) ?_
      refine Zi (wT rfl rfl rfl rfl) rfl (fun hg => (Z0 rfl rfl)) ?_
      refine Zi (wT rfl rfl rfl rfl) rfl (fun hg => (Z7 rfl (Z05 hg rfl) rfl (Zg (by first | omega | (simp only [List.length_map]; omega))))) ?_
      refine Zi (wT rfl rfl rfl rfl) rfl (fun hg => (Z6 (x.2.1 - 1) rfl (Z05 hg rfl) (Z05 hg rfl) (by (try simp at hg) <;> first | omega | (simp only [List.length_map]; omega) | (simp only [List.length_map, List.length_drop]; omega)) (by (try simp at hg) <;> first | omega | (simp only [List.length_map]; omega) | (simp only [List.length_map, List.length_drop]; omega)) (by omega))) ?_
      refine Zt 0 (wT rfl rfl rfl rfl) rfl rfl (fun hg => (Z05 hg rfl)) rfl (fun hg => by (try simp at hg) <;> (first | assumption | omega | (simp only [List.length_drop]; omega))) (fun _ => Zo) ?_
      refine Zi (wT rfl rfl rfl rfl) rfl (fun hg => (Z0 rfl rfl)) ?_
      refine Zi (wT rfl rfl rfl rfl) rfl (fun hg => (Z0 rfl rfl)) ?_
      refine Zi (wT rfl rfl rfl rfl) rfl (fun hg => (Z6 p2 rfl (Z05 hg rfl) (Z05 hg rfl) (by (try simp at hg) <;> first | omega | (simp only [List.length_map]; omega) | (simp only [List.length_map, List.length_drop]; omega)) (by (try simp at hg) <;> first | omega | (simp only [List.length_map]; omega) | (simp only [List.length_map, List.length_drop]; omega)) (by omega))) ?_
      refine Zt 0 (wT rfl rfl rfl rfl) rfl rfl (fun hg => (Z05 hg rfl)) rfl (fun hg => by (try simp at hg) <;> (first | assumption | omega | (simp only [List.length_drop]; omega))) (fun _ => Zo) ?_
      refine Zi (wT rfl rfl rfl rfl) rfl (fun hg => (Zp [] rfl rfl (Zn (Z05 hg rfl) (Zn (Z05 hg rfl) Z0e)) (Z11 _ _) List.nodup_nil)) ?_
      refine Zi (wT rfl rfl rfl rfl) rfl (fun hg => (Z0j rfl (Z05 hg rfl))) ?_
      refine Z9 (w0 rfl) rfl (Z0h rfl rfl rfl (fun h => h)) ?_
      refine .done ?_
      refine Z4 ?_
      refine Za rfl ?_ ?_
      ·intro hc
       have ha0 : 0 < x.2.1 := by have := Z78 hc; simpa using this
       have hpe := Z6j (Z6k hc)
       refine Z5 ?_
       refine Z2 ?_
       refine Z1 (w0 rfl) rfl (Z0 rfl rfl) ?_
       refine Z1 (w0 rfl) rfl (Z0 rfl rfl) ?_
       refine Z1 (w0 rfl) rfl (Z0 rfl rfl) ?_
       refine Z1 (w0 rfl) rfl (Z0 rfl rfl) ?_
       refine Zl [_] _ (w0 rfl) rfl rfl rfl rfl (Zu (k := 0) rfl) (Z2w q n _ (by omega) hN x.2.1 x.2.2.1 p2 hp2'.1 hp2'.2 (by omega)) (fun v40 hv40 => ?_)
       refine Z1 (w0 rfl) rfl (Z3 rfl rfl) ?_
       refine Z4 ?_
       refine Z5 ?_
       refine Z2 ?_
       refine Z1 (w0 rfl) rfl (Z0 rfl rfl) ?_
       refine Z1 (w0 rfl) rfl (Z3 rfl rfl) ?_
       refine Z4 ?_
       refine Zy ?_
       refine ⟨(v40.1, v40.2, x.2.2.1, x.2.2.2.1, x.2.2.2.2.1, x.2.2.2.2.2), (by obtain ⟨j, e, he⟩ := hv40.2.2.2.2; exact (hJ3.move (by omega) hv40.1).equal ltS_ok (by omega) ha0 (by rw [hv40.1.out (.inl (by omega)), hv40.2.2.2.1]; exact hpe) he e hv40.2.1 hv40.2.2.1), (by (try simp only) <;> (have := hv40.2.1; omega)), ?_⟩
       exact Zc [0] ⟨rfl, rfl, rfl, rfl, rfl, rfl, trivial⟩ rfl (by decide) rfl rfl
      ·intro hc
       refine Zh ?_
       refine Z5 ?_
       refine Z2 ?_
       refine Z1 (w0 rfl) rfl (Z0 rfl rfl) ?_
       refine Z1 (w0 rfl) rfl (Z0 rfl rfl) ?_
       refine Z1 (w0 rfl) rfl (Z0 rfl rfl) ?_
       refine Z1 (w0 rfl) rfl (Z0 rfl rfl) ?_
       refine Zl [_] _ (w0 rfl) rfl rfl rfl rfl (Zu (k := 0) rfl) (Z4p q n _ (by omega) hN x.2.1 x.2.2.1 p2 hp2'.1 hp2'.2 (by omega)) (fun v41 hv41 => ?_)
       refine Z1 (w0 rfl) rfl (Z0 rfl rfl) ?_
       refine Z1 (w0 rfl) rfl (Zv rfl rfl rfl) ?_
       refine Z1 (w0 rfl) rfl (Zv rfl rfl rfl) ?_
       refine Z1 (w0 rfl) rfl (Z3 rfl rfl) ?_
       refine Z1 (w0 rfl) rfl (Z3 rfl rfl) ?_
       refine Z4 ?_
       refine Z5 ?_
       refine Z2 ?_
       refine Z1 (w0 rfl) rfl (Z0 rfl rfl) ?_
       refine Z1 (w0 rfl) rfl (Z3 rfl rfl) ?_
       refine Z4 ?_
       refine Z5 ?_
       have hJ4 := hJ3.move (by omega) hv41.1
       have hl4 := hJ4.sw.len
       have hmid : x.2.1 ≤ v41.2.1 ∧ v41.2.1 < x.2.2.1 := ⟨hv41.2.1, hv41.2.2.1⟩
       refine Z2 ?_
       refine Z1 (w0 rfl) rfl (Z0 rfl rfl) ?_
       refine Z1 (w0 rfl) rfl (Z0 rfl rfl) ?_
       refine Z1 (w0 rfl) rfl (Z7 rfl rfl rfl (Zg (by first | omega | (simp only [List.length_map]; omega)))) ?_
       refine Z1 (w0 rfl) rfl (Z0 rfl rfl) ?_
       refine Z1 (w0 rfl) rfl (Z0 rfl rfl) ?_
       refine Z1 (w0 rfl) rfl (Z7 rfl rfl rfl (Zg (by first | omega | (simp only [List.length_map]; omega)))) ?_
       refine Z1 (w0 rfl) rfl (Z3 rfl rfl) ?_
       refine Z1 (w0 rfl) rfl (Z3 rfl rfl) ?_
       refine Z4 ?_
       refine Z5 ?_
       refine Z2 ?_
       refine Z1 (w0 rfl) rfl (Z0 rfl rfl) ?_
       refine Z1 (w0 rfl) rfl (Zz (y := iA ((x.2.2.1 - x.2.1) / 8 : Nat)) (Z1g rfl rfl rfl (by decide) (Z13 (x.2.2.1 - x.2.1) 8 (by omega))) (congrArg iA (Z3q (x.2.2.1 - x.2.1) 8))) ?_
       refine Z1 (w0 rfl) rfl (Z3 rfl rfl) ?_
       refine Z4 ?_
       refine Z5 ?_
       refine Z2 ?_
       refine Z1 (w0 rfl) rfl (Z0 rfl rfl) ?_
       refine Z1 (w0 rfl) rfl (Z0 rfl rfl) ?_
       refine Z1 (w0 rfl) rfl (Zb rfl rfl rfl rfl) ?_
       refine Z4 ?_
       refine Za rfl ?_ ?_
       ·intro hc
        refine Z5 ?_
        refine Z2 ?_
        refine Z1 (w0 rfl) rfl (Z0 rfl rfl) ?_
        refine Z1 (w0 rfl) rfl (Z0 rfl rfl) ?_
        refine Z1 (w0 rfl) rfl (Zb rfl rfl rfl rfl) ?_
        refine Z1 (w0 rfl) rfl (Z3 rfl rfl) ?_
        refine Z4 ?_
        refine Z5 ?_
        refine Z0q 8 rfl (fun wb hwb => ?_)
        refine Z2 ?_
        refine Z1 (w0 rfl) rfl (Z0 rfl rfl) ?_
        refine Z1 (w0 rfl) rfl (Z0 rfl rfl) ?_
        refine Z1 (w0 rfl) rfl (Z0 rfl rfl) ?_
        refine Z1 (w0 rfl) rfl (Z0 rfl rfl) ?_
        refine Zl [_] _ (w0 rfl) rfl rfl rfl rfl (Zu (k := 0) rfl) (ih (v41.2.1 - x.2.1) (by omega) _ (by omega) x.2.1 v41.2.1 _ (Nat.le_refl _) (by omega) (by omega) (hJ4.bd.le (by omega))) (fun v42 hv42 => ?_)
        refine Z4 ?_
        refine Z2 ?_
        refine Z1 (w0 rfl) rfl (Z0 rfl rfl) ?_
        refine Z1 (w0 rfl) rfl (Z7 rfl rfl rfl (Zd (by first | omega | (simp only [List.length_map]; omega)))) ?_
        refine Z1 (w0 rfl) rfl (Z3 rfl rfl) ?_
        refine Z4 ?_
        refine ⟨(v42, v41.2.1 + 1, x.2.2.1, x.2.2.2.1, wb, v41.2.2), (hJ4.lower ltS_ok (by omega) hmid hv41.2.2.2 hv42.1 hv42.2), (by (try simp only) <;> omega), ?_⟩
        exact Zc [0] ⟨rfl, rfl, rfl, rfl, rfl, rfl, trivial⟩ rfl (by decide) rfl rfl
       ·intro hc
        refine Z5 ?_
        refine Z2 ?_
        refine Z1 (w0 rfl) rfl (Z0 rfl rfl) ?_
        refine Z1 (w0 rfl) rfl (Z0 rfl rfl) ?_
        refine Z1 (w0 rfl) rfl (Zb rfl rfl rfl rfl) ?_
        refine Z1 (w0 rfl) rfl (Z3 rfl rfl) ?_
        refine Z4 ?_
        refine Z5 ?_
        refine Z0q 8 rfl (fun wb hwb => ?_)
        refine Z2 ?_
        refine Z1 (w0 rfl) rfl (Z0 rfl rfl) ?_
        refine Z1 (w0 rfl) rfl (Z0 rfl rfl) ?_
        refine Z1 (w0 rfl) rfl (Z7 rfl rfl rfl (Zd (by first | omega | (simp only [List.length_map]; omega)))) ?_
        refine Z1 (w0 rfl) rfl (Z0 rfl rfl) ?_
        refine Z1 (w0 rfl) rfl (Z0 rfl rfl) ?_
        refine Zl [_] _ (w0 rfl) rfl rfl rfl rfl (Zu (k := 0) rfl) (ih (x.2.2.1 - (v41.2.1 + 1)) (by omega) _ (by omega) (v41.2.1 + 1) x.2.2.1 _ (Nat.le_refl _) (by omega) (by omega) hv41.2.2.2.bd) (fun v43 hv43 => ?_)
        refine Z4 ?_
        refine Z2 ?_
        refine Z1 (w0 rfl) rfl (Z0 rfl rfl) ?_
        refine Z1 (w0 rfl) rfl (Z3 rfl rfl) ?_
        refine Z4 ?_
        refine ⟨(v43, x.2.1, v41.2.1, x.2.2.2.1, wb, v41.2.2), (hJ4.upper ltS_ok (by omega) hmid hv41.2.2.2 hv43.1 hv43.2), (by (try simp only) <;> omega), ?_⟩
        exact Zc [0] ⟨rfl, rfl, rfl, rfl, rfl, rfl, trivial⟩ rfl (by decide) rfl rfl
theorem Zig (q n : Nat) (l : List Str) (hn : l.length = n) (hN : n ≤ 140737488355328)  : ACalls Try.prog 31 [.own q 1 0 n] [(q, .rows 9 1 (l.map fun x => [sA x]))] (GP (fun _ : List Str => mkRes []) (fun m => [(q, .rows 9 1 (m.map fun x => [sA x]))]) (fun m => m.Perm l ∧ SOn ltS 0 n m)) := by
 refine Zj (n := 11) Try.func31 rfl (by decide +kernel) rfl rfl ?_
 refine Z5 ?_
 refine Z2 ?_
 refine Z1 (w0 rfl) rfl (Z0 rfl rfl) ?_
 refine Z1 (w0 rfl) rfl (Z10 rfl rfl rfl rfl) ?_
 refine Z1 (w0 rfl) rfl (Z3 rfl rfl) ?_
 refine Z4 ?_
 refine Z2 ?_
 refine Z1 (w0 rfl) rfl (Z0 rfl rfl) ?_
 refine Z1 (w0 rfl) rfl (Z0 rfl rfl) ?_
 refine Z1 (w0 rfl) rfl (Z0 rfl rfl) ?_
 refine Z1 (w0 rfl) rfl (Zz (y := xA n) (Z03 rfl rfl) (congrArg xA (Z2r (by omega)))) ?_
 refine Z33 (w0 rfl) rfl rfl rfl rfl (Z83 n (by omega)) (fun v1 hv1 => ?_)
 refine Zl [_] _ (w0 rfl) rfl rfl rfl rfl (Zu (k := 0) rfl) (Zjp q n hN n l hn 0 n _ (by omega) (by omega) (Nat.le_refl _) (.inl rfl)) (fun v2 hv2 => ?_)
 refine Z4 ?_
 exact Zr rfl Ze (.cons_cons _ .slnil) (gp v2 ⟨hv2.1.perm, hv2.2⟩ rfl rfl)
end Go.Sx
