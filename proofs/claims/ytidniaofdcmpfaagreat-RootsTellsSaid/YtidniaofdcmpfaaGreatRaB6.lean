/- YtidniaofdcmpfaaGreatRaB6: texts of this claim, one behind the other. -/
import Derived.Test.YtidniaofdcmpfaaGreatRaB5
set_option linter.unusedVariables false
set_option linter.unusedSimpArgs false
set_option linter.unusedSectionVars false
set_option linter.unnecessarySimpa false
namespace Go.Sx
open Go Go.Proofs
theorem Z7j (p : Prog) (hp : p.ok) (r : Roots) (hr : r.ok) : ACalls Tryz.prog 12 [p.av, r.av] [] (Gives (.lst ((exactR p r).map Rule.cells))) := by
 have n1 := hr.n1
 have n2 := hr.n2
 have n3 := hr.n3
 have n4 := hr.n4
 have n5 := hr.n5
 have n6 := hr.n6
 have s4 : small r.classNames.length := by unfold small; omega
 have s5 : small r.fieldNames.length := by unfold small; omega
 have s6 : small r.methodNames.length := by unfold small; omega
 refine Zd (n := 88) Tryz.func12 rfl (by decide +kernel) rfl rfl ?_
 refine qS (qR ?_)
 refine Zy (w0 rfl) rfl (fun id => Z09 id rfl rfl rfl rfl rfl) (fun id1 => ?_)
 refine Zy (w0 rfl) rfl (fun id => Z09 id rfl rfl rfl rfl rfl) (fun id2 => ?_)
 refine qA (qN (qS (qR ?_)))
 refine Zy (w0 rfl) rfl (fun id => Z29 id 63 5 (.inl rfl) rfl) (fun id3 => ?_)
 refine qN (qS (qS (qR ?_)))
 refine qe (Z0 rfl rfl rfl) ?_
 refine qL 1 Z3 ?_
 refine qe (Zx rfl rfl rfl rfl) ?_
 refine qM (qN (qB ?_))
 refine Zj (α := Nat × Nat) (fun x => ⟨[(5, .own x.1 5 0 ((r.classes.take x.2).map (exC r)).length), (17, iA x.2), (2, .ptr id1 5 0 0), (3, .ptr id2 7 0 0), (15, row1 sA r.classes), (16, iA r.classes.length)], [(x.1, .rows 63 5 (((r.classes.take x.2).map (exC r)).map Rule.cells)), (id1, .rows 27 5 [p.cells]), (id2, .rows 34 7 [r.cells])], [], 88⟩) (fun x => x.2 ≤ r.classes.length) (fun x => r.classes.length - x.2) (id3, 0) (Nat.zero_le _) ?_ ?_
 ·exact Zb [0, 2, 1] ⟨rfl, rfl, rfl, rfl, rfl, (by show some (iA _) = some (iA _); simp), trivial⟩ rfl (by decide) rfl rfl
 rintro x hJ
 refine qS (qR ?_)
 refine qe eI ?_
 refine qN (qS ?_)
 refine Z2 rfl ?_ ?_
 ·intro hc
  have hi : x.2 < r.classes.length := by simpa using hc
  have ex : ((r.classes.take (x.2 + 1)).map (exC r)) = ((r.classes.take x.2).map (exC r)) ++ [exC r r.classes[x.2]] := map_take hi
  have hln : (r.classes.take x.2).length ≤ x.2 := List.length_take_le _ _
  refine qK (qS (qB (qS (qR ?_))))
  refine qe (Z6 rfl rfl rfl (Z04 (fun _ => rfl)) (by first | omega | (simp only [List.length_map]; omega) | (simp only [List.length_map, List.length_drop]; omega)) (by first | omega | (simp only [List.length_map]; omega) | (simp only [List.length_map, List.length_drop]; omega))) ?_
  refine qe (Zu rfl rfl (Z0a (by first | assumption | omega | (simp only [List.length_drop]; omega))) Z3) ?_
  refine qA (qN (qR (qM (qM ?_))))
  refine qe (Z0 rfl rfl rfl) ?_
  refine qL 2 Z3 ?_
  refine qM ?_
  refine qe (Z8 [] rfl rfl rfl (Z31 r.classNames s4 _) List.nodup_nil) ?_
  refine qe (Z8 [] rfl rfl rfl (Zdp _ _) List.nodup_nil) ?_
  refine Zy (w0 rfl) rfl (fun id => Zo id (ps := [(0, .tmp 27)]) rfl rfl rfl rfl rfl rfl rfl rfl) (fun id4 => ?_)
  refine Z0n 1 (w0 rfl) rfl rfl rfl rfl (by simp) rfl ⟨rfl, _, _, List.mem_of_getElem? (i := 0) rfl, by simp, rfl⟩ (by first | omega | (simp; omega) | (simp [maxLen]; omega) | (simp; done) | (simp [maxLen]; done)) (by first | omega | (simp; omega) | (simp [maxLen]; omega) | (simp; done) | (simp [maxLen]; done)) (fun id5 => ?_)
  refine qA (qN (qR ?_))
  refine qe (Z9 rfl rfl rfl (Zn (by first | omega | (simp only [List.length_map]; omega)))) ?_
  refine qM (qN ?_)
  refine ⟨(id5, x.2 + 1), (by show x.2 + 1 ≤ _; omega), (by show r.classes.length - (x.2 + 1) < r.classes.length - x.2; omega), ?_⟩
  exact Zb [1, 2, 3] ⟨(by show some (AV.own _ _ _ _) = some (AV.own _ _ _ _); rw [ex, List.length_append, List.length_map]; rfl), rfl, rfl, rfl, rfl, rfl, trivial⟩ (by show some [(_, AObj.rows _ _ _), (_, AObj.rows _ _ _), (_, AObj.rows _ _ _)] = some [(_, AObj.rows _ _ _), (_, AObj.rows _ _ _), (_, AObj.rows _ _ _)]; rw [ex]; simp [cellsA, Rule.av, Rule.cells, exC, exF, exM]) (by decide) rfl rfl
 ·intro hc
  have hi : ¬ x.2 < r.classes.length := by simpa using hc
  have et : r.classes.take x.2 = r.classes := List.take_of_length_le (by omega)
  refine qX (qS (qS (qR ?_)))
  refine qe (Z0 rfl rfl rfl) ?_
  refine qL 2 Z3 ?_
  refine qe (Zx rfl rfl rfl rfl) ?_
  refine qM (qN (qB ?_))
  refine Zj (α := Nat × Nat) (fun y => ⟨[(5, .own y.1 5 0 (r.classes.map (exC r) ++ (r.fields.take y.2).map (exF p r)).length), (34, iA y.2), (2, .ptr id1 5 0 0), (3, .ptr id2 7 0 0), (32, .lst (r.fields.map FRef.cells)), (33, iA r.fields.length)], [(y.1, .rows 63 5 ((r.classes.map (exC r) ++ (r.fields.take y.2).map (exF p r)).map Rule.cells)), (id1, .rows 27 5 [p.cells]), (id2, .rows 34 7 [r.cells])], [], 88⟩) (fun y => y.2 ≤ r.fields.length) (fun y => r.fields.length - y.2) (x.1, 0) (Nat.zero_le _) ?_ ?_
  ·exact Zb [0, 1, 2] ⟨(by show some (AV.own _ _ _ _) = some (AV.own _ _ _ _); rw [et]; simp), rfl, rfl, rfl, rfl, (by show some (iA _) = some (iA _); simp), trivial⟩ (by show some [(_, AObj.rows _ _ _), (_, AObj.rows _ _ _), (_, AObj.rows _ _ _)] = some [(_, AObj.rows _ _ _), (_, AObj.rows _ _ _), (_, AObj.rows _ _ _)]; rw [et]; simp) (by decide) rfl rfl
  rintro y hJ2
  refine qS (qR ?_)
  refine qe eI ?_
  refine qN (qS ?_)
  refine Z2 rfl ?_ ?_
  ·intro hc
   have hi : y.2 < r.fields.length := by simpa using hc
   have ex : (r.classes.map (exC r) ++ (r.fields.take (y.2 + 1)).map (exF p r)) = (r.classes.map (exC r) ++ (r.fields.take y.2).map (exF p r)) ++ [exF p r r.fields[y.2]] := by rw [map_take hi, ← List.append_assoc]
   have hln : (r.fields.take y.2).length ≤ y.2 := List.length_take_le _ _
   refine qK (qS (qB (qS (qR ?_))))
   refine qe (Z6 rfl rfl rfl (Z04 (fun _ => rfl)) (by first | omega | (simp only [List.length_map]; omega) | (simp only [List.length_map, List.length_drop]; omega)) (by first | omega | (simp only [List.length_map]; omega) | (simp only [List.length_map, List.length_drop]; omega))) ?_
   refine qe (Zu rfl rfl (Z0a (by first | assumption | omega | (simp only [List.length_drop]; omega))) (Zt (Nat.le_of_ble_eq_true rfl))) ?_
   refine Zy (w0 rfl) rfl (fun id => Z0b id rfl rfl rfl) (fun id6 => ?_)
   refine Zw 0 (w0 rfl) rfl rfl rfl rfl rfl rfl rfl rfl rfl ?_
   refine qN (qS (qR ?_))
   refine qL 2 (Zt (Nat.le_of_ble_eq_true rfl)) ?_
   refine qL 0 (Zt (Nat.le_of_ble_eq_true rfl)) ?_
   refine qe (Z8 [] rfl rfl rfl (Z7k p hp r.fields[y.2]) List.nodup_nil) ?_
   refine qM ?_
   refine qe (Zi rfl rfl rfl) ?_
   refine qe (Zi rfl rfl rfl) ?_
   refine Zy (w0 rfl) rfl (fun id => Z0b id rfl rfl rfl) (fun id7 => ?_)
   refine Zw 0 (w0 rfl) rfl rfl rfl rfl rfl rfl rfl rfl rfl ?_
   refine qA (qN ?_)
   refine Z13 [0, 0, 2, 0, 8, 0, 32, 96, 0, 256, 0, 1024, 4064, 8190, 16382, 32767, 65535] [15] [2, 4, 6, 9, 11, 14] rfl (by kernel_rfl) ?_
   refine Zh (w0 rfl) rfl (Z06 rfl rfl) rfl ?_
   refine Zh (w0 rfl) rfl (Z0 rfl rfl rfl) rfl ?_
   refine Zl 1 (w0 rfl) rfl rfl rfl rfl rfl Z3 rfl rfl ?_
   refine Zh (w0 rfl) rfl (Z0 rfl rfl rfl) rfl ?_
   refine Zl 1 (w0 rfl) rfl rfl rfl rfl rfl Z3 rfl rfl ?_
   refine Zh (w0 rfl) rfl (Z0 rfl rfl rfl) rfl ?_
   refine Zl 0 (w0 rfl) rfl rfl rfl rfl rfl (Zt (Nat.le_of_ble_eq_true rfl)) rfl rfl ?_
   refine Zh (w0 rfl) rfl (Z8 [] rfl rfl rfl (Zbv ((fldP p r.fields[y.2]).getD zFl).type (Z9r hp r.fields[y.2]).2) List.nodup_nil) rfl ?_
   refine Zh (w0 rfl) rfl (Z0 rfl rfl rfl) rfl ?_
   refine Zl 4 (w0 rfl) rfl rfl rfl rfl rfl Z3 rfl rfl ?_
   refine Zh (w0 rfl) rfl (Z0 rfl rfl rfl) rfl ?_
   refine Zl 1 (w0 rfl) rfl rfl rfl rfl rfl Z3 rfl rfl ?_
   refine Zh (w0 rfl) rfl (Z8 [] rfl rfl rfl (Z31 r.fieldNames s5 _) List.nodup_nil) rfl ?_
   refine Zh (w0 rfl) rfl (Z8 [] rfl rfl rfl (Z9f _ _ _ _) List.nodup_nil) rfl ?_
   refine Z1e (w0 rfl) rfl (fun id => Zo id (ps := [(0, .tmp 57)]) rfl rfl rfl rfl rfl rfl rfl rfl) rfl rfl (fun id8 => ?_)
   refine Z0v 3 [] (w0 rfl) rfl rfl rfl rfl (by simp) rfl ⟨rfl, _, _, List.mem_of_getElem? (i := 0) rfl, by simp, rfl⟩ (by first | omega | (simp; omega) | (simp [maxLen]; omega) | (simp; done) | (simp [maxLen]; done)) (by first | omega | (simp; omega) | (simp [maxLen]; omega) | (simp; done) | (simp [maxLen]; done)) rfl (fun _ => trivial) (fun id9 => ?_)
   refine Zh (w0 rfl) rfl (Z0y rfl rfl) rfl ?_
   refine .done (qR ?_)
   refine qe (Z9 rfl rfl rfl (Zn (by first | omega | (simp only [List.length_map]; omega)))) ?_
   refine qM (qN ?_)
   refine ⟨(id9, y.2 + 1), (by show y.2 + 1 ≤ _; omega), (by show r.fields.length - (y.2 + 1) < r.fields.length - y.2; omega), ?_⟩
   exact Zb [3, 4, 5] ⟨(by show some (AV.own _ _ _ _) = some (AV.own _ _ _ _); rw [ex, List.length_append, List.length_map]; rfl), rfl, rfl, rfl, rfl, rfl, trivial⟩ (by show some [(_, AObj.rows _ _ _), (_, AObj.rows _ _ _), (_, AObj.rows _ _ _)] = some [(_, AObj.rows _ _ _), (_, AObj.rows _ _ _), (_, AObj.rows _ _ _)]; rw [ex]; simp [cellsA, Rule.av, Rule.cells, exC, exF, exM]) (by decide) rfl rfl
  ·intro hc
   have hi : ¬ y.2 < r.fields.length := by simpa using hc
   have et : r.fields.take y.2 = r.fields := List.take_of_length_le (by omega)
   refine qX (qS (qS (qR ?_)))
   refine qe (Z0 rfl rfl rfl) ?_
   refine qL 2 Z3 ?_
   refine qe (Zx rfl rfl rfl rfl) ?_
   refine qM (qN (qB ?_))
   refine Zj (α := Nat × Nat) (fun z => ⟨[(5, .own z.1 5 0 ((r.classes.map (exC r) ++ r.fields.map (exF p r)) ++ (r.methods.take z.2).map (exM r)).length), (64, iA z.2), (2, .ptr id1 5 0 0), (3, .ptr id2 7 0 0), (62, .lst (r.methods.map MRef.cells)), (63, iA r.methods.length)], [(z.1, .rows 63 5 (((r.classes.map (exC r) ++ r.fields.map (exF p r)) ++ (r.methods.take z.2).map (exM r)).map Rule.cells)), (id1, .rows 27 5 [p.cells]), (id2, .rows 34 7 [r.cells])], [], 88⟩) (fun z => z.2 ≤ r.methods.length) (fun z => r.methods.length - z.2) (y.1, 0) (Nat.zero_le _) ?_ ?_
   ·exact Zb [0, 1, 2] ⟨(by show some (AV.own _ _ _ _) = some (AV.own _ _ _ _); rw [et]; simp), rfl, rfl, rfl, rfl, (by show some (iA _) = some (iA _); simp), trivial⟩ (by show some [(_, AObj.rows _ _ _), (_, AObj.rows _ _ _), (_, AObj.rows _ _ _)] = some [(_, AObj.rows _ _ _), (_, AObj.rows _ _ _), (_, AObj.rows _ _ _)]; rw [et]; simp) (by decide) rfl rfl
   rintro z hJ3
   refine qS (qR ?_)
   refine qe eI ?_
   refine qN (qS ?_)
   refine Z2 rfl ?_ ?_
   ·intro hc
    have hi : z.2 < r.methods.length := by simpa using hc
    have ex : ((r.classes.map (exC r) ++ r.fields.map (exF p r)) ++ (r.methods.take (z.2 + 1)).map (exM r)) = ((r.classes.map (exC r) ++ r.fields.map (exF p r)) ++ (r.methods.take z.2).map (exM r)) ++ [exM r r.methods[z.2]] := by rw [map_take hi, ← List.append_assoc]
    have hln : (r.methods.take z.2).length ≤ z.2 := List.length_take_le _ _
    have hms := hr.ms (r.methods[((z.2 : Nat) : Int).toNat]'hi) (List.getElem_mem _)
    have hm1 := hms.name
    have hm2 := hms.desc
    simp only [small] at hm1 hm2
    refine qK (qS (qB (qS (qR ?_))))
    refine qe (Z6 rfl rfl rfl (Z04 (fun _ => rfl)) (by first | omega | (simp only [List.length_map]; omega) | (simp only [List.length_map, List.length_drop]; omega)) (by first | omega | (simp only [List.length_map]; omega) | (simp only [List.length_map, List.length_drop]; omega))) ?_
    refine qe (Zu rfl rfl (Z0a (by first | assumption | omega | (simp only [List.length_drop]; omega))) (Zt (Nat.le_of_ble_eq_true rfl))) ?_
    refine Zy (w0 rfl) rfl (fun id => Z0b id rfl rfl rfl) (fun id10 => ?_)
    refine Zw 0 (w0 rfl) rfl rfl rfl rfl rfl rfl rfl rfl rfl ?_
    refine qN ?_
    refine Z13 [0, 0, 2, 0, 8, 0, 32, 0, 128, 0, 512, 0, 2048, 7680, 16256, 32766, 65534, 131071, 262143] [17] [2, 4, 6, 8, 10, 12, 16] rfl (by kernel_rfl) ?_
    refine Zh (w0 rfl) rfl (Z06 rfl rfl) rfl ?_
    refine Zh (w0 rfl) rfl (Z0 rfl rfl rfl) rfl ?_
    refine Zl 0 (w0 rfl) rfl rfl rfl rfl rfl Z3 rfl rfl ?_
    refine Zh (w0 rfl) rfl (Z0 rfl rfl rfl) rfl ?_
    refine Zl 0 (w0 rfl) rfl rfl rfl rfl rfl Z3 rfl rfl ?_
    refine Zh (w0 rfl) rfl (Z0 rfl rfl rfl) rfl ?_
    refine Zl 0 (w0 rfl) rfl rfl rfl rfl rfl Z3 rfl rfl ?_
    refine Zh (w0 rfl) rfl (Z0 rfl rfl rfl) rfl ?_
    refine Zl 3 (w0 rfl) rfl rfl rfl rfl rfl Z3 rfl rfl ?_
    refine Zh (w0 rfl) rfl (Z0 rfl rfl rfl) rfl ?_
    refine Zl 0 (w0 rfl) rfl rfl rfl rfl rfl Z3 rfl rfl ?_
    refine Zh (w0 rfl) rfl (Z0 rfl rfl rfl) rfl ?_
    refine Zl 0 (w0 rfl) rfl rfl rfl rfl rfl Z3 rfl rfl ?_
    refine Zh (w0 rfl) rfl (Z12 rfl rfl rfl (by (try simp only [ByteArray.size_append, small] at *) <;> omega)) rfl ?_
    refine Zh (w0 rfl) rfl (Z8 [] rfl rfl rfl (Z31 r.methodNames s6 _) List.nodup_nil) rfl ?_
    refine Zh (w0 rfl) rfl (Z8 [] rfl rfl rfl (Z9f _ _ _ _) List.nodup_nil) rfl ?_
    refine Z1e (w0 rfl) rfl (fun id => Zo id (ps := [(0, .tmp 83)]) rfl rfl rfl rfl rfl rfl rfl rfl) rfl rfl (fun id11 => ?_)
    refine Z0v 2 [] (w0 rfl) rfl rfl rfl rfl (by simp) rfl ⟨rfl, _, _, List.mem_of_getElem? (i := 0) rfl, by simp, rfl⟩ (by first | omega | (simp; omega) | (simp [maxLen]; omega) | (simp; done) | (simp [maxLen]; done)) (by first | omega | (simp; omega) | (simp [maxLen]; omega) | (simp; done) | (simp [maxLen]; done)) rfl (fun _ => trivial) (fun id12 => ?_)
    refine Zh (w0 rfl) rfl (Z0y rfl rfl) rfl ?_
    refine .done (qR ?_)
    refine qe (Z9 rfl rfl rfl (Zn (by first | omega | (simp only [List.length_map]; omega)))) ?_
    refine qM (qN ?_)
    refine ⟨(id12, z.2 + 1), (by show z.2 + 1 ≤ _; omega), (by show r.methods.length - (z.2 + 1) < r.methods.length - z.2; omega), ?_⟩
    exact Zb [2, 3, 4] ⟨(by show some (AV.own _ _ _ _) = some (AV.own _ _ _ _); rw [ex, List.length_append, List.length_map]; rfl), rfl, rfl, rfl, rfl, rfl, trivial⟩ (by show some [(_, AObj.rows _ _ _), (_, AObj.rows _ _ _), (_, AObj.rows _ _ _)] = some [(_, AObj.rows _ _ _), (_, AObj.rows _ _ _), (_, AObj.rows _ _ _)]; rw [ex]; simp [cellsA, Rule.av, Rule.cells, exC, exF, exM]) (by decide) rfl rfl
   ·intro hc
    have hi : ¬ z.2 < r.methods.length := by simpa using hc
    have et : r.methods.take z.2 = r.methods := List.take_of_length_le (by omega)
    refine qX (qS (qR (qM (qA (qN (qE ?_))))))
    exact Z4i 0 rfl rfl rfl rfl (by simp) (by unfold exactR; rw [et])
theorem Z54 (r : Roots) : ACalls Tryz.prog 42 [r.av] [] (Gives (textA r)) := by
 refine Zd (n := 14) Tryz.func42 rfl (by decide +kernel) rfl rfl ?_
 refine qS (qR ?_)
 refine Zy (w0 rfl) rfl (fun id => Z09 id rfl rfl rfl rfl rfl) (fun id1 => ?_)
 refine qA (qN (qS (qR ?_)))
 refine qe (Z0 rfl rfl rfl) ?_
 refine qL 0 Z3 ?_
 refine qe (Z0 rfl rfl rfl) ?_
 refine qL 0 Z3 ?_
 refine qe (Z0 rfl rfl rfl) ?_
 refine qL 0 Z3 ?_
 refine qe (Z0 rfl rfl rfl) ?_
 refine qL 0 Z3 ?_
 refine qe (Z0 rfl rfl rfl) ?_
 refine qL 0 Z3 ?_
 refine qe (Z22 (es := _) (fun id => Zo id (ps := [(0, .tmp 4), (1, .tmp 6), (2, .tmp 8), (3, .tmp 10), (4, .tmp 12)]) rfl rfl rfl rfl rfl rfl rfl rfl) rfl) ?_
 refine qA (qN (qE ?_))
 exact Z0p rfl (Z7 rfl Z4) (gvr rfl)
theorem Zbc (a b : List (List Str)) (hl : small a.length) (hb : small b.length) (ha2 : ∀ l, l ∈ a → small l.length) (hb2 : ∀ l, l ∈ b → small l.length) : ACalls Tryz.prog 41 [.lst (a.map fun l => [row1 sA l]), .lst (b.map fun l => [row1 sA l]), .fn (.func 43) []] [] (Gives (bA (decide (a = b)))) := by
 simp only [small] at hl hb
 refine Zd (n := 32) Tryz.func41 rfl (by decide +kernel) rfl rfl ?_
 refine qS (qR (qA (qN (qS (qS (qR (qM ?_)))))))
 refine qe (Zx rfl rfl rfl rfl) ?_
 refine qM ?_
 refine qe (Zx rfl rfl rfl rfl) ?_
 refine qe eI ?_
 refine qN ?_
 refine Z2 rfl ?_ ?_
 ·intro hc
  have hne : ¬ a.length = b.length := by simp at hc; omega
  refine qS (qR (qA (qN (qE ?_))))
  exact Z0p rfl (Z7 rfl Z4) (gb (by symm; simp only [decide_eq_false_iff_not]; intro e; exact hne (by rw [e])))
 ·intro hc
  have hne : a.length = b.length := by simp at hc; omega
  refine qK (qS (qS (qR (qM ?_))))
  refine qe (Zx rfl rfl rfl rfl) ?_
  refine qM (qN (qB ?_))
  refine Zj (α := Nat) (fun i => ⟨[(17, iA i), (16, iA a.length), (15, .lst (a.map fun l => [row1 sA l])), (1, .lst (b.map fun l => [row1 sA l])), (2, .fn (.func 43) [])], [], [], 32⟩) (fun i => i ≤ a.length ∧ a.take i = b.take i) (fun i => a.length - i) 0 ⟨Nat.zero_le _, rfl⟩ ?_ ?_
  ·exact Zb [] ⟨rfl, (by show some (iA _) = some (iA _); simp), rfl, rfl, rfl, trivial⟩ rfl (by decide) rfl rfl
  rintro i hJ
  refine qS (qR ?_)
  refine qe eI ?_
  refine qN (qS ?_)
  refine Z2 rfl ?_ ?_
  ·intro hc
   have hi : i < a.length := by simpa using hc
   refine qK (qS (qB (qS (qR (qM ?_)))))
   refine qe (Z6 rfl rfl rfl (Z04 (fun _ => rfl)) (by first | omega | (simp only [List.length_map]; omega) | (simp only [List.length_map, List.length_drop]; omega)) (by first | omega | (simp only [List.length_map]; omega) | (simp only [List.length_map, List.length_drop]; omega))) ?_
   refine qe (Zu rfl rfl (Z0a (by first | assumption | omega | (simp only [List.length_drop]; omega))) Z3) ?_
   refine qA (qA (qN (qS (qR (qM (qM ?_))))))
   refine qe (Z6 rfl rfl rfl (Z04 (fun _ => rfl)) (by first | omega | (simp only [List.length_map]; omega) | (simp only [List.length_map, List.length_drop]; omega)) (by first | omega | (simp only [List.length_map]; omega) | (simp only [List.length_map, List.length_drop]; omega))) ?_
   refine qe (Zu rfl rfl (Z0a (by first | assumption | omega | (simp only [List.length_drop]; omega))) Z3) ?_
   refine qA (qN (qS (qR (qM (qM (qM ?_))))))
   refine qe (Z8 [] rfl rfl rfl (Zdo a[i] (b[i]'(by omega)) (ha2 _ (List.getElem_mem hi)) (hb2 _ (List.getElem_mem _))) List.nodup_nil) ?_
   refine qe (Z03 rfl rfl) ?_
   refine qN ?_
   refine Z2 rfl ?_ ?_
   ·intro hc
    have hq : ¬ a[i] = b[i]'(by omega) := of_decide_eq_false (Z1u hc)
    refine qS (qR (qA (qN (qE ?_))))
    exact Z0p rfl (Z7 rfl Z4) (gb (by symm; simp only [decide_eq_false_iff_not]; intro e; exact hq (by simp only [e])))
   ·intro hc
    have hq : a[i] = b[i]'(by omega) := of_decide_eq_true (Z2c hc)
    refine qK (qR ?_)
    refine qe (Z9 rfl rfl rfl (Zn (by first | omega | (simp only [List.length_map]; omega)))) ?_
    refine qM (qN ?_)
    refine ⟨i + 1, ⟨hi, Z6a hi (by omega) hJ.2 hq⟩, (by omega), ?_⟩
    exact qp [] ⟨rfl, rfl, rfl, rfl, rfl, trivial⟩
  ·intro hc
   have hi : ¬ i < a.length := by simpa using hc
   refine qX (qS (qR (qA (qN (qE ?_)))))
   exact Z0p rfl (Z7 rfl Z4) (gb (by symm; simp only [decide_eq_true_eq]; exact Z69 hne hi hJ.2))
theorem Z36 {r : Roots} (h : r.ok) : ∀ l, l ∈ textL r → small l.length := by
 intro l hl
 unfold textL at hl
 have := h.n1; have := h.n4; have := h.n5; have := h.n6; have := h.n7
 simp only [List.mem_cons, List.not_mem_nil, or_false] at hl
 unfold small
 rcases hl with rfl | rfl | rfl | rfl | rfl <;> omega
theorem sm6 {n : Nat} (h : n ≤ 1000000) : small n := by unfold small; omega
theorem Z9l (a b : Roots) (ha : a.ok) (hb : b.ok) : ACalls Tryz.prog 14 [a.av, b.av] [] (Gives (bA (decide (a = b)))) := by
 refine Zd (n := 24) Tryz.func14 rfl (by decide +kernel) rfl rfl ?_
 refine qS (qR ?_)
 refine Zy (w0 rfl) rfl (fun id => Z09 id rfl rfl rfl rfl rfl) (fun id1 => ?_)
 refine Zy (w0 rfl) rfl (fun id => Z09 id rfl rfl rfl rfl rfl) (fun id2 => ?_)
 refine qA (qN (qS ?_))
 refine Zz [0, 1, 0, 4, 15, 31, 63, 127, 63, 319, 1023, 2047, 4095, 8191, 16383, 8191, 65535, 131071, 262143, 524287] 20 rfl (by kernel_rfl) ?_
 refine ce (Z0 rfl rfl rfl) ?_
 refine Za 1 (w0 rfl) rfl rfl rfl rfl rfl Z3 ?_
 refine ce (Z0 rfl rfl rfl) ?_
 refine Za 0 (w0 rfl) rfl rfl rfl rfl rfl Z3 ?_
 refine ce (Z8 [] rfl rfl rfl (Zdm a.fields b.fields (sm6 ha.n2) (sm6 hb.n2)) List.nodup_nil) ?_
 refine cM2 ?_
 refine Zc (wT rfl rfl rfl rfl) rfl (fun hg => (Z0 rfl rfl rfl)) ?_
 refine Z0m 1 (wT rfl rfl rfl rfl) rfl rfl (fun hg => (Ze hg rfl)) rfl rfl Z3 ?_
 refine Zc (wT rfl rfl rfl rfl) rfl (fun hg => (Z0 rfl rfl rfl)) ?_
 refine Z0m 0 (wT rfl rfl rfl rfl) rfl rfl (fun hg => (Ze hg rfl)) rfl rfl Z3 ?_
 refine Zc (wT rfl rfl rfl rfl) rfl (fun hg => (Z8 [] rfl rfl (Zg (Ze hg rfl) (Zg (Ze hg rfl) Z05)) (Zdn a.methods b.methods (sm6 ha.n3) (sm6 hb.n3)) List.nodup_nil)) ?_
 refine ce (Zs rfl rfl rfl (fun h => h)) ?_
 refine cM2 ?_
 refine Z0m 1 (wT rfl rfl rfl rfl) rfl rfl (fun hg => rfl) rfl rfl (Zt (Nat.le_of_ble_eq_true rfl)) ?_
 refine Zc (wT rfl rfl rfl rfl) rfl (fun hg => (Z8 [] rfl rfl (Zg (Ze hg rfl) Z05) (Z54 a) List.nodup_nil)) ?_
 refine Z0m 0 (wT rfl rfl rfl rfl) rfl rfl (fun hg => rfl) rfl rfl (Zt (Nat.le_of_ble_eq_true rfl)) ?_
 refine Zc (wT rfl rfl rfl rfl) rfl (fun hg => (Z8 [] rfl rfl (Zg (Ze hg rfl) Z05) (Z54 b) List.nodup_nil)) ?_
 refine Zc (wT rfl rfl rfl rfl) rfl (fun hg => (Z8 [] rfl rfl (Zg (Ze hg rfl) (Zg (Ze hg rfl) (Zg rfl Z05))) (Zbc (textL a) (textL b) (by unfold small; exact (by decide : 5 ≤ 140737488351232)) (by unfold small; exact (by decide : 5 ≤ 140737488351232)) (Z36 ha) (Z36 hb)) List.nodup_nil)) ?_
 refine ce (Zs rfl rfl rfl (fun h => h)) ?_
 refine ce (Z0y rfl rfl) ?_
 refine .done (qN (qE ?_))
 exact Z0p rfl (Z7 rfl Z4) (gb (Zcw a b))
theorem Z5s (a b : Roots) (ha : a.ok) (hb : b.ok) : ACalls Tryz.prog 16 [a.av, b.av] [] (Gives (bA (withinR a b))) := by
 refine Zd (n := 40) Tryz.func16 rfl (by decide +kernel) rfl rfl ?_
 refine qS (qR ?_)
 refine Zy (w0 rfl) rfl (fun id => Z09 id rfl rfl rfl rfl rfl) (fun id1 => ?_)
 refine Zy (w0 rfl) rfl (fun id => Z09 id rfl rfl rfl rfl rfl) (fun id2 => ?_)
 refine qA (qN (qS ?_))
 refine Z0j 6 rfl (by kernel_rfl) ?_
 refine Za 1 (w0 rfl) rfl rfl rfl rfl rfl (Zt (Nat.le_of_ble_eq_true rfl)) ?_
 refine ce (Z8 [] rfl rfl rfl (Z54 a) List.nodup_nil) ?_
 refine Za 0 (w0 rfl) rfl rfl rfl rfl rfl (Zt (Nat.le_of_ble_eq_true rfl)) ?_
 refine ce (Z8 [] rfl rfl rfl (Z54 b) List.nodup_nil) ?_
 refine ce (Z0y rfl rfl) ?_
 refine ce (Z0y rfl rfl) ?_
 refine .done (qN (qS (qS (qR (qM ?_)))))
 refine qe (Zx rfl rfl rfl rfl) ?_
 refine qM (qN (qB ?_))
 refine Zj (α := Nat) (fun i => ⟨[(14, iA i), (13, iA 5), (5, textA a), (6, textA b), (2, .ptr id1 7 0 0), (3, .ptr id2 7 0 0)], [(id1, .rows 34 7 [a.cells]), (id2, .rows 34 7 [b.cells])], [], 40⟩) (fun i => i ≤ 5 ∧ ∀ k, k < i → ((textL a).getD k default).all (hasG ((textL b).getD k default)) = true) (fun i => 5 - i) 0 ⟨Nat.zero_le _, fun k h => by omega⟩ ?_ ?_
 ·exact Zb [1, 0] ⟨rfl, rfl, rfl, rfl, rfl, rfl, trivial⟩ rfl (by decide) rfl rfl
 rintro i hJ
 refine qS (qR ?_)
 refine qe eI ?_
 refine qN (qS ?_)
 refine Z2 rfl ?_ ?_
 ·intro hc
  have hi5 : i < 5 := by simp at hc; omega
  have hia : i < (textL a).length := hi5
  have hib : i < (textL b).length := hi5
  refine qK (qS (qB (qS (qR (qM (qA (qN (qS ?_))))))))
  refine Z0j 10 rfl (by kernel_rfl) ?_
  refine cM2 (cM2 ?_)
  refine ce (Z6 rfl rfl rfl (Z04 (fun _ => rfl)) (by first | omega | (simp only [List.length_map]; omega) | (simp only [List.length_map, List.length_drop]; omega)) (by first | omega | (simp only [List.length_map]; omega) | (simp only [List.length_map, List.length_drop]; omega))) ?_
  refine ce (Zu rfl rfl (Z0a (by first | assumption | omega | (simp only [List.length_drop]; omega))) Z3) ?_
  refine cM2 (cM2 ?_)
  refine ce (Z6 rfl rfl rfl (Z04 (fun _ => rfl)) (by first | omega | (simp only [List.length_map]; omega) | (simp only [List.length_map, List.length_drop]; omega)) (by first | omega | (simp only [List.length_map]; omega) | (simp only [List.length_map, List.length_drop]; omega))) ?_
  refine ce (Zu rfl rfl (Z0a (by first | assumption | omega | (simp only [List.length_drop]; omega))) Z3) ?_
  refine ce (Z8 [] rfl rfl rfl (Zh2 ((textL a)[i]'hia) ((textL b)[i]'hib) (Z36 ha _ (List.getElem_mem _)) (Z36 hb _ (List.getElem_mem _))) List.nodup_nil) ?_
  refine ce (Z03 rfl rfl) ?_
  refine .done (qN ?_)
  refine Z2 rfl ?_ ?_
  ·intro hc
   have hq : ((textL a).getD i default).all (hasG ((textL b).getD i default)) = false := by rw [← Z33 hia, ← Z33 hib]; exact Z1u hc
   refine qS (qR (qA (qN (qE ?_))))
   exact Z0p rfl (Z7 rfl Z4) (gb (Zd1 (Z7e hi5 hq)).symm)
  ·intro hc
   have hq : ((textL a).getD i default).all (hasG ((textL b).getD i default)) = true := by rw [← Z33 hia, ← Z33 hib]; exact Z2c hc
   refine qK (qR ?_)
   refine qe (Z9 rfl rfl rfl (Zn (by first | omega | (simp only [List.length_map]; omega)))) ?_
   refine qM (qN ?_)
   refine ⟨i + 1, ⟨hi5, fun k h => by rcases Nat.lt_succ_iff_lt_or_eq.1 h with h | h; exact hJ.2 k h; rw [h]; exact hq⟩, (by omega), ?_⟩
   exact qp [0, 1] ⟨rfl, rfl, rfl, rfl, rfl, rfl, trivial⟩
 ·intro hc
  have hi5 : ¬ i < 5 := by simp at hc; omega
  refine qX (qS (qR ?_))
  refine qe (Z0 rfl rfl rfl) ?_
  refine qL 0 Z3 ?_
  refine qe (Z0 rfl rfl rfl) ?_
  refine qL 1 Z3 ?_
  refine qe (Z8 [] rfl rfl rfl (Zh0 a.fields b.fields (sm6 ha.n2) (sm6 hb.n2)) List.nodup_nil) ?_
  refine qM ?_
  refine Zp (wT rfl rfl rfl rfl) rfl (fun hg => (Z0 rfl rfl rfl)) ?_
  refine Z00 0 (wT rfl rfl rfl rfl) rfl rfl (fun hg => (Ze hg rfl)) rfl rfl Z3 ?_
  refine Zp (wT rfl rfl rfl rfl) rfl (fun hg => (Z0 rfl rfl rfl)) ?_
  refine Z00 1 (wT rfl rfl rfl rfl) rfl rfl (fun hg => (Ze hg rfl)) rfl rfl Z3 ?_
  refine Zp (wT rfl rfl rfl rfl) rfl (fun hg => (Z8 [] rfl rfl (Zg (Ze hg rfl) (Zg (Ze hg rfl) Z05)) (Zh1 a.methods b.methods (sm6 ha.n3) (sm6 hb.n3)) List.nodup_nil)) ?_
  refine qe (Zs rfl rfl rfl (fun h => h)) ?_
  refine qA (qN (qE ?_))
  exact Z0p rfl (Z7 rfl Z4) (gb (by rw [← Z8c, show withT a b = true from Z5c fun k hk => hJ.2 k (by omega), Bool.true_and]))
theorem Z53 (l : List Str) (hl : small l.length) (s : Str) : ACalls Tryz.prog 38 [row1 sA l, sA s] [] (Gives (bA (hasG l s))) := by
 simp only [small] at hl
 refine Zd (n := 18) Tryz.func38 rfl (by decide +kernel) rfl rfl ?_
 refine qS (qR (qA (qN (qS (qS (qR (qA (qN (qB ?_)))))))))
 refine Zj (α := Nat) (fun i => ⟨[(5, iA i), (0, row1 sA l), (1, sA s)], [], [], 18⟩) (fun i => (l.drop i).any (fun x => eqG x s) = l.any (fun x => eqG x s)) (fun i => l.length - i) 0 rfl ?_ ?_
 ·exact Zb [] ⟨rfl, rfl, rfl, trivial⟩ rfl (by decide) rfl rfl
 rintro i hJ
 refine qS (qS (qR (qM (qM ?_))))
 refine qe (Zx rfl rfl rfl rfl) ?_
 refine qe eI ?_
 refine qN ?_
 refine Z2 rfl ?_ ?_
 ·intro hc
  have hi : i < l.length := by simpa using hc
  refine qK (qS (qB (qS (qR (qM (qM ?_))))))
  refine qe (Z6 rfl rfl rfl (Z04 (fun _ => rfl)) (by first | omega | (simp only [List.length_map]; omega) | (simp only [List.length_map, List.length_drop]; omega)) (by first | omega | (simp only [List.length_map]; omega) | (simp only [List.length_map, List.length_drop]; omega))) ?_
  refine qe (Zu rfl rfl (Z0a (by first | assumption | omega | (simp only [List.length_drop]; omega))) Z3) ?_
  refine qM ?_
  refine qe (Z0o rfl rfl rfl rfl) ?_
  refine qN ?_
  refine Z2 rfl ?_ ?_
  ·intro hc
   have hq : (fun x => eqG x s) l[i] = true := by show eqG l[i] s = true; rw [← Zd2]; exact hc
   refine qS (qR (qA (qN (qE ?_))))
   exact Z0p rfl (Z7 rfl Z4) (gb (Z30 hJ hi hq).symm)
  ·intro hc
   have hq : (fun x => eqG x s) l[i] = false := by show eqG l[i] s = false; rw [← Zd2]; exact hc
   refine qK (qR (qM ?_))
   refine qe (Z9 rfl rfl rfl (Zn (by first | omega | (simp only [List.length_map]; omega)))) ?_
   refine qA (qN ?_)
   refine ⟨i + 1, (Z3n hJ hi hq), (by omega), ?_⟩
   exact qp [] ⟨rfl, rfl, rfl, trivial⟩
 ·intro hc
  have hi : ¬ i < l.length := by simpa using hc
  refine qX (qS (qR (qA (qN (qE ?_)))))
  exact Z0p rfl (Z7 rfl Z4) (gb (Z4l hJ hi).symm)
theorem Zdt (l : List FRef) (hl : small l.length) (s : FRef) : ACalls Tryz.prog 47 [.lst (l.map FRef.cells), FRef.av s] [] (Gives (bA (hasG l s))) := by
 simp only [small] at hl
 refine Zd (n := 18) Tryz.func47 rfl (by decide +kernel) rfl rfl ?_
 refine qS (qR ?_)
 refine Zy (w0 rfl) rfl (fun id => Z09 id rfl rfl rfl rfl rfl) (fun id1 => ?_)
 refine qA (qN (qS (qS (qR (qA (qN (qB ?_)))))))
 refine Zj (α := Nat) (fun i => ⟨[(5, iA i), (0, .lst (l.map FRef.cells)), (3, .ptr id1 2 0 0)], [(id1, .rows 46 2 [s.cells])], [], 18⟩) (fun i => (l.drop i).any (fun x => eqG x s) = l.any (fun x => eqG x s)) (fun i => l.length - i) 0 rfl ?_ ?_
 ·exact Zb [0] ⟨rfl, rfl, rfl, trivial⟩ rfl (by decide) rfl rfl
 rintro i hJ
 refine qS (qS (qR (qM (qM ?_))))
 refine qe (Zx rfl rfl rfl rfl) ?_
 refine qe eI ?_
 refine qN ?_
 refine Z2 rfl ?_ ?_
 ·intro hc
  have hi : i < l.length := by simpa using hc
  refine qK (qS (qB (qS ?_)))
  refine Z0j 6 rfl (by kernel_rfl) ?_
  refine cM2 (cM2 ?_)
  refine ce (Z6 rfl rfl rfl (Z04 (fun _ => rfl)) (by first | omega | (simp only [List.length_map]; omega) | (simp only [List.length_map, List.length_drop]; omega)) (by first | omega | (simp only [List.length_map]; omega) | (simp only [List.length_map, List.length_drop]; omega))) ?_
  refine ce (Zu rfl rfl (Z0a (by first | assumption | omega | (simp only [List.length_drop]; omega))) (Zt (Nat.le_of_ble_eq_true rfl))) ?_
  refine Za 0 (w0 rfl) rfl rfl rfl rfl rfl (Zt (Nat.le_of_ble_eq_true rfl)) ?_
  refine ce (Z2v rfl rfl rfl rfl rfl) ?_
  refine .done (qN ?_)
  refine Z2 rfl ?_ ?_
  ·intro hc
   have hq : (fun x => eqG x s) l[i] = true := by show eqG l[i] s = true; rw [← Z9o]; exact hc
   refine qS (qR (qA (qN (qE ?_))))
   exact Z0p rfl (Z7 rfl Z4) (gb (Z30 hJ hi hq).symm)
  ·intro hc
   have hq : (fun x => eqG x s) l[i] = false := by show eqG l[i] s = false; rw [← Z9o]; exact hc
   refine qK (qR (qM ?_))
   refine qe (Z9 rfl rfl rfl (Zn (by first | omega | (simp only [List.length_map]; omega)))) ?_
   refine qA (qN ?_)
   refine ⟨i + 1, (Z3n hJ hi hq), (by omega), ?_⟩
   exact qp [0] ⟨rfl, rfl, rfl, trivial⟩
 ·intro hc
  have hi : ¬ i < l.length := by simpa using hc
  refine qX (qS (qR (qA (qN (qE ?_)))))
  exact Z0p rfl (Z7 rfl Z4) (gb (Z4l hJ hi).symm)
theorem Zdu (l : List MRef) (hl : small l.length) (s : MRef) : ACalls Tryz.prog 22 [.lst (l.map MRef.cells), MRef.av s] [] (Gives (bA (hasG l s))) := by
 simp only [small] at hl
 refine Zd (n := 18) Tryz.func22 rfl (by decide +kernel) rfl rfl ?_
 refine qS (qR ?_)
 refine Zy (w0 rfl) rfl (fun id => Z09 id rfl rfl rfl rfl rfl) (fun id1 => ?_)
 refine qA (qN (qS (qS (qR (qA (qN (qB ?_)))))))
 refine Zj (α := Nat) (fun i => ⟨[(5, iA i), (0, .lst (l.map MRef.cells)), (3, .ptr id1 3 0 0)], [(id1, .rows 25 3 [s.cells])], [], 18⟩) (fun i => (l.drop i).any (fun x => eqG x s) = l.any (fun x => eqG x s)) (fun i => l.length - i) 0 rfl ?_ ?_
 ·exact Zb [0] ⟨rfl, rfl, rfl, trivial⟩ rfl (by decide) rfl rfl
 rintro i hJ
 refine qS (qS (qR (qM (qM ?_))))
 refine qe (Zx rfl rfl rfl rfl) ?_
 refine qe eI ?_
 refine qN ?_
 refine Z2 rfl ?_ ?_
 ·intro hc
  have hi : i < l.length := by simpa using hc
  refine qK (qS (qB (qS ?_)))
  refine Z0j 6 rfl (by kernel_rfl) ?_
  refine cM2 (cM2 ?_)
  refine ce (Z6 rfl rfl rfl (Z04 (fun _ => rfl)) (by first | omega | (simp only [List.length_map]; omega) | (simp only [List.length_map, List.length_drop]; omega)) (by first | omega | (simp only [List.length_map]; omega) | (simp only [List.length_map, List.length_drop]; omega))) ?_
  refine ce (Zu rfl rfl (Z0a (by first | assumption | omega | (simp only [List.length_drop]; omega))) (Zt (Nat.le_of_ble_eq_true rfl))) ?_
  refine Za 0 (w0 rfl) rfl rfl rfl rfl rfl (Zt (Nat.le_of_ble_eq_true rfl)) ?_
  refine ce (Z2v rfl rfl rfl rfl rfl) ?_
  refine .done (qN ?_)
  refine Z2 rfl ?_ ?_
  ·intro hc
   have hq : (fun x => eqG x s) l[i] = true := by show eqG l[i] s = true; rw [← Z9p]; exact hc
   refine qS (qR (qA (qN (qE ?_))))
   exact Z0p rfl (Z7 rfl Z4) (gb (Z30 hJ hi hq).symm)
  ·intro hc
   have hq : (fun x => eqG x s) l[i] = false := by show eqG l[i] s = false; rw [← Z9p]; exact hc
   refine qK (qR (qM ?_))
   refine qe (Z9 rfl rfl rfl (Zn (by first | omega | (simp only [List.length_map]; omega)))) ?_
   refine qA (qN ?_)
   refine ⟨i + 1, (Z3n hJ hi hq), (by omega), ?_⟩
   exact qp [0] ⟨rfl, rfl, rfl, trivial⟩
 ·intro hc
  have hi : ¬ i < l.length := by simpa using hc
  refine qX (qS (qR (qA (qN (qE ?_)))))
  exact Z0p rfl (Z7 rfl Z4) (gb (Z4l hJ hi).symm)
theorem Z5g (a b : List Str) (hl : small a.length) (hb : small b.length) : ACalls Tryz.prog 48 [row1 sA a, row1 sA b] [] (Gives (bA (a.all (hasG b)))) := by
 simp only [small] at hl
 refine Zd (n := 19) Tryz.func48 rfl (by decide +kernel) rfl rfl ?_
 refine qS (qR (qA (qN (qS (qS (qR (qA (qN (qB ?_)))))))))
 refine Zj (α := Nat) (fun i => ⟨[(5, iA i), (0, row1 sA a), (1, row1 sA b)], [], [], 19⟩) (fun i => AllTo (hasG b) a i) (fun i => a.length - i) 0 (AllTo.zero _ _) ?_ ?_
 ·exact Zb [] ⟨rfl, rfl, rfl, trivial⟩ rfl (by decide) rfl rfl
 rintro i hJ
 refine qS (qS (qR (qM (qM ?_))))
 refine qe (Zx rfl rfl rfl rfl) ?_
 refine qe eI ?_
 refine qN ?_
 refine Z2 rfl ?_ ?_
 ·intro hc
  have hi : i < a.length := by simpa using hc
  refine qK (qS (qB (qS (qR (qM (qM (qM ?_)))))))
  refine qe (Z6 rfl rfl rfl (Z04 (fun _ => rfl)) (by first | omega | (simp only [List.length_map]; omega) | (simp only [List.length_map, List.length_drop]; omega)) (by first | omega | (simp only [List.length_map]; omega) | (simp only [List.length_map, List.length_drop]; omega))) ?_
  refine qe (Zu rfl rfl (Z0a (by first | assumption | omega | (simp only [List.length_drop]; omega))) Z3) ?_
  refine qe (Z8 [] rfl rfl rfl (Z53 b hb _) List.nodup_nil) ?_
  refine qe (Z03 rfl rfl) ?_
  refine qN ?_
  refine Z2 rfl ?_ ?_
  ·intro hc
   have hq : hasG b a[i] = false := Z1u hc
   refine qS (qR (qA (qN (qE ?_))))
   exact Z0p rfl (Z7 rfl Z4) (gb (Z6p hi hq).symm)
  ·intro hc
   have hq : hasG b a[i] = true := Z2c hc
   refine qK (qR (qM ?_))
   refine qe (Z9 rfl rfl rfl (Zn (by first | omega | (simp only [List.length_map]; omega)))) ?_
   refine qA (qN ?_)
   refine ⟨i + 1, (hJ.next hi hq), (by omega), ?_⟩
   exact qp [] ⟨rfl, rfl, rfl, trivial⟩
 ·intro hc
  have hi : ¬ i < a.length := by simpa using hc
  refine qX (qS (qR (qA (qN (qE ?_)))))
  exact Z0p rfl (Z7 rfl Z4) (gb (hJ.fin hi).symm)
theorem Zap (a b : Roots) (ha : a.ok) (hb : b.ok) : ACalls Tryz.prog 17 [a.av, b.av] [] (Gives (bA (withinR a b))) := by
 have n2 := ha.n2
 have n3 := ha.n3
 refine Zd (n := 72) Tryz.func17 rfl (by decide +kernel) rfl rfl ?_
 refine qS (qR ?_)
 refine Zy (w0 rfl) rfl (fun id => Z09 id rfl rfl rfl rfl rfl) (fun id1 => ?_)
 refine Zy (w0 rfl) rfl (fun id => Z09 id rfl rfl rfl rfl rfl) (fun id2 => ?_)
 refine qA (qN (qS (qS (qR (qA (qN (qB ?_)))))))
 refine Zj (α := Nat) (fun i => ⟨[(5, iA i), (2, .ptr id1 7 0 0), (3, .ptr id2 7 0 0)], [(id1, .rows 34 7 [a.cells]), (id2, .rows 34 7 [b.cells])], [], 72⟩) (fun i => AllTo (hasG b.fields) a.fields i) (fun i => a.fields.length - i) 0 (AllTo.zero _ _) ?_ ?_
 ·exact Zb [1, 0] ⟨rfl, rfl, rfl, trivial⟩ rfl (by decide) rfl rfl
 rintro i hJ
 refine qS (qS (qR (qM ?_)))
 refine qe (Z0 rfl rfl rfl) ?_
 refine qL 0 Z3 ?_
 refine qe (Zx rfl rfl rfl rfl) ?_
 refine qe eI ?_
 refine qN ?_
 refine Z2 rfl ?_ ?_
 ·intro hc
  have hi : i < a.fields.length := by simpa using hc
  refine qK (qS (qB (qS ?_)))
  refine Z0j 9 rfl (by kernel_rfl) ?_
  refine ce (Z0 rfl rfl rfl) ?_
  refine Za 1 (w0 rfl) rfl rfl rfl rfl rfl Z3 ?_
  refine ce (Z0 rfl rfl rfl) ?_
  refine Za 0 (w0 rfl) rfl rfl rfl rfl rfl Z3 ?_
  refine cM2 ?_
  refine ce (Z6 rfl rfl rfl (Z04 (fun _ => rfl)) (by first | omega | (simp only [List.length_map]; omega) | (simp only [List.length_map, List.length_drop]; omega)) (by first | omega | (simp only [List.length_map]; omega) | (simp only [List.length_map, List.length_drop]; omega))) ?_
  refine ce (Zu rfl rfl (Z0a (by first | assumption | omega | (simp only [List.length_drop]; omega))) (Zt (Nat.le_of_ble_eq_true rfl))) ?_
  refine ce (Z8 [] rfl rfl rfl (Zdt b.fields (sm6 hb.n2) _) List.nodup_nil) ?_
  refine ce (Z03 rfl rfl) ?_
  refine .done (qN ?_)
  refine Z2 rfl ?_ ?_
  ·intro hc
   have hq : hasG b.fields a.fields[i] = false := Z1u hc
   have t2 := Z6p hi hq
   refine qS (qR (qA (qN (qE ?_))))
   exact Z0p rfl (Z7 rfl Z4) (gb (by unfold withinR; rw [t2]; rfl))
  ·intro hc
   have hq : hasG b.fields a.fields[i] = true := Z2c hc
   refine qK (qR (qM ?_))
   refine qe (Z9 rfl rfl rfl (Zn (by first | omega | (simp only [List.length_map]; omega)))) ?_
   refine qA (qN ?_)
   refine ⟨i + 1, (hJ.next hi hq), (by omega), ?_⟩
   exact qp [0, 1] ⟨rfl, rfl, rfl, trivial⟩
 ·intro hc
  have hi : ¬ i < a.fields.length := by simpa using hc
  have t2 := hJ.fin hi
  refine qX (qS (qS (qR (qA (qN (qB ?_))))))
  refine Zj (α := Nat) (fun i => ⟨[(6, iA i), (2, .ptr id1 7 0 0), (3, .ptr id2 7 0 0)], [(id1, .rows 34 7 [a.cells]), (id2, .rows 34 7 [b.cells])], [], 72⟩) (fun i => AllTo (hasG b.methods) a.methods i) (fun i => a.methods.length - i) 0 (AllTo.zero _ _) ?_ ?_
  ·exact Zb [0, 1] ⟨rfl, rfl, rfl, trivial⟩ rfl (by decide) rfl rfl
  rintro i hJ2
  refine qS (qS (qR (qM ?_)))
  refine qe (Z0 rfl rfl rfl) ?_
  refine qL 0 Z3 ?_
  refine qe (Zx rfl rfl rfl rfl) ?_
  refine qe eI ?_
  refine qN ?_
  refine Z2 rfl ?_ ?_
  ·intro hc
   have hi : i < a.methods.length := by simpa using hc
   refine qK (qS (qB (qS ?_)))
   refine Z0j 9 rfl (by kernel_rfl) ?_
   refine ce (Z0 rfl rfl rfl) ?_
   refine Za 1 (w0 rfl) rfl rfl rfl rfl rfl Z3 ?_
   refine ce (Z0 rfl rfl rfl) ?_
   refine Za 0 (w0 rfl) rfl rfl rfl rfl rfl Z3 ?_
   refine cM2 ?_
   refine ce (Z6 rfl rfl rfl (Z04 (fun _ => rfl)) (by first | omega | (simp only [List.length_map]; omega) | (simp only [List.length_map, List.length_drop]; omega)) (by first | omega | (simp only [List.length_map]; omega) | (simp only [List.length_map, List.length_drop]; omega))) ?_
   refine ce (Zu rfl rfl (Z0a (by first | assumption | omega | (simp only [List.length_drop]; omega))) (Zt (Nat.le_of_ble_eq_true rfl))) ?_
   refine ce (Z8 [] rfl rfl rfl (Zdu b.methods (sm6 hb.n3) _) List.nodup_nil) ?_
   refine ce (Z03 rfl rfl) ?_
   refine .done (qN ?_)
   refine Z2 rfl ?_ ?_
   ·intro hc
    have hq : hasG b.methods a.methods[i] = false := Z1u hc
    have t3 := Z6p hi hq
    refine qS (qR (qA (qN (qE ?_))))
    exact Z0p rfl (Z7 rfl Z4) (gb (by unfold withinR; rw [t2, t3]; rfl))
   ·intro hc
    have hq : hasG b.methods a.methods[i] = true := Z2c hc
    refine qK (qR (qM ?_))
    refine qe (Z9 rfl rfl rfl (Zn (by first | omega | (simp only [List.length_map]; omega)))) ?_
    refine qA (qN ?_)
    refine ⟨i + 1, (hJ2.next hi hq), (by omega), ?_⟩
    exact qp [0, 1] ⟨rfl, rfl, rfl, trivial⟩
  ·intro hc
   have hi : ¬ i < a.methods.length := by simpa using hc
   have t3 := hJ2.fin hi
   refine qX (qS (qR ?_))
   refine qe (Z0 rfl rfl rfl) ?_
   refine qL 0 Z3 ?_
   refine qe (Z0 rfl rfl rfl) ?_
   refine qL 1 Z3 ?_
   refine qe (Z8 [] rfl rfl rfl (Z5g a.classes b.classes (sm6 ha.n1) (sm6 hb.n1)) List.nodup_nil) ?_
   refine qM ?_
   refine Zp (wT rfl rfl rfl rfl) rfl (fun hg => (Z0 rfl rfl rfl)) ?_
   refine Z00 0 (wT rfl rfl rfl rfl) rfl rfl (fun hg => (Ze hg rfl)) rfl rfl Z3 ?_
   refine Zp (wT rfl rfl rfl rfl) rfl (fun hg => (Z0 rfl rfl rfl)) ?_
   refine Z00 1 (wT rfl rfl rfl rfl) rfl rfl (fun hg => (Ze hg rfl)) rfl rfl Z3 ?_
   refine Zp (wT rfl rfl rfl rfl) rfl (fun hg => (Z8 [] rfl rfl (Zg (Ze hg rfl) (Zg (Ze hg rfl) Z05)) (Z5g a.classNames b.classNames (sm6 ha.n4) (sm6 hb.n4)) List.nodup_nil)) ?_
   refine qe (Zs rfl rfl rfl (fun h => h)) ?_
   refine qM ?_
   refine Zp (wT rfl rfl rfl rfl) rfl (fun hg => (Z0 rfl rfl rfl)) ?_
   refine Z00 0 (wT rfl rfl rfl rfl) rfl rfl (fun hg => (Ze hg rfl)) rfl rfl Z3 ?_
   refine Zp (wT rfl rfl rfl rfl) rfl (fun hg => (Z0 rfl rfl rfl)) ?_
   refine Z00 1 (wT rfl rfl rfl rfl) rfl rfl (fun hg => (Ze hg rfl)) rfl rfl Z3 ?_
   refine Zp (wT rfl rfl rfl rfl) rfl (fun hg => (Z8 [] rfl rfl (Zg (Ze hg rfl) (Zg (Ze hg rfl) Z05)) (Z5g a.fieldNames b.fieldNames (sm6 ha.n5) (sm6 hb.n5)) List.nodup_nil)) ?_
   refine qe (Zs rfl rfl rfl (fun h => h)) ?_
   refine qM ?_
   refine Zp (wT rfl rfl rfl rfl) rfl (fun hg => (Z0 rfl rfl rfl)) ?_
   refine Z00 0 (wT rfl rfl rfl rfl) rfl rfl (fun hg => (Ze hg rfl)) rfl rfl Z3 ?_
   refine Zp (wT rfl rfl rfl rfl) rfl (fun hg => (Z0 rfl rfl rfl)) ?_
   refine Z00 1 (wT rfl rfl rfl rfl) rfl rfl (fun hg => (Ze hg rfl)) rfl rfl Z3 ?_
   refine Zp (wT rfl rfl rfl rfl) rfl (fun hg => (Z8 [] rfl rfl (Zg (Ze hg rfl) (Zg (Ze hg rfl) Z05)) (Z5g a.methodNames b.methodNames (sm6 ha.n6) (sm6 hb.n6)) List.nodup_nil)) ?_
   refine qe (Zs rfl rfl rfl (fun h => h)) ?_
   refine qM ?_
   refine Zp (wT rfl rfl rfl rfl) rfl (fun hg => (Z0 rfl rfl rfl)) ?_
   refine Z00 0 (wT rfl rfl rfl rfl) rfl rfl (fun hg => (Ze hg rfl)) rfl rfl Z3 ?_
   refine Zp (wT rfl rfl rfl rfl) rfl (fun hg => (Z0 rfl rfl rfl)) ?_
   refine Z00 1 (wT rfl rfl rfl rfl) rfl rfl (fun hg => (Ze hg rfl)) rfl rfl Z3 ?_
   refine Zp (wT rfl rfl rfl rfl) rfl (fun hg => (Z8 [] rfl rfl (Zg (Ze hg rfl) (Zg (Ze hg rfl) Z05)) (Z5g a.lookups b.lookups (sm6 ha.n7) (sm6 hb.n7)) List.nodup_nil)) ?_
   refine qe (Zs rfl rfl rfl (fun h => h)) ?_
   refine qA (qN (qE ?_))
   exact Z0p rfl (Z7 rfl Z4) (gb (by unfold withinR; rw [t2, t3]; rfl))
theorem Z4n (a b : List Str) (ha : small a.length) : ACalls Tryz.prog 24 [row1 sA a, row1 sA b] [] (Gives (bA (sameT a b))) := by
 simp only [small] at ha
 refine Zd (n := 26) Tryz.func24 rfl (by decide +kernel) rfl rfl ?_
 refine qS (qR (qA (qN (qS (qS (qR (qM ?_)))))))
 refine qe (Zx rfl rfl rfl rfl) ?_
 refine qM ?_
 refine qe (Zx rfl rfl rfl rfl) ?_
 refine qe eI ?_
 refine qN ?_
 refine Z2 rfl ?_ ?_
 ·intro hc
  have hne : ¬ a.length = b.length := by simp at hc; omega
  refine qS (qR (qA (qN (qE ?_))))
  exact Z0p rfl (Z7 rfl Z4) (gb (by rw [Z2g]; symm; simp only [decide_eq_false_iff_not]; intro e; exact hne (by rw [e])))
 ·intro hc
  have hne : a.length = b.length := by simp at hc; omega
  refine qK (qS (qS (qR (qA (qN (qB ?_))))))
  refine Zj (α := Nat) (fun i => ⟨[(5, iA i), (0, row1 sA a), (1, row1 sA b)], [], [], 26⟩) (fun i => i ≤ a.length ∧ a.take i = b.take i) (fun i => a.length - i) 0 ⟨Nat.zero_le _, rfl⟩ ?_ ?_
  ·exact Zb [] ⟨rfl, rfl, rfl, trivial⟩ rfl (by decide) rfl rfl
  rintro i hJ
  refine qS (qS (qR (qM (qM ?_))))
  refine qe (Zx rfl rfl rfl rfl) ?_
  refine qe eI ?_
  refine qN ?_
  refine Z2 rfl ?_ ?_
  ·intro hc
   have hi : i < a.length := by simpa using hc
   refine qK (qS (qB (qS ?_)))
   refine Z0j 9 rfl (by kernel_rfl) ?_
   refine cM2 (cM2 ?_)
   refine ce (Z6 rfl rfl rfl (Z04 (fun _ => rfl)) (by first | omega | (simp only [List.length_map]; omega) | (simp only [List.length_map, List.length_drop]; omega)) (by first | omega | (simp only [List.length_map]; omega) | (simp only [List.length_map, List.length_drop]; omega))) ?_
   refine ce (Zu rfl rfl (Z0a (by first | assumption | omega | (simp only [List.length_drop]; omega))) Z3) ?_
   refine cM2 (cM2 ?_)
   refine ce (Z6 rfl rfl rfl (Z04 (fun _ => rfl)) (by first | omega | (simp only [List.length_map]; omega) | (simp only [List.length_map, List.length_drop]; omega)) (by first | omega | (simp only [List.length_map]; omega) | (simp only [List.length_map, List.length_drop]; omega))) ?_
   refine ce (Zu rfl rfl (Z0a (by first | assumption | omega | (simp only [List.length_drop]; omega))) Z3) ?_
   refine ce (Z0o rfl rfl rfl rfl) ?_
   refine .done (qN ?_)
   refine Z2 rfl ?_ ?_
   ·intro hc
    have hq : ¬ a[i] = b[i]'(by omega) := beqS_no.1 (Z1u hc)
    refine qS (qR (qA (qN (qE ?_))))
    exact Z0p rfl (Z7 rfl Z4) (gb (by rw [Z2g]; symm; simp only [decide_eq_false_iff_not]; intro e; exact hq (by simp only [e])))
   ·intro hc
    have hq : a[i] = b[i]'(by omega) := beqS_iff.1 (Z2c hc)
    refine qK (qR (qM ?_))
    refine qe (Z9 rfl rfl rfl (Zn (by first | omega | (simp only [List.length_map]; omega)))) ?_
    refine qA (qN ?_)
    refine ⟨i + 1, ⟨hi, Z6a hi (by omega) hJ.2 hq⟩, (by omega), ?_⟩
    exact qp [] ⟨rfl, rfl, rfl, trivial⟩
  ·intro hc
   have hi : ¬ i < a.length := by simpa using hc
   refine qX (qS (qR (qA (qN (qE ?_)))))
   exact Z0p rfl (Z7 rfl Z4) (gb (by rw [Z2g]; symm; simp only [decide_eq_true_eq]; exact Z69 hne hi hJ.2))
theorem Ze5 (a b : List Rule) (ha : small a.length) : ACalls Tryz.prog 11 [.lst (a.map Rule.cells), .lst (b.map Rule.cells)] [] (Gives (bA (decide (a = b)))) := by
 simp only [small] at ha
 refine Zd (n := 26) Tryz.func11 rfl (by decide +kernel) rfl rfl ?_
 refine qS (qR (qA (qN (qS (qS (qR (qM ?_)))))))
 refine qe (Zx rfl rfl rfl rfl) ?_
 refine qM ?_
 refine qe (Zx rfl rfl rfl rfl) ?_
 refine qe eI ?_
 refine qN ?_
 refine Z2 rfl ?_ ?_
 ·intro hc
  have hne : ¬ a.length = b.length := by simp at hc; omega
  refine qS (qR (qA (qN (qE ?_))))
  exact Z0p rfl (Z7 rfl Z4) (gb (by symm; simp only [decide_eq_false_iff_not]; intro e; exact hne (by rw [e])))
 ·intro hc
  have hne : a.length = b.length := by simp at hc; omega
  refine qK (qS (qS (qR (qA (qN (qB ?_))))))
  refine Zj (α := Nat) (fun i => ⟨[(5, iA i), (0, .lst (a.map Rule.cells)), (1, .lst (b.map Rule.cells))], [], [], 26⟩) (fun i => i ≤ a.length ∧ a.take i = b.take i) (fun i => a.length - i) 0 ⟨Nat.zero_le _, rfl⟩ ?_ ?_
  ·exact Zb [] ⟨rfl, rfl, rfl, trivial⟩ rfl (by decide) rfl rfl
  rintro i hJ
  refine qS (qS (qR (qM (qM ?_))))
  refine qe (Zx rfl rfl rfl rfl) ?_
  refine qe eI ?_
  refine qN ?_
  refine Z2 rfl ?_ ?_
  ·intro hc
   have hi : i < a.length := by simpa using hc
   refine qK (qS (qB (qS ?_)))
   refine Z0j 9 rfl (by kernel_rfl) ?_
   refine cM2 (cM2 ?_)
   refine ce (Z6 rfl rfl rfl (Z04 (fun _ => rfl)) (by first | omega | (simp only [List.length_map]; omega) | (simp only [List.length_map, List.length_drop]; omega)) (by first | omega | (simp only [List.length_map]; omega) | (simp only [List.length_map, List.length_drop]; omega))) ?_
   refine ce (Zu rfl rfl (Z0a (by first | assumption | omega | (simp only [List.length_drop]; omega))) (Zt (Nat.le_of_ble_eq_true rfl))) ?_
   refine cM2 (cM2 ?_)
   refine ce (Z6 rfl rfl rfl (Z04 (fun _ => rfl)) (by first | omega | (simp only [List.length_map]; omega) | (simp only [List.length_map, List.length_drop]; omega)) (by first | omega | (simp only [List.length_map]; omega) | (simp only [List.length_map, List.length_drop]; omega))) ?_
   refine ce (Zu rfl rfl (Z0a (by first | assumption | omega | (simp only [List.length_drop]; omega))) (Zt (Nat.le_of_ble_eq_true rfl))) ?_
   refine ce (Z43 rfl rfl rfl rfl rfl) ?_
   refine .done (qN ?_)
   refine Z2 rfl ?_ ?_
   ·intro hc
    have hq : ¬ a[i] = b[i]'(by omega) := of_decide_eq_false (by rw [← Z7p]; exact Z1u hc)
    refine qS (qR (qA (qN (qE ?_))))
    exact Z0p rfl (Z7 rfl Z4) (gb (by symm; simp only [decide_eq_false_iff_not]; intro e; exact hq (by simp only [e])))
   ·intro hc
    have hq : a[i] = b[i]'(by omega) := of_decide_eq_true (by rw [← Z7p]; exact Z2c hc)
    refine qK (qR (qM ?_))
    refine qe (Z9 rfl rfl rfl (Zn (by first | omega | (simp only [List.length_map]; omega)))) ?_
    refine qA (qN ?_)
    refine ⟨i + 1, ⟨hi, Z6a hi (by omega) hJ.2 hq⟩, (by omega), ?_⟩
    exact qp [] ⟨rfl, rfl, rfl, trivial⟩
  ·intro hc
   have hi : ¬ i < a.length := by simpa using hc
   refine qX (qS (qR (qA (qN (qE ?_)))))
   exact Z0p rfl (Z7 rfl Z4) (gb (by symm; simp only [decide_eq_true_eq]; exact Z69 hne hi hJ.2))
theorem Ze4 (a b : Roots) (ha : a.ok) (hb : b.ok) : ACalls Tryz.prog 15 [a.av, b.av] [] (Gives (bA (decide (a = b)))) := by
 have n2 := ha.n2
 have n3 := ha.n3
 refine Zd (n := 92) Tryz.func15 rfl (by decide +kernel) rfl rfl ?_
 refine qS (qR ?_)
 refine Zy (w0 rfl) rfl (fun id => Z09 id rfl rfl rfl rfl rfl) (fun id1 => ?_)
 refine Zy (w0 rfl) rfl (fun id => Z09 id rfl rfl rfl rfl rfl) (fun id2 => ?_)
 refine qA (qN (qS (qS (qR ?_))))
 refine qe (Z0 rfl rfl rfl) ?_
 refine qL 1 Z3 ?_
 refine qe (Zx rfl rfl rfl rfl) ?_
 refine qe (Z0 rfl rfl rfl) ?_
 refine qL 0 Z3 ?_
 refine qe (Zx rfl rfl rfl rfl) ?_
 refine qe eI ?_
 refine qM ?_
 refine Zp (wF rfl rfl rfl rfl) rfl (fun hg => (Z0 rfl rfl rfl)) ?_
 refine Z00 1 (wF rfl rfl rfl rfl) rfl rfl (fun hg => (Ze hg rfl)) rfl rfl Z3 ?_
 refine Zp (wF rfl rfl rfl rfl) rfl (fun hg => (Zx rfl (Ze hg rfl) rfl rfl)) ?_
 refine Zp (wF rfl rfl rfl rfl) rfl (fun hg => (Z0 rfl rfl rfl)) ?_
 refine Z00 0 (wF rfl rfl rfl rfl) rfl rfl (fun hg => (Ze hg rfl)) rfl rfl Z3 ?_
 refine Zp (wF rfl rfl rfl rfl) rfl (fun hg => (Zx rfl (Ze hg rfl) rfl rfl)) ?_
 refine Zp (wF rfl rfl rfl rfl) rfl (fun hg => (Zr rfl (Ze hg rfl) (Ze hg rfl) rfl)) ?_
 refine qe (Z1h rfl rfl rfl (fun h => by rw [h]; rfl)) ?_
 refine qN ?_
 refine Z2 rfl ?_ ?_
 ·intro hc
  have hln : ¬ (a.fields.length = b.fields.length ∧ a.methods.length = b.methods.length) := by rcases orT hc with h | h <;> simp at h <;> omega
  refine qS (qR (qA (qN (qE ?_))))
  exact Z0p rfl (Z7 rfl Z4) (gb (Zcs hln).symm)
 ·intro hc
  have hln : a.fields.length = b.fields.length ∧ a.methods.length = b.methods.length := by have h := orF hc; have h1 := h.1; have h2 := h.2; simp at h1 h2; omega
  refine qK (qS (qS (qR (qA (qN (qB ?_))))))
  refine Zj (α := Nat) (fun i => ⟨[(5, iA i), (2, .ptr id1 7 0 0), (3, .ptr id2 7 0 0)], [(id1, .rows 34 7 [a.cells]), (id2, .rows 34 7 [b.cells])], [], 92⟩) (fun i => i ≤ a.fields.length ∧ a.fields.take i = b.fields.take i) (fun i => a.fields.length - i) 0 ⟨Nat.zero_le _, rfl⟩ ?_ ?_
  ·exact Zb [1, 0] ⟨rfl, rfl, rfl, trivial⟩ rfl (by decide) rfl rfl
  rintro i hJ
  refine qS (qS (qR (qM ?_)))
  refine qe (Z0 rfl rfl rfl) ?_
  refine qL 0 Z3 ?_
  refine qe (Zx rfl rfl rfl rfl) ?_
  refine qe eI ?_
  refine qN ?_
  refine Z2 rfl ?_ ?_
  ·intro hc
   have hi : i < a.fields.length := by simpa using hc
   refine qK (qS (qB (qS ?_)))
   refine Z0j 11 rfl (by kernel_rfl) ?_
   refine ce (Z0 rfl rfl rfl) ?_
   refine Za 0 (w0 rfl) rfl rfl rfl rfl rfl Z3 ?_
   refine cM2 ?_
   refine ce (Z6 rfl rfl rfl (Z04 (fun _ => rfl)) (by first | omega | (simp only [List.length_map]; omega) | (simp only [List.length_map, List.length_drop]; omega)) (by first | omega | (simp only [List.length_map]; omega) | (simp only [List.length_map, List.length_drop]; omega))) ?_
   refine ce (Zu rfl rfl (Z0a (by first | assumption | omega | (simp only [List.length_drop]; omega))) (Zt (Nat.le_of_ble_eq_true rfl))) ?_
   refine ce (Z0 rfl rfl rfl) ?_
   refine Za 1 (w0 rfl) rfl rfl rfl rfl rfl Z3 ?_
   refine cM2 ?_
   refine ce (Z6 rfl rfl rfl (Z04 (fun _ => rfl)) (by first | omega | (simp only [List.length_map]; omega) | (simp only [List.length_map, List.length_drop]; omega)) (by first | omega | (simp only [List.length_map]; omega) | (simp only [List.length_map, List.length_drop]; omega))) ?_
   refine ce (Zu rfl rfl (Z0a (by first | assumption | omega | (simp only [List.length_drop]; omega))) (Zt (Nat.le_of_ble_eq_true rfl))) ?_
   refine ce (Z43 rfl rfl rfl rfl rfl) ?_
   refine .done (qN ?_)
   refine Z2 rfl ?_ ?_
   ·intro hc
    have hq : ¬ a.fields[i] = b.fields[i]'(by omega) := Z8x (by rw [← Z9o]; exact Z1u hc)
    refine qS (qR (qA (qN (qE ?_))))
    exact Z0p rfl (Z7 rfl Z4) (gb (Zct hi (by omega) hq).symm)
   ·intro hc
    have hq : a.fields[i] = b.fields[i]'(by omega) := eqG_iff.1 (by rw [← Z9o]; exact Z2c hc)
    refine qK (qR (qM ?_))
    refine qe (Z9 rfl rfl rfl (Zn (by first | omega | (simp only [List.length_map]; omega)))) ?_
    refine qA (qN ?_)
    refine ⟨i + 1, ⟨hi, Z6a hi (by omega) hJ.2 hq⟩, (by omega), ?_⟩
    exact qp [0, 1] ⟨rfl, rfl, rfl, trivial⟩
  ·intro hc
   have hi : ¬ i < a.fields.length := by simpa using hc
   have t4 := Z69 hln.1 hi hJ.2
   refine qX (qS (qS (qR (qA (qN (qB ?_))))))
   refine Zj (α := Nat) (fun i => ⟨[(6, iA i), (2, .ptr id1 7 0 0), (3, .ptr id2 7 0 0)], [(id1, .rows 34 7 [a.cells]), (id2, .rows 34 7 [b.cells])], [], 92⟩) (fun i => i ≤ a.methods.length ∧ a.methods.take i = b.methods.take i) (fun i => a.methods.length - i) 0 ⟨Nat.zero_le _, rfl⟩ ?_ ?_
   ·exact Zb [0, 1] ⟨rfl, rfl, rfl, trivial⟩ rfl (by decide) rfl rfl
   rintro i hJ2
   refine qS (qS (qR (qM ?_)))
   refine qe (Z0 rfl rfl rfl) ?_
   refine qL 0 Z3 ?_
   refine qe (Zx rfl rfl rfl rfl) ?_
   refine qe eI ?_
   refine qN ?_
   refine Z2 rfl ?_ ?_
   ·intro hc
    have hi : i < a.methods.length := by simpa using hc
    refine qK (qS (qB (qS ?_)))
    refine Z0j 11 rfl (by kernel_rfl) ?_
    refine ce (Z0 rfl rfl rfl) ?_
    refine Za 0 (w0 rfl) rfl rfl rfl rfl rfl Z3 ?_
    refine cM2 ?_
    refine ce (Z6 rfl rfl rfl (Z04 (fun _ => rfl)) (by first | omega | (simp only [List.length_map]; omega) | (simp only [List.length_map, List.length_drop]; omega)) (by first | omega | (simp only [List.length_map]; omega) | (simp only [List.length_map, List.length_drop]; omega))) ?_
    refine ce (Zu rfl rfl (Z0a (by first | assumption | omega | (simp only [List.length_drop]; omega))) (Zt (Nat.le_of_ble_eq_true rfl))) ?_
    refine ce (Z0 rfl rfl rfl) ?_
    refine Za 1 (w0 rfl) rfl rfl rfl rfl rfl Z3 ?_
    refine cM2 ?_
    refine ce (Z6 rfl rfl rfl (Z04 (fun _ => rfl)) (by first | omega | (simp only [List.length_map]; omega) | (simp only [List.length_map, List.length_drop]; omega)) (by first | omega | (simp only [List.length_map]; omega) | (simp only [List.length_map, List.length_drop]; omega))) ?_
    refine ce (Zu rfl rfl (Z0a (by first | assumption | omega | (simp only [List.length_drop]; omega))) (Zt (Nat.le_of_ble_eq_true rfl))) ?_
    refine ce (Z43 rfl rfl rfl rfl rfl) ?_
    refine .done (qN ?_)
    refine Z2 rfl ?_ ?_
    ·intro hc
     have hq : ¬ a.methods[i] = b.methods[i]'(by omega) := Z8x (by rw [← Z9p]; exact Z1u hc)
     refine qS (qR (qA (qN (qE ?_))))
     exact Z0p rfl (Z7 rfl Z4) (gb (Zcu hi (by omega) hq).symm)
    ·intro hc
     have hq : a.methods[i] = b.methods[i]'(by omega) := eqG_iff.1 (by rw [← Z9p]; exact Z2c hc)
     refine qK (qR (qM ?_))
     refine qe (Z9 rfl rfl rfl (Zn (by first | omega | (simp only [List.length_map]; omega)))) ?_
     refine qA (qN ?_)
     refine ⟨i + 1, ⟨hi, Z6a hi (by omega) hJ2.2 hq⟩, (by omega), ?_⟩
     exact qp [0, 1] ⟨rfl, rfl, rfl, trivial⟩
   ·intro hc
    have hi : ¬ i < a.methods.length := by simpa using hc
    have t9 := Z69 hln.2 hi hJ2.2
    refine qX (qS (qR ?_))
    refine qe (Z0 rfl rfl rfl) ?_
    refine qL 0 Z3 ?_
    refine qe (Z0 rfl rfl rfl) ?_
    refine qL 1 Z3 ?_
    refine qe (Z8 [] rfl rfl rfl (Z4n a.classes b.classes (sm6 ha.n1)) List.nodup_nil) ?_
    refine qM ?_
    refine Zp (wT rfl rfl rfl rfl) rfl (fun hg => (Z0 rfl rfl rfl)) ?_
    refine Z00 0 (wT rfl rfl rfl rfl) rfl rfl (fun hg => (Ze hg rfl)) rfl rfl Z3 ?_
    refine Zp (wT rfl rfl rfl rfl) rfl (fun hg => (Z0 rfl rfl rfl)) ?_
    refine Z00 1 (wT rfl rfl rfl rfl) rfl rfl (fun hg => (Ze hg rfl)) rfl rfl Z3 ?_
    refine Zp (wT rfl rfl rfl rfl) rfl (fun hg => (Z8 [] rfl rfl (Zg (Ze hg rfl) (Zg (Ze hg rfl) Z05)) (Z4n a.classNames b.classNames (sm6 ha.n4)) List.nodup_nil)) ?_
    refine qe (Zs rfl rfl rfl (fun h => h)) ?_
    refine qM ?_
    refine Zp (wT rfl rfl rfl rfl) rfl (fun hg => (Z0 rfl rfl rfl)) ?_
    refine Z00 0 (wT rfl rfl rfl rfl) rfl rfl (fun hg => (Ze hg rfl)) rfl rfl Z3 ?_
    refine Zp (wT rfl rfl rfl rfl) rfl (fun hg => (Z0 rfl rfl rfl)) ?_
    refine Z00 1 (wT rfl rfl rfl rfl) rfl rfl (fun hg => (Ze hg rfl)) rfl rfl Z3 ?_
    refine Zp (wT rfl rfl rfl rfl) rfl (fun hg => (Z8 [] rfl rfl (Zg (Ze hg rfl) (Zg (Ze hg rfl) Z05)) (Z4n a.fieldNames b.fieldNames (sm6 ha.n5)) List.nodup_nil)) ?_
    refine qe (Zs rfl rfl rfl (fun h => h)) ?_
    refine qM ?_
    refine Zp (wT rfl rfl rfl rfl) rfl (fun hg => (Z0 rfl rfl rfl)) ?_
    refine Z00 0 (wT rfl rfl rfl rfl) rfl rfl (fun hg => (Ze hg rfl)) rfl rfl Z3 ?_
    refine Zp (wT rfl rfl rfl rfl) rfl (fun hg => (Z0 rfl rfl rfl)) ?_
    refine Z00 1 (wT rfl rfl rfl rfl) rfl rfl (fun hg => (Ze hg rfl)) rfl rfl Z3 ?_
    refine Zp (wT rfl rfl rfl rfl) rfl (fun hg => (Z8 [] rfl rfl (Zg (Ze hg rfl) (Zg (Ze hg rfl) Z05)) (Z4n a.methodNames b.methodNames (sm6 ha.n6)) List.nodup_nil)) ?_
    refine qe (Zs rfl rfl rfl (fun h => h)) ?_
    refine qM ?_
    refine Zp (wT rfl rfl rfl rfl) rfl (fun hg => (Z0 rfl rfl rfl)) ?_
    refine Z00 0 (wT rfl rfl rfl rfl) rfl rfl (fun hg => (Ze hg rfl)) rfl rfl Z3 ?_
    refine Zp (wT rfl rfl rfl rfl) rfl (fun hg => (Z0 rfl rfl rfl)) ?_
    refine Z00 1 (wT rfl rfl rfl rfl) rfl rfl (fun hg => (Ze hg rfl)) rfl rfl Z3 ?_
    refine Zp (wT rfl rfl rfl rfl) rfl (fun hg => (Z8 [] rfl rfl (Zg (Ze hg rfl) (Zg (Ze hg rfl) Z05)) (Z4n a.lookups b.lookups (sm6 ha.n7)) List.nodup_nil)) ?_
    refine qe (Zs rfl rfl rfl (fun h => h)) ?_
    refine qA (qN (qE ?_))
    exact Z0p rfl (Z7 rfl Z4) (gb (Zax t4 t9))
end Go.Sx
namespace Go.Sx
open Go
section
variable {txt : Ty → Str} {p : Prog} {l : List Rule}
end
def smB (n : Nat) : Bool := decide (n ≤ 140737488351232)
def i64B (n : Int) : Bool := decide (-9223372036854775808 ≤ n) && decide (n ≤ 9223372036854775807)
theorem Z1i {n : Nat} (h : smB n = true) : small n := by unfold smB at h; unfold small; exact of_decide_eq_true h
theorem Z3h {n : Int} (h : i64B n = true) : i64 n := by unfold i64B at h; simp only [Bool.and_eq_true, decide_eq_true_eq] at h; exact h
def Instr.okB (i : Instr) : Bool := ((i64B i.op && i64B i.a && i64B i.b && i64B i.c && i64B i.k) && (smB i.cls.size && smB i.name.size && smB i.desc.size)) && (smB i.args.length && i.args.all i64B)
theorem Instr.okB_ok {i : Instr} (h : i.okB = true) : i.ok := by
 unfold Instr.okB at h
 simp only [Bool.and_eq_true, List.all_eq_true] at h
 obtain ⟨⟨⟨⟨⟨⟨h1, h2⟩, h3⟩, h4⟩, h5⟩, ⟨h6, h7⟩, h8⟩, h9, h10⟩ := h
 exact ⟨Z3h h1, Z3h h2, Z3h h3, Z3h h4, Z3h h5, Z1i h6, Z1i h7, Z1i h8, Z1i h9, fun x hx => Z3h (h10 x hx)⟩
def Meth.okB (m : Meth) : Bool := (smB m.name.size && smB m.desc.size && i64B m.regs) && (smB m.code.length && m.code.all Instr.okB)
theorem Meth.okB_ok {m : Meth} (h : m.okB = true) : m.ok := by
 unfold Meth.okB at h
 simp only [Bool.and_eq_true, List.all_eq_true] at h
 obtain ⟨⟨⟨h1, h2⟩, h3⟩, h4, h5⟩ := h
 exact ⟨Z1i h1, Z1i h2, Z3h h3, Z1i h4, fun x hx => Instr.okB_ok (h5 x hx)⟩
def Fld.okB (f : Fld) : Bool := smB f.name.size && (i64B f.type.kind && smB f.type.cls.size)
theorem Fld.okB_ok {f : Fld} (h : f.okB = true) : f.ok := by
 unfold Fld.okB at h
 simp only [Bool.and_eq_true] at h
 exact ⟨Z1i h.1, Z3h h.2.1, Z1i h.2.2⟩
def Cls.okB (c : Cls) : Bool := ((smB c.name.size && smB c.super.size) && (smB c.ifaces.length && c.ifaces.all fun s => smB s.size)) && ((smB c.fields.length && c.fields.all Fld.okB) && (smB c.methods.length && c.methods.all Meth.okB))
theorem Cls.okB_ok {c : Cls} (h : c.okB = true) : c.ok := by
 unfold Cls.okB at h
 simp only [Bool.and_eq_true, List.all_eq_true] at h
 obtain ⟨⟨⟨h1, h2⟩, h3, h4⟩, ⟨h5, h6⟩, h7, h8⟩ := h
 exact ⟨Z1i h1, Z1i h2, ⟨Z1i h3, fun x hx => Z1i (h4 x hx)⟩, ⟨Z1i h5, fun x hx => Fld.okB_ok (h6 x hx)⟩, ⟨Z1i h7, fun x hx => Meth.okB_ok (h8 x hx)⟩⟩
def Prog.okB (p : Prog) : Bool := ((smB p.classes.length && p.classes.all Cls.okB) && (smB p.names.length && p.names.all fun s => smB s.size)) && (smB p.entry.cls.size && smB p.entry.name.size && smB p.entry.desc.size)
theorem Prog.okB_ok {p : Prog} (h : p.okB = true) : p.ok := by
 unfold Prog.okB at h
 simp only [Bool.and_eq_true, List.all_eq_true] at h
 obtain ⟨⟨⟨h1, h2⟩, h3, h4⟩, ⟨h5, h6⟩, h7⟩ := h
 exact ⟨⟨Z1i h1, fun x hx => Cls.okB_ok (h2 x hx)⟩, ⟨Z1i h3, fun x hx => Z1i (h4 x hx)⟩, ⟨Z1i h5, Z1i h6, Z1i h7⟩⟩
def someI : Instr := ⟨23, 0, 0, 0, 0, zS, zS, zS, []⟩
def nM1 : Str := ⟨#[109]⟩
def someM : Meth := ⟨nM1, nVoid, false, false, 1, [someI]⟩
def someMI : Meth := ⟨nM1, nVoid, false, true, 0, []⟩
def someA : Cls := ⟨nA, zS, false, false, [nI], [], [someM]⟩
def someB' : Cls := ⟨nB, nA, false, false, [], [], [someM]⟩
def someC : Cls := ⟨nI, zS, true, true, [], [], [someMI]⟩
def someP : Prog := ⟨[someA, someB', someC], [], ⟨zS, zS, zS⟩⟩
theorem Z7b : someP.ok := Prog.okB_ok (by decide +kernel)
def ruA : Rule := ⟨false, false, nA, zS, zS⟩
def ruB : Rule := ⟨true, true, nB, nM1, nVoid⟩
def ruBf : Rule := ⟨false, false, nB, zS, zS⟩
def ro2 : Roots := ⟨[nA, nB], [], [⟨nB, nM1, nVoid⟩], [], [], [nM1 ++ nVoid], [nA, nB]⟩
def ro1 : Roots := ⟨[nA], [], [], [], [], [], [nA]⟩
theorem Zgw : rootsG (gaP textT someP [ruA, ruB]) = ro2 := by decide +kernel
theorem Zgv : rootsG (gaP textT someP [ruA]) = ro1 := by decide +kernel
theorem Zgx {r : Roots} (h1 : r.classes.length ≤ 1000000 ∧ r.fields.length ≤ 1000000 ∧ r.methods.length ≤ 1000000 ∧ r.classNames.length ≤ 1000000 ∧ r.fieldNames.length ≤ 1000000 ∧ r.methodNames.length ≤ 1000000 ∧ r.lookups.length ≤ 1000000) (h : (r.methods.all fun m => smB m.cls.size && smB m.name.size && smB m.desc.size) = true) : r.ok :=
 ⟨h1.1, h1.2.1, h1.2.2.1, h1.2.2.2.1, h1.2.2.2.2.1, h1.2.2.2.2.2.1, h1.2.2.2.2.2.2, fun m hm => by
  have := List.all_eq_true.1 h m hm
  simp only [Bool.and_eq_true] at this
  exact ⟨Z1i this.1.1, Z1i this.1.2, Z1i this.2⟩⟩
theorem Z86 : ro2.ok := Zgx (by decide) (by decide +kernel)
theorem Zf7 : ro1.ok := Zgx (by decide) (by decide +kernel)
def ex2 : List Rule := [ruA, ruBf, ruB]
theorem Zgo : exactR someP ro2 = ex2 := by decide +kernel
end Go.Sx
namespace Go.Sx
open Go Go.Proofs
theorem Ze6  : ACalls Tryz.prog 23 [] [] (Gives someP.av) := by
 refine Zd (n := 17) Tryz.func23 rfl (by decide +kernel) rfl rfl ?_
 refine qS (qR ?_)
 refine Zy (w0 rfl) rfl (fun id => Z0b id rfl rfl rfl) (fun id1 => ?_)
 refine qN (qS (qR ?_))
 refine qe (Z2k (y := .agg someI.cells) (Z0k rfl rfl rfl) (.agg (by repeat' (first | exact .nil | refine .keep ?_ | refine .z ?_)))) ?_
 refine qe (Z22 (es := ([someI] : List Instr).map Instr.cells) (fun id => Zo id (ps := [(0, .tmp 2)]) rfl rfl rfl rfl rfl rfl rfl rfl) rfl) ?_
 refine qe (Z2k (y := .agg someM.cells) (Z0k rfl rfl rfl) (.agg (by repeat' (first | exact .nil | refine .keep ?_ | refine .z ?_)))) ?_
 refine Zy (w0 rfl) rfl (fun id => Z0b id rfl rfl rfl) (fun id2 => ?_)
 refine Zw 0 (w0 rfl) rfl rfl rfl rfl rfl rfl rfl rfl rfl ?_
 refine qN (qS (qR ?_))
 refine qe (Z22 (es := ([nI] : List Str).map fun x => [sA x]) (fun id => Zo id (ps := [(0, .const (Value.string ⟨#[73]⟩))]) rfl rfl rfl rfl rfl rfl rfl rfl) rfl) ?_
 refine qL 0 (Zt (Nat.le_of_ble_eq_true rfl)) ?_
 refine qe (Z22 (es := ([someM] : List Meth).map Meth.cells) (fun id => Zo id (ps := [(0, .tmp 6)]) rfl rfl rfl rfl rfl rfl rfl rfl) rfl) ?_
 refine qe (Z2k (y := someA.av) (Z0k rfl rfl rfl) (.agg (by repeat' (first | exact .nil | refine .keep ?_ | refine .z ?_)))) ?_
 refine qL 0 (Zt (Nat.le_of_ble_eq_true rfl)) ?_
 refine qe (Z22 (es := ([someM] : List Meth).map Meth.cells) (fun id => Zo id (ps := [(0, .tmp 9)]) rfl rfl rfl rfl rfl rfl rfl rfl) rfl) ?_
 refine qe (Z2k (y := someB'.av) (Z0k rfl rfl rfl) (.agg (by repeat' (first | exact .nil | refine .keep ?_ | refine .z ?_)))) ?_
 refine qe (Z2k (y := .agg someMI.cells) (Z0k rfl rfl rfl) (.agg (by repeat' (first | exact .nil | refine .keep ?_ | refine .z ?_)))) ?_
 refine qe (Z22 (es := ([someMI] : List Meth).map Meth.cells) (fun id => Zo id (ps := [(0, .tmp 12)]) rfl rfl rfl rfl rfl rfl rfl rfl) rfl) ?_
 refine qe (Z2k (y := someC.av) (Z0k rfl rfl rfl) (.agg (by repeat' (first | exact .nil | refine .keep ?_ | refine .z ?_)))) ?_
 refine qe (Z22 (es := ([someA, someB', someC] : List Cls).map Cls.cells) (fun id => Zo id (ps := [(0, .tmp 8), (1, .tmp 11), (2, .tmp 14)]) rfl rfl rfl rfl rfl rfl rfl rfl) rfl) ?_
 refine qe (Z2k (y := someP.av) (Z0k rfl rfl rfl) (.agg (by repeat' (first | exact .nil | refine .keep ?_ | refine .z ?_)))) ?_
 refine Zw 1 (w0 rfl) rfl rfl rfl rfl rfl rfl rfl rfl rfl ?_
 refine qN (qE ?_)
 exact Z0p rfl (Z1b 1 rfl rfl rfl (Zt (Nat.le_of_ble_eq_true rfl)) Z4) (gvr rfl)
theorem Z6h (p : Prog) (hp : p.ok) (hgr : greatP p = false) (l : List Rule) (hl : small l.length) (hr : ∀ r, r ∈ l → r.ok) {r : Roots} (h : rootsG (gaP textT p l) = r) : ACalls Tryz.prog 18 [p.av, .lst (l.map Rule.cells)] [] (Gives r.av) := h ▸ Zbp p hp hgr l hl hr
theorem Zdq (p : Prog) (hp : p.ok) (r : Roots) (hr : r.ok) {l : List Rule} (h : exactR p r = l) : ACalls Tryz.prog 12 [p.av, r.av] [] (Gives (.lst (l.map Rule.cells))) := h ▸ Z7j p hp r hr
theorem Z7o (a b : Roots) (ha : a.ok) (hb : b.ok) {r : Bool} (h : withinR a b = r) : ACalls Tryz.prog 16 [a.av, b.av] [] (Gives (bA r)) := h ▸ Z5s a b ha hb
theorem Zbr (a b : Roots) (ha : a.ok) (hb : b.ok) {r : Bool} (h : decide (a = b) = r) : ACalls Tryz.prog 14 [a.av, b.av] [] (Gives (bA r)) := h ▸ Z9l a b ha hb
theorem Z6w (a b : List Str) (ha : small a.length) {r : Bool} (h : sameT a b = r) : ACalls Tryz.prog 24 [row1 sA a, row1 sA b] [] (Gives (bA r)) := h ▸ Z4n a b ha
theorem Zf8 : ∀ r, r ∈ [ruA, ruB] → r.ok := by
 intro r hr
 simp only [List.mem_cons, List.not_mem_nil, or_false] at hr
 rcases hr with rfl | rfl
 ·exact ⟨Z1i (by decide +kernel), Z1i (by decide +kernel), Z1i (by decide +kernel)⟩
 ·exact ⟨Z1i (by decide +kernel), Z1i (by decide +kernel), Z1i (by decide +kernel)⟩
theorem Z64 : greatP someP = false := by decide +kernel
theorem Z9g  : ACalls Tryz.prog 8 [] [] (Gives (bA true)) := by
 refine Zd (n := 73) Tryz.func8 rfl (by decide +kernel) rfl rfl ?_
 refine qS (qR (qA (qN (qS (qR ?_)))))
 refine qe (Z8 [] rfl rfl rfl Ze6 List.nodup_nil) ?_
 refine Zy (w0 rfl) rfl (fun id => Z0b id rfl rfl rfl) (fun id1 => ?_)
 refine Zw 0 (w0 rfl) rfl rfl rfl rfl rfl rfl rfl rfl rfl ?_
 refine qN (qS (qR ?_))
 refine qL 0 (Zt (Nat.le_of_ble_eq_true rfl)) ?_
 refine qe (Zv (y := ruA.av) (Z0k rfl rfl rfl) (rfl)) ?_
 refine qe (Zv (y := ruB.av) (Z0k rfl rfl rfl) (rfl)) ?_
 refine qe (Z22 (es := ([ruA, ruB] : List Rule).map Rule.cells) (fun id => Zo id (ps := [(0, .tmp 6), (1, .tmp 7)]) rfl rfl rfl rfl rfl rfl rfl rfl) rfl) ?_
 refine qe (Z8 [] rfl rfl rfl (Z6h someP Z7b Z64 [ruA, ruB] (by unfold small; decide) Zf8 (r := ro2) Zgw) List.nodup_nil) ?_
 refine Zy (w0 rfl) rfl (fun id => Z0b id rfl rfl rfl) (fun id2 => ?_)
 refine Zw 0 (w0 rfl) rfl rfl rfl rfl rfl rfl rfl rfl rfl ?_
 refine qN (qS (qR ?_))
 refine qL 1 (Zt (Nat.le_of_ble_eq_true rfl)) ?_
 refine qe (Zv (y := ruA.av) (Z0k rfl rfl rfl) (rfl)) ?_
 refine qe (Z22 (es := ([ruA] : List Rule).map Rule.cells) (fun id => Zo id (ps := [(0, .tmp 11)]) rfl rfl rfl rfl rfl rfl rfl rfl) rfl) ?_
 refine qe (Z8 [] rfl rfl rfl (Z6h someP Z7b Z64 [ruA] (by unfold small; decide) (fun r hr => Zf8 r (by rw [List.mem_singleton.1 hr]; exact List.mem_cons_self)) (r := ro1) Zgv) List.nodup_nil) ?_
 refine Zy (w0 rfl) rfl (fun id => Z0b id rfl rfl rfl) (fun id3 => ?_)
 refine Zw 0 (w0 rfl) rfl rfl rfl rfl rfl rfl rfl rfl rfl ?_
 refine qN (qS (qR ?_))
 refine qe (Z0 rfl rfl rfl) ?_
 refine qL 1 Z3 ?_
 refine qe (Z22 (es := ([nA, nB] : List Str).map fun x => [sA x]) (fun id => Zo id (ps := [(0, .const (Value.string ⟨#[65]⟩)), (1, .const (Value.string ⟨#[66]⟩))]) rfl rfl rfl rfl rfl rfl rfl rfl) rfl) ?_
 refine qe (Z8 [] rfl rfl rfl (Z6w [nA, nB] [nA, nB] (by unfold small; decide) (r := true) (by decide +kernel)) List.nodup_nil) ?_
 refine qM ?_
 refine Z1j (wT (d := true) rfl rfl rfl rfl) rfl (Z0 rfl rfl rfl) ?_
 refine Z0e 1 (wT (d := true) rfl rfl rfl rfl) rfl rfl rfl rfl rfl Z3 ?_
 refine Z1j (wT (d := true) rfl rfl rfl rfl) rfl (Zx rfl rfl rfl rfl) ?_
 refine Z1j (wT (d := true) rfl rfl rfl rfl) rfl (Zv (y := bA true) (eI) (congrArg bA (by decide +kernel))) ?_
 refine qe (Zv (y := bA true) (Z1x (t := true) rfl rfl rfl rfl) rfl) ?_
 refine qM ?_
 refine Z1j (wT (d := true) rfl rfl rfl rfl) rfl (Z0 rfl rfl rfl) ?_
 refine Z0e 1 (wT (d := true) rfl rfl rfl rfl) rfl rfl rfl rfl rfl Z3 ?_
 refine Z1j (wT (d := true) rfl rfl rfl rfl) rfl (Z6 rfl rfl rfl (Z04 (fun _ => rfl)) (by decide) (by decide)) ?_
 refine Z1j (wT (d := true) rfl rfl rfl rfl) rfl (Z0 rfl rfl rfl) ?_
 refine Z1j (wT (d := true) rfl rfl rfl rfl) rfl (Zu rfl rfl (Z0a (by decide)) Z3) ?_
 refine Z1j (wT (d := true) rfl rfl rfl rfl) rfl (Zv (y := bA true) (Z0o rfl rfl rfl rfl) (congrArg bA (by decide +kernel))) ?_
 refine qe (Zv (y := bA true) (Z1x (t := true) rfl rfl rfl rfl) rfl) ?_
 refine qM ?_
 refine Z1j (wT (d := true) rfl rfl rfl rfl) rfl (Z0 rfl rfl rfl) ?_
 refine Z0e 1 (wT (d := true) rfl rfl rfl rfl) rfl rfl rfl rfl rfl Z3 ?_
 refine Z1j (wT (d := true) rfl rfl rfl rfl) rfl (Z22 (es := ([nM1 ++ nVoid] : List Str).map fun x => [sA x]) (fun id => Zo id (ps := [(0, .const (Value.string ⟨#[109, 40, 41, 86]⟩))]) rfl rfl rfl rfl rfl rfl rfl rfl) rfl) ?_
 refine Z1j (wT (d := true) rfl rfl rfl rfl) rfl (Z8 [] rfl rfl rfl (Z6w [nM1 ++ nVoid] [nM1 ++ nVoid] (by unfold small; decide) (r := true) (by decide +kernel)) List.nodup_nil) ?_
 refine qe (Zv (y := bA true) (Z1x (t := true) rfl rfl rfl rfl) rfl) ?_
 refine qM ?_
 refine Z1j (wT (d := true) rfl rfl rfl rfl) rfl (Z0 rfl rfl rfl) ?_
 refine Z0e 1 (wT (d := true) rfl rfl rfl rfl) rfl rfl rfl rfl rfl Z3 ?_
 refine Z1j (wT (d := true) rfl rfl rfl rfl) rfl (Zx rfl rfl rfl rfl) ?_
 refine Z1j (wT (d := true) rfl rfl rfl rfl) rfl (Zv (y := bA true) (eI) (congrArg bA (by decide +kernel))) ?_
 refine qe (Zv (y := bA true) (Z1x (t := true) rfl rfl rfl rfl) rfl) ?_
 refine qM ?_
 refine Z1j (wT (d := true) rfl rfl rfl rfl) rfl (Z0 rfl rfl rfl) ?_
 refine Z0e 1 (wT (d := true) rfl rfl rfl rfl) rfl rfl rfl rfl rfl Z3 ?_
 refine Z1j (wT (d := true) rfl rfl rfl rfl) rfl (Z22 (es := ([nA, nB] : List Str).map fun x => [sA x]) (fun id => Zo id (ps := [(0, .const (Value.string ⟨#[65]⟩)), (1, .const (Value.string ⟨#[66]⟩))]) rfl rfl rfl rfl rfl rfl rfl rfl) rfl) ?_
 refine Z1j (wT (d := true) rfl rfl rfl rfl) rfl (Z8 [] rfl rfl rfl (Z6w [nA, nB] [nA, nB] (by unfold small; decide) (r := true) (by decide +kernel)) List.nodup_nil) ?_
 refine qe (Zv (y := bA true) (Z1x (t := true) rfl rfl rfl rfl) rfl) ?_
 refine qM ?_
 refine Z0e 0 (wT (d := true) rfl rfl rfl rfl) rfl rfl rfl rfl rfl (Zt (Nat.le_of_ble_eq_true rfl)) ?_
 refine Z0e 1 (wT (d := true) rfl rfl rfl rfl) rfl rfl rfl rfl rfl (Zt (Nat.le_of_ble_eq_true rfl)) ?_
 refine Z1j (wT (d := true) rfl rfl rfl rfl) rfl (Z8 [] rfl rfl rfl (Z7o ro1 ro2 Zf7 Z86 (r := true) (by decide +kernel)) List.nodup_nil) ?_
 refine qe (Zv (y := bA true) (Z1x (t := true) rfl rfl rfl rfl) rfl) ?_
 refine qM ?_
 refine Z0e 1 (wT (d := true) rfl rfl rfl rfl) rfl rfl rfl rfl rfl (Zt (Nat.le_of_ble_eq_true rfl)) ?_
 refine Z0e 0 (wT (d := true) rfl rfl rfl rfl) rfl rfl rfl rfl rfl (Zt (Nat.le_of_ble_eq_true rfl)) ?_
 refine Z1j (wT (d := true) rfl rfl rfl rfl) rfl (Z8 [] rfl rfl rfl (Z7o ro2 ro1 Z86 Zf7 (r := false) (by decide +kernel)) List.nodup_nil) ?_
 refine Z1j (wT (d := true) rfl rfl rfl rfl) rfl (Zv (y := bA true) (Z03 rfl rfl) (congrArg bA (by decide +kernel))) ?_
 refine qe (Zv (y := bA true) (Z1x (t := true) rfl rfl rfl rfl) rfl) ?_
 refine qM ?_
 refine Z0e 1 (wT (d := true) rfl rfl rfl rfl) rfl rfl rfl rfl rfl (Zt (Nat.le_of_ble_eq_true rfl)) ?_
 refine Z0e 1 (wT (d := true) rfl rfl rfl rfl) rfl rfl rfl rfl rfl (Zt (Nat.le_of_ble_eq_true rfl)) ?_
 refine Z1j (wT (d := true) rfl rfl rfl rfl) rfl (Z8 [] rfl rfl rfl (Zbr ro2 ro2 Z86 Z86 (r := true) (by decide +kernel)) List.nodup_nil) ?_
 refine qe (Zv (y := bA true) (Z1x (t := true) rfl rfl rfl rfl) rfl) ?_
 refine qM ?_
 refine Z0e 2 (wT (d := true) rfl rfl rfl rfl) rfl rfl rfl rfl rfl (Zt (Nat.le_of_ble_eq_true rfl)) ?_
 refine Z0e 1 (wT (d := true) rfl rfl rfl rfl) rfl rfl rfl rfl rfl (Zt (Nat.le_of_ble_eq_true rfl)) ?_
 refine Z1j (wT (d := true) rfl rfl rfl rfl) rfl (Z8 [] rfl rfl rfl (Zdq someP Z7b ro2 Z86 (l := ex2) Zgo) List.nodup_nil) ?_
 refine Z1j (wT (d := true) rfl rfl rfl rfl) rfl (Zx rfl rfl rfl rfl) ?_
 refine Z1j (wT (d := true) rfl rfl rfl rfl) rfl (Zv (y := bA true) (eI) (congrArg bA (by decide +kernel))) ?_
 refine qe (Zv (y := bA true) (Z1x (t := true) rfl rfl rfl rfl) rfl) ?_
 refine qA (qN (qE ?_))
 exact Z0p rfl (Z7 rfl Z4) (gb rfl)
theorem Zbd (l : List Rule) (hl : small l.length) : ACalls Tryz.prog 10 [.lst (l.map Rule.cells)] [] (Gives (.lst ((fewR l).map Rule.cells))) := by
 simp only [small] at hl
 refine Zd (n := 41) Tryz.func10 rfl (by decide +kernel) rfl rfl ?_
 refine qS (qR (qA (qN (qS (qR ?_)))))
 refine Zy (w0 rfl) rfl (fun id => Z29 id 63 5 (.inl rfl) rfl) (fun id1 => ?_)
 refine qN (qS (qS (qR (qA (qN (qB ?_))))))
 refine Zj (α := Nat × Nat) (fun x => ⟨[(4, iA x.2), (0, .lst (l.map Rule.cells)), (3, .own x.1 5 0 ((l.take x.2).filter fewB).length)], [(x.1, .rows 63 5 (((l.take x.2).filter fewB).map Rule.cells))], [], 41⟩) (fun x => x.2 ≤ 12 ∧ x.2 ≤ l.length) (fun x => l.length - x.2) (id1, 0) ⟨Nat.zero_le _, Nat.zero_le _⟩ ?_ ?_
 ·exact Zb [0] ⟨rfl, rfl, rfl, trivial⟩ rfl (by decide) rfl rfl
 rintro x hJ
 have hfl : ((l.take x.2).filter fewB).length ≤ 12 := Nat.le_trans (List.length_filter_le _ _) (by rw [List.length_take]; omega)
 refine qS (qS (qR (qM (qM ?_))))
 refine qe (Zx rfl rfl rfl rfl) ?_
 refine qe eI ?_
 refine qM (qTM ?_)
 refine Zp (wT rfl rfl rfl rfl) rfl (fun hg => (Zr rfl (Ze hg rfl) rfl rfl)) ?_
 refine qe (Zs rfl rfl rfl (fun h => h)) ?_
 refine qN ?_
 refine Z2 rfl ?_ ?_
 ·intro hc
  have hx : x.2 < l.length ∧ x.2 < 12 := ⟨by have := Z27 hc; simpa using this, by have := Z28 hc; simp at this; omega⟩
  have hi := hx.1
  refine qK (qS (qB (qS (qR (qM (qM ?_))))))
  refine qe (Z6 rfl rfl rfl (Z04 (fun _ => rfl)) (by first | omega | (simp only [List.length_map]; omega) | (simp only [List.length_map, List.length_drop]; omega)) (by first | omega | (simp only [List.length_map]; omega) | (simp only [List.length_map, List.length_drop]; omega))) ?_
  refine qe (Zu rfl rfl (Z0a (by first | assumption | omega | (simp only [List.length_drop]; omega))) (Zt (Nat.le_of_ble_eq_true rfl))) ?_
  refine Zy (w0 rfl) rfl (fun id => Z0b id rfl rfl rfl) (fun id2 => ?_)
  refine Zw 0 (w0 rfl) rfl rfl rfl rfl rfl rfl rfl rfl rfl ?_
  refine qN (qS (qR ?_))
  refine qe (Z0 rfl rfl rfl) ?_
  refine qL 0 Z3 ?_
  refine qe (Zx rfl rfl rfl rfl) ?_
  refine qe eI ?_
  refine qM ?_
  refine Zp (wT rfl rfl rfl rfl) rfl (fun hg => (Z0 rfl rfl rfl)) ?_
  refine Z00 0 (wT rfl rfl rfl rfl) rfl rfl (fun hg => (Ze hg rfl)) rfl rfl Z3 ?_
  refine Zp (wT rfl rfl rfl rfl) rfl (fun hg => (Zx rfl (Ze hg rfl) rfl rfl)) ?_
  refine Zp (wT rfl rfl rfl rfl) rfl (fun hg => (Zr rfl (Ze hg rfl) rfl rfl)) ?_
  refine qe (Zs rfl rfl rfl (fun h => h)) ?_
  refine qM ?_
  refine Zp (wT rfl rfl rfl rfl) rfl (fun hg => (Z0 rfl rfl rfl)) ?_
  refine Z00 0 (wT rfl rfl rfl rfl) rfl rfl (fun hg => (Ze hg rfl)) rfl rfl Z3 ?_
  refine Zp (wT rfl rfl rfl rfl) rfl (fun hg => (Zx rfl (Ze hg rfl) rfl rfl)) ?_
  refine Zp (wT rfl rfl rfl rfl) rfl (fun hg => (Zr rfl (Ze hg rfl) rfl rfl)) ?_
  refine qe (Zs rfl rfl rfl (fun h => h)) ?_
  refine qN ?_
  refine Z2 rfl ?_ ?_
  ·intro hc
   have hq : fewB l[x.2] = true := hc
   have ex : (l.take (x.2 + 1)).filter fewB = (l.take x.2).filter fewB ++ [l[x.2]] := by rw [Z1a hi, List.filter_append]; simp [hq]
   refine qR (qM ?_)
   refine qL 0 (Zt (Nat.le_of_ble_eq_true rfl)) ?_
   refine Zy (w0 rfl) rfl (fun id => Zo id (ps := [(0, .tmp 37)]) rfl rfl rfl rfl rfl rfl rfl rfl) (fun id3 => ?_)
   refine Z0n 2 (w0 rfl) rfl rfl rfl rfl (by simp) rfl ⟨rfl, _, _, List.mem_of_getElem? (i := 0) rfl, by simp, rfl⟩ (by first | omega | (simp; omega) | (simp [maxLen]; omega) | (simp; done) | (simp [maxLen]; done)) (by first | omega | (simp; omega) | (simp [maxLen]; omega) | (simp; done) | (simp [maxLen]; done)) (fun id4 => ?_)
   refine qA (qN (qR (qM ?_)))
   refine qe (Z9 rfl rfl rfl (Zn (by first | omega | (simp only [List.length_map]; omega)))) ?_
   refine qA (qN ?_)
   refine ⟨(id4, x.2 + 1), ⟨by show x.2 + 1 ≤ 12; omega, by show x.2 + 1 ≤ l.length; omega⟩, (by show l.length - (x.2 + 1) < l.length - x.2; omega), ?_⟩
   exact Zb [2] ⟨rfl, rfl, (by show some (AV.own _ _ _ _) = some (AV.own _ _ _ _); rw [ex]; simp), trivial⟩ (by show some [(_, AObj.rows _ _ _)] = some [(_, AObj.rows _ _ _)]; rw [ex]; simp [cellsA]; rfl) (by decide) rfl rfl
  ·intro hc
   have hq : fewB l[x.2] = false := hc
   have ex : (l.take (x.2 + 1)).filter fewB = (l.take x.2).filter fewB := by rw [Z1a hi, List.filter_append]; simp [hq]
   refine qK (qR (qM ?_))
   refine qe (Z9 rfl rfl rfl (Zn (by first | omega | (simp only [List.length_map]; omega)))) ?_
   refine qA (qN ?_)
   refine ⟨(x.1, x.2 + 1), ⟨by show x.2 + 1 ≤ 12; omega, by show x.2 + 1 ≤ l.length; omega⟩, (by show l.length - (x.2 + 1) < l.length - x.2; omega), ?_⟩
   exact Zb [1] ⟨rfl, rfl, (by show some (AV.own _ _ _ _) = some (AV.own _ _ _ _); rw [ex]), trivial⟩ (by show some [(_, AObj.rows _ _ _)] = some [(_, AObj.rows _ _ _)]; rw [ex]) (by decide) rfl rfl
 ·intro hc
  have hx : ¬ (x.2 < l.length ∧ x.2 < 12) := fun h => by have h1 : (x.2 : Int) < 12 := (by omega); simp [h.1, h1] at hc
  have et : (l.take x.2).filter fewB = fewR l := by unfold fewR; rcases Nat.lt_or_ge x.2 l.length with h | h; rw [show x.2 = 12 by omega]; rw [List.take_of_length_le h, List.take_of_length_le (by omega)]
  refine qX (qS (qR (qM (qA (qN (qE ?_))))))
  exact Z4i 0 rfl rfl rfl rfl (by simp) (by rw [et])
end Go.Sx
namespace Go.Sx
open Go Go.Proofs
theorem Zfq (n : Int) : ACalls Tryz.prog 132 [uA n] [] (Gives (bA (letW n))) := by
 refine Zd (n := 33) Tryz.func132 rfl (by decide +kernel) rfl rfl ?_
 refine qS (qR (qA (qN (qS (qR (qM ?_))))))
 refine qe eI ?_
 refine qM (qTM ?_)
 refine Zp (wT rfl rfl rfl rfl) rfl (fun hg => (Zr rfl (Ze hg rfl) rfl rfl)) ?_
 refine qe (Zs rfl rfl rfl (fun h => h)) ?_
 refine qM (qFM ?_)
 refine Zp (wF rfl rfl rfl rfl) rfl (fun hg => (Zr rfl (Ze hg rfl) rfl rfl)) ?_
 refine Zp (wF rfl rfl rfl rfl) rfl (fun hg => (Z06 rfl (Ze hg rfl))) ?_
 refine Zp (wTg rfl rfl rfl rfl) rfl (fun hg => (Z06 rfl rfl)) ?_
 refine Zp (wTg rfl rfl rfl rfl) rfl (fun hg => (Zr rfl (Ze hg rfl) rfl rfl)) ?_
 refine Zp (wF rfl rfl rfl rfl) rfl (fun hg => (Zs rfl (Ze hg rfl) rfl (fun h => by first | (simp [h, hg]; done) | (rw [hg, h]; rfl) | (simp_all; done)))) ?_
 refine qe (Z1h rfl rfl rfl (fun h => by rw [h]; rfl)) ?_
 refine qM (qFM ?_)
 refine Zp (wF rfl rfl rfl rfl) rfl (fun hg => (Zr rfl (Ze hg rfl) rfl rfl)) ?_
 refine Zp (wF rfl rfl rfl rfl) rfl (fun hg => (Z06 rfl (Ze hg rfl))) ?_
 refine Zp (wTg rfl rfl rfl rfl) rfl (fun hg => (Z06 rfl rfl)) ?_
 refine Zp (wTg rfl rfl rfl rfl) rfl (fun hg => (Zr rfl (Ze hg rfl) rfl rfl)) ?_
 refine Zp (wF rfl rfl rfl rfl) rfl (fun hg => (Zs rfl (Ze hg rfl) rfl (fun h => by first | (simp [h, hg]; done) | (rw [hg, h]; rfl) | (simp_all; done)))) ?_
 refine qe (Z1h rfl rfl rfl (fun h => by rw [h]; rfl)) ?_
 refine qM (qFM ?_)
 refine Zp (wF rfl rfl rfl rfl) rfl (fun hg => (Zr rfl (Ze hg rfl) rfl rfl)) ?_
 refine qe (Z1h rfl rfl rfl (fun h => by rw [h]; rfl)) ?_
 refine qM (qFM ?_)
 refine Zp (wF rfl rfl rfl rfl) rfl (fun hg => (Zr rfl (Ze hg rfl) rfl rfl)) ?_
 refine qe (Z1h rfl rfl rfl (fun h => by rw [h]; rfl)) ?_
 refine qA (qN (qE ?_))
 exact Z0p rfl (Z7 rfl Z4) (gb (by unfold letW; ac_rfl))
theorem Zfc (u : Str) (n : Int) : ACalls Tryz.prog 106 [sA u, uA n] [] (Gives (bA (allW u n))) := by
 refine Zd (n := 32) Tryz.func106 rfl (by decide +kernel) rfl rfl ?_
 refine qS (qR (qA (qN (qS (qS (qR (qM ?_)))))))
 refine qe (Zx rfl rfl rfl rfl) ?_
 refine qe eI ?_
 refine qM (qFM ?_)
 refine Zp (wF rfl rfl rfl rfl) rfl (fun hg => (Zx rfl (Ze hg rfl) rfl rfl)) ?_
 refine Zp (wF rfl rfl rfl rfl) rfl (fun hg => (Zr rfl (Ze hg rfl) rfl rfl)) ?_
 refine qe (Z1h rfl rfl rfl (fun h => by rw [h]; rfl)) ?_
 refine qN ?_
 refine Z2 rfl ?_ ?_
 ·intro hc
  have hs : u.size < 1 ∨ 32 < u.size := by rcases orT hc with h | h <;> simp at h <;> omega
  refine qS (qR (qA (qN (qE ?_))))
  exact Z0p rfl (Z7 rfl Z4) (gb (Zb3 hs).symm)
 ·intro hc
  have hs : ¬ (u.size < 1 ∨ 32 < u.size) := by have h := orF hc; simp at h; omega
  refine qK (qS (qS (qR (qA (qN (qB ?_))))))
  refine Zj (α := Nat) (fun i => ⟨[(5, iA i), (0, sA u), (1, uA n)], [], [], 32⟩) (fun i => ∀ k, k < i → (letW (byteAt u (k : Nat)) || (byteAt u (k : Nat) == n)) = true) (fun i => u.size - i) 0 (fun k h => by omega) ?_ ?_
  ·exact Zb [] ⟨rfl, rfl, rfl, trivial⟩ rfl (by decide) rfl rfl
  rintro i hJ
  refine qS (qS (qR (qM (qM ?_))))
  refine qe (Zx rfl rfl rfl rfl) ?_
  refine qe eI ?_
  refine qN ?_
  refine Z2 rfl ?_ ?_
  ·intro hc
   have hi : i < u.size := by simpa using hc
   refine qK (qS (qB (qS (qR (qM (qM ?_))))))
   refine qe (Z18 rfl rfl rfl (by first | omega | (simp only [List.length_map]; omega) | (simp only [List.length_map, List.length_drop]; omega)) (by first | omega | (simp only [List.length_map]; omega) | (simp only [List.length_map, List.length_drop]; omega))) ?_
   refine qe (Z8 [] rfl rfl rfl (Zfq _) List.nodup_nil) ?_
   refine qe (Z03 rfl rfl) ?_
   refine qM (qTM (qTM ?_))
   refine Zp (wT rfl rfl rfl rfl) rfl (fun hg => (Z18 rfl (Ze hg rfl) (Ze hg rfl) (by (try simp at hg) <;> first | omega | (simp only [List.length_map]; omega) | (simp only [List.length_map, List.length_drop]; omega)) (by (try simp at hg) <;> first | omega | (simp only [List.length_map]; omega) | (simp only [List.length_map, List.length_drop]; omega)))) ?_
   refine qTM ?_
   refine Zp (wT rfl rfl rfl rfl) rfl (fun hg => (Zr rfl (Ze hg rfl) (Ze hg rfl) rfl)) ?_
   refine qe (Zs rfl rfl rfl (fun h => h)) ?_
   refine qN ?_
   refine Z2 rfl ?_ ?_
   ·intro hc
    have hq : (letW (byteAt u (i : Nat)) || (byteAt u (i : Nat) == n)) = false := by revert hc; cases letW (byteAt u (i : Nat)) <;> cases h : (byteAt u (i : Nat) == n) <;> simp_all
    refine qS (qR (qA (qN (qE ?_))))
    exact Z0p rfl (Z7 rfl Z4) (gb (Zd3 hi hq).symm)
   ·intro hc
    have hq : (letW (byteAt u (i : Nat)) || (byteAt u (i : Nat) == n)) = true := by revert hc; cases letW (byteAt u (i : Nat)) <;> cases h : (byteAt u (i : Nat) == n) <;> simp_all
    refine qK (qR (qM ?_))
    refine qe (Z9 rfl rfl rfl (Zn (by first | omega | (simp only [List.length_map]; omega)))) ?_
    refine qA (qN ?_)
    refine ⟨i + 1, (fun k h => by rcases Nat.lt_succ_iff_lt_or_eq.1 h with h | h; exact hJ k h; rw [h]; exact hq), (by omega), ?_⟩
    exact qp [] ⟨rfl, rfl, rfl, trivial⟩
  ·intro hc
   have hi : ¬ i < u.size := by simpa using hc
   refine qX (qS (qR (qA (qN (qE ?_)))))
   exact Z0p rfl (Z7 rfl Z4) (gb (Zd4 (by omega) (by omega) fun k hk => hJ k (by omega)).symm)
theorem Zbb (u : Str) : ACalls Tryz.prog 62 [sA u] [] (Gives (bA (clsW u))) := by
 refine Zd (n := 5) Tryz.func62 rfl (by decide +kernel) rfl rfl ?_
 refine qS (qR (qA (qN (qS (qR (qM ?_))))))
 refine qe (Z8 [] rfl rfl rfl (Zfc _ _) List.nodup_nil) ?_
 refine qA (qN (qE ?_))
 exact Z0p rfl (Z7 rfl Z4) (gb rfl)
theorem Zal (t : Ty) : ACalls Tryz.prog 69 [.agg t.cells] [] (Gives (bA (rightT t))) := by
 refine Zd (n := 18) Tryz.func69 rfl (by decide +kernel) rfl rfl ?_
 refine qS (qR ?_)
 refine Zy (w0 rfl) rfl (fun id => Z09 id rfl rfl rfl rfl rfl) (fun id1 => ?_)
 refine qA (qN (qS (qR ?_)))
 refine qe (Z0 rfl rfl rfl) ?_
 refine qL 0 Z3 ?_
 refine qN (qB (qS (qS (qR ?_))))
 refine qe eI ?_
 refine qA (qN ?_)
 refine Z2 rfl ?_ ?_
 ·intro hc
  simp at hc
  refine qK ?_
  refine Z2 rfl ?_ ?_
  ·intro hc
   simp at hc
   refine qS (qR ?_)
   refine qe (Z0 rfl rfl rfl) ?_
   refine qL 0 Z3 ?_
   refine qe (Z0o rfl rfl rfl rfl) ?_
   refine qA (qN (qE ?_))
   exact Z0p rfl (Z7 rfl Z4) (gb (by unfold rightT; first | (rw [if_pos (by omega)]; done) | (show beqS t.cls zS = _; rw [if_neg (by omega), decide_eq_true (by omega), decide_eq_true (by omega)]; simp; done) | (rw [if_neg (by omega)]; generalize beqS t.cls zS = b; cases b <;> simp <;> omega)))
  ·intro hd; exfalso; simp_all
 ·intro hc
  simp at hc
  refine qS (qR ?_)
  refine qe eI ?_
  refine qA (qN ?_)
  refine Z2 rfl ?_ ?_
  ·intro hc
   simp at hc
   refine qK ?_
   refine Z2 rfl ?_ ?_
   ·intro hc
    simp at hc
    refine qS (qR ?_)
    refine qe (Z0 rfl rfl rfl) ?_
    refine qL 0 Z3 ?_
    refine qe (Z0o rfl rfl rfl rfl) ?_
    refine qA (qN (qE ?_))
    exact Z0p rfl (Z7 rfl Z4) (gb (by unfold rightT; first | (rw [if_pos (by omega)]; done) | (show beqS t.cls zS = _; rw [if_neg (by omega), decide_eq_true (by omega), decide_eq_true (by omega)]; simp; done) | (rw [if_neg (by omega)]; generalize beqS t.cls zS = b; cases b <;> simp <;> omega)))
   ·intro hd; exfalso; simp_all
  ·intro hc
   simp at hc
   refine qR ?_
   refine qe eI ?_
   refine qA (qN ?_)
   refine Z2 rfl ?_ ?_
   ·intro hc
    simp at hc
    refine qS (qR ?_)
    refine qe (Z0 rfl rfl rfl) ?_
    refine qL 0 Z3 ?_
    refine qe (Z0o rfl rfl rfl rfl) ?_
    refine qA (qN (qE ?_))
    exact Z0p rfl (Z7 rfl Z4) (gb (by unfold rightT; first | (rw [if_pos (by omega)]; done) | (show beqS t.cls zS = _; rw [if_neg (by omega), decide_eq_true (by omega), decide_eq_true (by omega)]; simp; done) | (rw [if_neg (by omega)]; generalize beqS t.cls zS = b; cases b <;> simp <;> omega)))
   ·intro hc
    simp at hc
    refine qS (qS (qR ?_))
    refine qe eI ?_
    refine qA (qN ?_)
    refine Z2 rfl ?_ ?_
    ·intro hc
     simp at hc
     refine qK ?_
     refine Z2 rfl ?_ ?_
     ·intro hc
      simp at hc
      refine qS (qR ?_)
      refine qe (Z0 rfl rfl rfl) ?_
      refine qL 0 Z3 ?_
      refine qe (Z8 [] rfl rfl rfl (Zbb _) List.nodup_nil) ?_
      refine qA (qN (qE ?_))
      exact Z0p rfl (Z7 rfl Z4) (gb (by unfold rightT; first | (rw [if_pos (by omega)]; done) | (show beqS t.cls zS = _; rw [if_neg (by omega), decide_eq_true (by omega), decide_eq_true (by omega)]; simp; done) | (rw [if_neg (by omega)]; generalize beqS t.cls zS = b; cases b <;> simp <;> omega)))
     ·intro hd; exfalso; simp_all
    ·intro hc
     simp at hc
     refine qR ?_
     refine qe eI ?_
     refine qA (qN ?_)
     refine Z2 rfl ?_ ?_
     ·intro hc
      simp at hc
      refine qS (qR ?_)
      refine qe (Z0 rfl rfl rfl) ?_
      refine qL 0 Z3 ?_
      refine qe (Z8 [] rfl rfl rfl (Zbb _) List.nodup_nil) ?_
      refine qA (qN (qE ?_))
      exact Z0p rfl (Z7 rfl Z4) (gb (by unfold rightT; first | (rw [if_pos (by omega)]; done) | (show beqS t.cls zS = _; rw [if_neg (by omega), decide_eq_true (by omega), decide_eq_true (by omega)]; simp; done) | (rw [if_neg (by omega)]; generalize beqS t.cls zS = b; cases b <;> simp <;> omega)))
     ·intro hc
      simp at hc
      refine qS (qR (qA (qN (qE ?_))))
      exact Z0p rfl (Z7 rfl Z4) (gb (by unfold rightT; first | (rw [if_pos (by omega)]; done) | (show beqS t.cls zS = _; rw [if_neg (by omega), decide_eq_true (by omega), decide_eq_true (by omega)]; simp; done) | (rw [if_neg (by omega)]; generalize beqS t.cls zS = b; cases b <;> simp <;> omega)))
end Go.Sx
namespace Go.Sx
open Go
section
variable {P : Program} {ro : Option Nat} {Q : Exit → St → Prop} {s : St} {ops : Array Oper} {o : Oper} {rest : List Oper} {α : Type} [Inhabited α]
theorem Z41 {t id el i : Nat} {b : Bool} {p q : Operand} {f : α → AV} {l : List α} {x : α} (k : Nat) [kt : TK P t b 1] (hl : ∀ x, cellsA (f x) = [f x]) (h1 : ∀ x, one (f x) = true) (hw : Wanted ops s.T o true) (hd : dok o.dst s.n = true)
  (ho : o.op = .store t p q) (hp : ev s.T p = some (.ptr id 1 i 0)) (hH : s.H[k]? = some (id, .rows el 1 (l.map fun x => [f x]))) (hi : i < l.length) (hq : ev s.T q = some (f x))
  (h : AOps P ro ops rest Q { s with T := put s.T o.dst (.v undef), H := s.H.set k (id, .rows el 1 ((l.set i x).map fun x => [f x])) }) : AOps P ro ops (o :: rest) Q s := by
 refine Zw k hw hd ho hp hH (Z0g (f := fun x => [f x]) hi) hq (by rw [hl]; rfl) (by rw [hl]; simp [h1]) rfl ?_
 have e : (l.map fun x => [f x]).set i (List.take 0 ((fun x => [f x]) (l.getD i default)) ++ cellsA (f x) ++ List.drop (0 + (cellsA (f x)).length) ((fun x => [f x]) (l.getD i default))) = (l.set i x).map fun x => [f x] := by
  rw [hl]; simp [List.map_set]
 rw [e]; exact h
theorem Z8f {e : Bool} {t n : TypeId} {p : Operand} {id el i : Nat} {f : α → AV} {l : List α} (k : Nat) [kt : TK P t false n] (hw : Wanted ops s.T o e) (hd : dok o.dst s.n = true) (ho : o.op = .load t p) (hp : e = true → ev s.T p = some (.ptr id 1 i 0))
  (hH : s.H[k]? = some (id, .rows el 1 (l.map fun x => [f x]))) (hi : e = true → i < l.length) (h : AOps P ro ops rest Q { s with T := put s.T o.dst (cond e (f (l.getD i default)) (.v undef)) }) : AOps P ro ops (o :: rest) Q s := by
 cases e
 ·exact Z6s hw hd h
 ·exact Z0e k hw hd ho (hp rfl) hH (Z0g (f := fun x => [f x]) (hi rfl)) Z3 h
end
end Go.Sx
namespace Go.Sx
open Go
section
variable {α : Type} [Inhabited α] [DecidableEq α] (bl : α → α → Bool) (s : α)
def insB : List α → Bool → List α
 | [], d => if d then [] else [s]
 | x :: r, d => if !d && bl s x then s :: x :: insB r true else x :: insB r d
def putG (l : List α) : List α := if hasG l s then l else insB bl s l false
theorem Z75 : ∀ (l : List α) (d : Bool), (insB bl s l d).length ≤ l.length + (!d).toNat
 | [], true => Nat.le_refl _
 | [], false => Nat.le_refl _
 | x :: r, d => by
  rw [insB]
  split
  ·rename_i h
   have := Z75 r true
   have hd : d = false := by cases d <;> simp_all
   subst hd
   simp only [List.length_cons, Bool.not_true, Bool.toNat_false, Bool.not_false, Bool.toNat_true] at this ⊢
   omega
  ·have := Z75 r d
   simp only [List.length_cons]
   omega
theorem Z76 : ∀ (l : List α) (d : Bool) (y : α), y ∈ insB bl s l d → y = s ∨ y ∈ l
 | [], true, y, h => by simp [insB] at h
 | [], false, y, h => by simp [insB] at h; exact .inl h
 | x :: r, d, y, h => by
  rw [insB] at h
  split at h
  ·rcases List.mem_cons.1 h with h | h
   ·exact .inl h
   ·rcases List.mem_cons.1 h with h | h
    ·exact .inr (by rw [h]; exact List.mem_cons_self)
    ·exact (Z76 r true y h).imp id (List.mem_cons_of_mem _)
  ·rcases List.mem_cons.1 h with h | h
   ·exact .inr (by rw [h]; exact List.mem_cons_self)
   ·exact (Z76 r d y h).imp id (List.mem_cons_of_mem _)
theorem Z4h (l : List α) : (putG bl s l).length ≤ l.length + 1 := by
 unfold putG
 split
 ·omega
 ·exact Z75 bl s l false
theorem Z79 (l : List α) (y : α) (h : y ∈ putG bl s l) : y = s ∨ y ∈ l := by
 unfold putG at h
 split at h
 ·exact .inr h
 ·exact Z76 bl s l false y h
theorem Z9w {l : List α} {i : Nat} (hi : i < l.length) {d : Bool} (h : (!d && bl s l[i]) = true) : insB bl s (l.drop i) d = [s] ++ [l[i]] ++ insB bl s (l.drop (i + 1)) true := by rw [Z0w hi, insB, if_pos h]; rfl
theorem Zce {l : List α} {i : Nat} (hi : i < l.length) {d : Bool} (h : (!d && bl s l[i]) = false) : insB bl s (l.drop i) d = [l[i]] ++ insB bl s (l.drop (i + 1)) d := by rw [Z0w hi, insB, if_neg (by rw [h]; simp)]; rfl
theorem Z6m {l : List α} {i : Nat} (hi : i < l.length) (h : l[i] = s) : putG bl s l = l := by unfold putG; rw [if_pos (hasG_mem.2 (h ▸ List.getElem_mem hi))]
theorem Za2 {l out : List α} {i : Nat} {d : Bool} (hi : ¬ i < l.length) (h : hasG (l.take i) s = false) (e : out ++ insB bl s (l.drop i) d = insB bl s l false) : putG bl s l = out ++ (if d then [] else [s]) := by
 rw [List.take_of_length_le (by omega)] at h
 rw [Z1m hi] at e
 unfold putG
 rw [if_neg (by rw [h]; simp), ← e]; rfl
theorem Z4e {l : List α} {i : Nat} (hi : i < l.length) (h : hasG (l.take i) s = false) (hn : ¬ l[i] = s) : hasG (l.take (i + 1)) s = false := by
 rw [Zas] at h ⊢
 rw [Z1a hi, List.mem_append]
 rintro (h1 | h1)
 ·exact h h1
 ·exact hn (List.mem_singleton.1 h1).symm
end
def belF (a b : FRef) : Bool := ltS a.cls b.cls || (beqS a.cls b.cls && ltS a.name b.name)
def belM (a b : MRef) : Bool := if !beqS a.cls b.cls then ltS a.cls b.cls else if !beqS a.name b.name then ltS a.name b.name else ltS a.desc b.desc
theorem Z1y {α β : Type} {l : List α} {f : β → α → β} {a : β} {i : Nat} (h : i < l.length) : (l.take (i + 1)).foldl f a = f ((l.take i).foldl f a) l[i] := by rw [Z1a h, List.foldl_append]; rfl
theorem Z5w {α β : Type} {l : List α} {f : β → α → β} {a : β} {i : Nat} (h : ¬ i < l.length) : (l.take i).foldl f a = l.foldl f a := by rw [List.take_of_length_le (by omega)]
section
variable (clsT : Rule → Str → Bool) (memT : Rule → Str → Str → Str → Bool) (p : Prog) (l : List Rule) (c : Cls)
def rS (a : Ga) (r : Rule) : Ga := if clsT r c.name then ⟨a.cl ++ [c.name], a.fd, a.md, a.cn ++ okB r.names c.name, a.fn, a.mn, a.lk⟩ else a
def fX (f : Fld) : Fld := (fldP p ⟨c.name, f.name⟩).getD zFl
def fHas (f : Fld) (r : Rule) : Bool := memT r c.name (fX p c f).name (textT (fX p c f).type)
def fS1 (a : Ga) (f : Fld) : Ga := if anyR l (fHas memT p c f) then ⟨a.cl ++ [c.name], putG belF ⟨c.name, f.name⟩ a.fd, a.md, a.cn, a.fn, a.mn, a.lk⟩ else a
def fS2 (a : Ga) (f : Fld) : Ga := if nmsR l (fHas memT p c f) then ⟨a.cl, a.fd, a.md, a.cn, a.fn ++ [(fX p c f).name], a.mn, a.lk⟩ else a
def fS (a : Ga) (f : Fld) : Ga := if (fldP p ⟨c.name, f.name⟩).isSome then fS2 memT p l c (fS1 memT p l c a f) f else a
def mHas (m : Meth) (r : Rule) : Bool := memT r c.name m.name m.desc
def mS1 (a : Ga) (m : Meth) : Ga := if anyR l (mHas memT c m) && (getP p ⟨c.name, m.name, m.desc⟩).isSome then ⟨a.cl ++ [c.name], a.fd, putG belM ⟨c.name, m.name, m.desc⟩ a.md, a.cn, a.fn, a.mn, a.lk ++ okB (((getP p ⟨c.name, m.name, m.desc⟩).getD zMt).static && beqS m.desc nAsk) ((c.name ++ nDot) ++ m.name)⟩ else a
def mS2 (a : Ga) (m : Meth) : Ga := if nmsR l (mHas memT c m) && (getP p ⟨c.name, m.name, m.desc⟩).isSome then ⟨a.cl, a.fd, a.md, a.cn, a.fn, a.mn ++ [m.name ++ m.desc], a.lk⟩ else a
def mS (a : Ga) (m : Meth) : Ga := mS2 memT p l c (mS1 memT p l c a m) m
def cS (a : Ga) : Ga := c.methods.foldl (mS memT p l c) (c.fields.foldl (fS memT p l c) (l.foldl (rS clsT c) a))
end
def refG (clsT : Rule → Str → Bool) (memT : Rule → Str → Str → Str → Bool) (p : Prog) (l : List Rule) (n : Nat) : Ga := (p.classes.take n).foldl (fun a c => cS clsT memT p l c a) .nil
def refRo (a : Ga) : Roots := ⟨risF a.cl, a.fd, a.md, risF a.cn, risF a.fn, risF a.mn, risF (a.lk ++ risF a.cl)⟩
end Go.Sx
namespace Go.Sx
open Go Go.Proofs
theorem Zgy (p : Str) : decide ((p.size : Int) ≥ 1) = !beqS p zS := by
 cases h : beqS p zS with
 | true => rw [beqS_iff.1 h]; decide +kernel
 | false =>
  have : p.size ≠ 0 := fun e => by rw [ByteArray.size_eq_zero_iff.1 e] at h; revert h; decide +kernel
  simp; omega
def stepC (p s : Str) (i k : Nat) : Bool := decide ((k : Int) > 0) && ((byteAt p (i : Nat) == 63) || (byteAt p (i : Nat) == byteAt s ((k : Int) - 1)))
def stepB (p s : Str) (i : Nat) (row next : List Bool) (k : Nat) : List Bool :=
 if byteAt p (i : Nat) = 42 then next.set k (row.getD k default || (decide ((k : Int) > 0) && next.getD (k - 1) default)) else if stepC p s i k then next.set k (row.getD (k - 1) default) else next
def rowIn (p s : Str) (i : Nat) (row : List Bool) : Nat → List Bool
 | 0 => List.replicate (s.size + 1) false
 | k + 1 => stepB p s i row (rowIn p s i row k) k
def rowT (p s : Str) : Nat → List Bool
 | 0 => (List.replicate (s.size + 1) false).set 0 true
 | i + 1 => rowIn p s i (rowT p s i) (s.size + 1)
def globT (p s : Str) : Bool := (rowT p s p.size).getD s.size default
theorem Zay {p s : Str} {i k : Nat} {row next : List Bool} (h : byteAt p (i : Nat) = 42) : stepB p s i row next k = next.set k (row.getD k default || (decide ((k : Int) > 0) && next.getD (k - 1) default)) := if_pos h
theorem Zcy {p s : Str} {i k : Nat} {row next : List Bool} (h : ¬ byteAt p (i : Nat) = 42) (h2 : stepC p s i k = true) : stepB p s i row next k = next.set k (row.getD (k - 1) default) := by unfold stepB; rw [if_neg h, if_pos h2]
theorem Zeq {p s : Str} {i k : Nat} {row next : List Bool} (h : ¬ byteAt p (i : Nat) = 42) (h2 : stepC p s i k = false) : stepB p s i row next k = next := by unfold stepB; rw [if_neg h, if_neg (by rw [h2]; simp)]
def clsT (r : Rule) (c : Str) : Bool := (!r.member && ruleR r) && globT r.cls c
def memT (r : Rule) (c n d : Str) : Bool := ((((r.member && ruleR r) && !beqS n nInit') && globT r.cls c) && globT r.name n) && globT r.desc d
def mkRes1 (x : AV) : AV := mkRes [x]
theorem Z5r (p : Str) (hs : small p.size) : ACalls Tryz.prog 107 [sA p] [] (Gives (bA (globR p))) := by
 unfold small at hs
 refine Zd (n := 28) Tryz.func107 rfl (by decide +kernel) rfl rfl ?_
 refine qS (qR (qA (qN (qS (qS (qR (qA (qN (qB ?_)))))))))
 refine Zj (α := Nat) (fun i => ⟨[(3, iA i), (0, sA p)], [], [], 28⟩) (fun i => ∀ k, k < i → seenG p k = true) (fun i => p.size - i) 0 (fun k h => by omega) ?_ ?_
 ·exact Zb [] ⟨rfl, rfl, trivial⟩ rfl (by decide) rfl rfl
 rintro i hJ
 refine qS (qS (qR (qM (qM ?_))))
 refine qe (Zx rfl rfl rfl rfl) ?_
 refine qe eI ?_
 refine qN ?_
 refine Z2 rfl ?_ ?_
 ·intro hc
  have hi : i < p.size := by simpa using hc
  refine qK (qS (qB (qS (qR (qM (qM ?_))))))
  refine qe (Z18 rfl rfl rfl (by first | omega | (simp only [List.length_map]; omega) | (simp only [List.length_map, List.length_drop]; omega)) (by first | omega | (simp only [List.length_map]; omega) | (simp only [List.length_map, List.length_drop]; omega))) ?_
  refine qe eI ?_
  refine qM (qFM (qFM ?_))
  refine Zp (wF rfl rfl rfl rfl) rfl (fun hg => (Z18 rfl (Ze hg rfl) (Ze hg rfl) (by (try simp at hg) <;> first | omega | (simp only [List.length_map]; omega) | (simp only [List.length_map, List.length_drop]; omega)) (by (try simp at hg) <;> first | omega | (simp only [List.length_map]; omega) | (simp only [List.length_map, List.length_drop]; omega)))) ?_
  refine Zp (wF rfl rfl rfl rfl) rfl (fun hg => (Zr rfl (Ze hg rfl) rfl rfl)) ?_
  refine qe (Z1h rfl rfl rfl (fun h => by rw [h]; rfl)) ?_
  refine qN ?_
  refine Z2 rfl ?_ ?_
  ·intro hc
   have hq : seenG p i = false := by unfold seenG; rcases orT hc with h | h; simp at h; simp; omega; simp at h; simp; omega
   refine qS (qR (qA (qN (qE ?_))))
   exact Z0p rfl (Z7 rfl Z4) (gb (by unfold globR; rw [Z7e hi hq]; rfl))
  ·intro hc
   have hq : seenG p i = true := by unfold seenG; have h := orF hc; simp at h; simp; omega
   refine qK (qR (qM ?_))
   refine qe (Z9 rfl rfl rfl (Zn (by first | omega | (simp only [List.length_map]; omega)))) ?_
   refine qA (qN ?_)
   refine ⟨i + 1, (fun k h => by rcases Nat.lt_succ_iff_lt_or_eq.1 h with h | h; exact hJ k h; rw [h]; exact hq), (by omega), ?_⟩
   exact qp [] ⟨rfl, rfl, trivial⟩
 ·intro hc
  have hi : ¬ i < p.size := by simpa using hc
  refine qX (qS (qR (qM ?_)))
  refine qe (Zx rfl rfl rfl rfl) ?_
  refine qe eI ?_
  refine qM (qTM ?_)
  refine Zp (wT rfl rfl rfl rfl) rfl (fun hg => (Zx rfl (Ze hg rfl) rfl rfl)) ?_
  refine Zp (wT rfl rfl rfl rfl) rfl (fun hg => (Zr rfl (Ze hg rfl) rfl rfl)) ?_
  refine qe (Zs rfl rfl rfl (fun h => h)) ?_
  refine qA (qN (qE ?_))
  exact Z0p rfl (Z7 rfl Z4) (gb (by unfold globR; rw [Z5c fun k hk => hJ k (by omega), Bool.true_and, ← Zgy p, show decide ((p.size : Int) ≤ 64) = decide (p.size ≤ 64) by simp only [decide_eq_decide]; omega]))
theorem Z49 (p s : Str) (hp : small p.size) (hs : s.size ≤ 140737488351300) : ACalls Tryz.prog 65 [sA p, sA s] [] (Gives (bA (globT p s))) := by
 simp only [small] at hp
 refine Zd (n := 85) Tryz.func65 rfl (by decide +kernel) rfl rfl ?_
 refine qS (qR (qA (qN (qS (qR (qM ?_))))))
 refine qe (Zx rfl rfl rfl rfl) ?_
 refine qe (Z9 rfl rfl rfl (Zn (by first | omega | (simp only [List.length_map]; omega)))) ?_
 refine Zy (w0 rfl) rfl (fun id => Z3y id (s.size + 1) rfl rfl rfl (by first | omega | (simp; omega) | (simp [maxLen]; omega) | (simp; done) | (simp [maxLen]; done)) (by first | omega | (simp; omega) | (simp [maxLen]; omega) | (simp; done) | (simp [maxLen]; done)) rfl) (fun id1 => ?_)
 refine qA (qN (qS ?_))
 refine Z10 (s' := ⟨[(5, .own id1 1 0 (s.size + 1)), (0, sA p), (1, sA s), (4, bA false)], [(id1, .rows 4 1 ((List.replicate (s.size + 1) false).map fun b => [bA b]))], [], 85⟩) (Zb [0] ⟨rfl, rfl, rfl, rfl, trivial⟩ (by show some [(_, AObj.rows _ _ _)] = some [(_, AObj.rows _ _ _)]; simp) (by decide) rfl rfl) ?_
 refine qR (qM ?_)
 refine qe (Z1 0 rfl rfl rfl (by first | omega | (simp only [List.length_map]; omega) | (simp only [List.length_map, List.length_drop]; omega)) (by first | omega | (simp only [List.length_map]; omega) | (simp only [List.length_map, List.length_drop]; omega)) (by omega)) ?_
 refine Z41 (f := bA) 0 (fun _ => rfl) (fun _ => rfl) (w0 rfl) rfl rfl rfl rfl (by first | omega | (simp; done) | (simp; omega)) rfl ?_
 refine qN (qS (qS (qR (qA (qN (qB ?_))))))
 refine Zj (α := Nat × List Bool × Nat) (fun x => ⟨[(6, iA x.2.2), (5, .own x.1 1 0 (s.size + 1)), (0, sA p), (1, sA s)], [(x.1, .rows 4 1 (x.2.1.map fun b => [bA b]))], [], 85⟩) (fun x => x.2.1.length = s.size + 1 ∧ x.2.2 ≤ p.size ∧ x.2.1 = rowT p s x.2.2) (fun x => p.size - x.2.2) (id1, (List.replicate (s.size + 1) false).set 0 true, 0) ⟨by simp, Nat.zero_le _, rfl⟩ ?_ ?_
 ·exact Zb [0] ⟨rfl, rfl, rfl, rfl, trivial⟩ rfl (by decide) rfl rfl
 rintro x hJ
 refine qS (qS (qR (qM (qM ?_))))
 refine qe (Zx rfl rfl rfl rfl) ?_
 refine qe eI ?_
 refine qN ?_
 refine Z2 rfl ?_ ?_
 ·intro hc
  have hx : x.2.2 < p.size := by simpa using hc
  refine qK (qS (qB (qS (qR (qM ?_)))))
  refine qe (Zx rfl rfl rfl rfl) ?_
  refine qe (Z9 rfl rfl rfl (Zn (by first | omega | (simp only [List.length_map]; omega)))) ?_
  refine Zy (w0 rfl) rfl (fun id => Z3y id (s.size + 1) rfl rfl rfl (by first | omega | (simp; omega) | (simp [maxLen]; omega) | (simp; done) | (simp [maxLen]; done)) (by first | omega | (simp; omega) | (simp [maxLen]; omega) | (simp; done) | (simp [maxLen]; done)) rfl) (fun id2 => ?_)
  refine qA (qN (qS (qS (qR (qA (qN (qB ?_)))))))
  refine Zj (α := List Bool × Nat) (fun y => ⟨[(8, iA y.2), (7, .own id2 1 0 (s.size + 1)), (5, .own x.1 1 0 (s.size + 1)), (6, iA x.2.2), (0, sA p), (1, sA s)], [(id2, .rows 4 1 (y.1.map fun b => [bA b])), (x.1, .rows 4 1 (x.2.1.map fun b => [bA b]))], [], 85⟩) (fun y => y.1.length = s.size + 1 ∧ y.2 ≤ s.size + 1 ∧ y.1 = rowIn p s x.2.2 x.2.1 y.2) (fun y => s.size + 1 - y.2) (List.replicate (s.size + 1) false, 0) ⟨by simp, Nat.zero_le _, rfl⟩ ?_ ?_
  ·exact Zb [0, 1] ⟨rfl, rfl, rfl, rfl, rfl, rfl, trivial⟩ (by show some [(_, AObj.rows _ _ _), _] = some [(_, AObj.rows _ _ _), _]; simp) (by decide) rfl rfl
  rintro y hJ2
  refine qS (qS (qR (qM (qM ?_))))
  refine qe (Zx rfl rfl rfl rfl) ?_
  refine qe eI ?_
  refine qN ?_
  refine Z2 rfl ?_ ?_
  ·intro hc
   have hy : y.2 ≤ s.size := by simp at hc; omega
   refine qK (qS (qB (qS (qR (qM (qM ?_))))))
   refine qe (Z18 rfl rfl rfl (by first | omega | (simp only [List.length_map]; omega) | (simp only [List.length_map, List.length_drop]; omega)) (by first | omega | (simp only [List.length_map]; omega) | (simp only [List.length_map, List.length_drop]; omega))) ?_
   refine qe eI ?_
   refine qN ?_
   refine Z2 rfl ?_ ?_
   ·intro hc
    have h10 : byteAt p (x.2.2 : Nat) = 42 := by simpa using hc
    refine qR (qM (qM (qM (qM ?_))))
    refine qe (Z1 y.2 rfl rfl rfl (by first | omega | (simp only [List.length_map]; omega) | (simp only [List.length_map, List.length_drop]; omega)) (by first | omega | (simp only [List.length_map]; omega) | (simp only [List.length_map, List.length_drop]; omega)) (by omega)) ?_
    refine Z0e 1 (w0 rfl) rfl rfl rfl rfl (Z0g (f := fun x => [bA x]) (by first | assumption | omega | (simp only [List.length_drop]; omega))) Z3 ?_
    refine qM (qFM ?_)
    refine Zp (wF rfl rfl rfl rfl) rfl (fun hg => (Zr rfl (Ze hg rfl) rfl rfl)) ?_
    refine Zp (wF rfl rfl rfl rfl) rfl (fun hg => (Z06 rfl (Ze hg rfl))) ?_
    refine Zp (wTg rfl rfl rfl rfl) rfl (fun hg => (Z06 rfl rfl)) ?_
    refine Zp (wTg rfl rfl rfl rfl) rfl (fun hg => (Z06 rfl rfl)) ?_
    refine Zp (wTg rfl rfl rfl rfl) rfl (fun hg => (Z9 rfl (Ze hg rfl) rfl (Z0c (by first | omega | (simp only [List.length_map]; omega))))) ?_
    refine Zp (wTg rfl rfl rfl rfl) rfl (fun hg => (Z1 (y.2 - 1) rfl (Ze hg rfl) (Ze hg rfl) (by (try simp at hg) <;> first | omega | (simp only [List.length_map]; omega) | (simp only [List.length_map, List.length_drop]; omega)) (by (try simp at hg) <;> first | omega | (simp only [List.length_map]; omega) | (simp only [List.length_map, List.length_drop]; omega)) (by omega))) ?_
    refine Z8f (f := bA) 0 (wTg rfl rfl rfl rfl) rfl rfl (fun hg => (Ze hg rfl)) rfl (fun hg => by (try simp at hg) <;> (first | assumption | omega | (simp only [List.length_drop]; omega))) ?_
    refine Zp (wF rfl rfl rfl rfl) rfl (fun hg => (Zs rfl (Ze hg rfl) rfl (fun h => by first | (simp [h, hg]; done) | (rw [hg, h]; rfl) | (simp_all; done)))) ?_
    refine qe (Z1h rfl rfl rfl (fun h => by rw [h]; rfl)) ?_
    refine qe (Z1 y.2 rfl rfl rfl (by first | omega | (simp only [List.length_map]; omega) | (simp only [List.length_map, List.length_drop]; omega)) (by first | omega | (simp only [List.length_map]; omega) | (simp only [List.length_map, List.length_drop]; omega)) (by omega)) ?_
    refine Z41 (f := bA) 0 (fun _ => rfl) (fun _ => rfl) (w0 rfl) rfl rfl rfl rfl (by first | omega | (simp; done) | (simp; omega)) rfl ?_
    refine qN (qR (qM ?_))
    refine qe (Z9 rfl rfl rfl (Zn (by first | omega | (simp only [List.length_map]; omega)))) ?_
    refine qA (qN ?_)
    refine ⟨((y.1.set y.2 (x.2.1.getD y.2 default || (decide ((y.2 : Int) > 0) && y.1.getD (y.2 - 1) default))), y.2 + 1), ⟨by show (List.set _ _ _).length = _; rw [List.length_set]; exact hJ2.1, by simp only; omega, by simp only; rw [rowIn, ← hJ2.2.2, Zay h10]⟩, (by simp only; omega), ?_⟩
    exact qp [0, 1] ⟨rfl, rfl, rfl, rfl, rfl, rfl, trivial⟩
   ·intro hc
    have h10 : ¬ byteAt p (x.2.2 : Nat) = 42 := by simpa using hc
    refine qS ?_
    refine Zz [0, 1, 3, 7, 7, 31, 63, 127, 255, 255, 1023, 255, 255, 4351, 14591, 32767, 65535, 131071] 18 rfl (by kernel_rfl) ?_
    refine cM2 ?_
    refine ce eI ?_
    refine cM2 (cTM (cTM ?_))
    refine Zc (wT rfl rfl rfl rfl) rfl (fun hg => (Z18 rfl (Ze hg rfl) (Ze hg rfl) (by (try simp at hg) <;> first | omega | (simp only [List.length_map]; omega) | (simp only [List.length_map, List.length_drop]; omega)) (by (try simp at hg) <;> first | omega | (simp only [List.length_map]; omega) | (simp only [List.length_map, List.length_drop]; omega)))) ?_
    refine Zc (wT rfl rfl rfl rfl) rfl (fun hg => (Zr rfl (Ze hg rfl) rfl rfl)) ?_
    refine Zc (wT rfl rfl rfl rfl) rfl (fun hg => (Z06 rfl (Ze hg rfl))) ?_
    refine Zc (wFg rfl rfl rfl rfl) rfl (fun hg => (Z06 rfl rfl)) ?_
    refine Zc (wFg rfl rfl rfl rfl) rfl (fun hg => (Z06 rfl rfl)) ?_
    refine Zc (wFg rfl rfl rfl rfl) rfl (fun hg => (Z18 rfl (Ze hg rfl) (Ze hg rfl) (by (try simp at hg) <;> first | omega | (simp only [List.length_map]; omega) | (simp only [List.length_map, List.length_drop]; omega)) (by (try simp at hg) <;> first | omega | (simp only [List.length_map]; omega) | (simp only [List.length_map, List.length_drop]; omega)))) ?_
    refine Zc (wFg rfl rfl rfl rfl) rfl (fun hg => (Z06 rfl rfl)) ?_
    refine Zc (wFg rfl rfl rfl rfl) rfl (fun hg => (Z06 rfl rfl)) ?_
    refine Zc (wFg rfl rfl rfl rfl) rfl (fun hg => (Z9 rfl (Ze hg rfl) rfl (Z0c (by first | omega | (simp only [List.length_map]; omega))))) ?_
    refine Zc (wFg rfl rfl rfl rfl) rfl (fun hg => (Z18 rfl (Ze hg rfl) (Ze hg rfl) (by (try simp at hg) <;> first | omega | (simp only [List.length_map]; omega) | (simp only [List.length_map, List.length_drop]; omega)) (by (try simp at hg) <;> first | omega | (simp only [List.length_map]; omega) | (simp only [List.length_map, List.length_drop]; omega)))) ?_
    refine Zc (wFg rfl rfl rfl rfl) rfl (fun hg => (Zr rfl (Ze hg rfl) (Ze hg rfl) rfl)) ?_
    refine Zc (wT rfl rfl rfl rfl) rfl (fun hg => (Z1h rfl (Ze hg rfl) rfl (fun h => by first | (simp [h, hg]; done) | (rw [hg, h]; rfl) | (simp_all; done)))) ?_
    refine ce (Zs rfl rfl rfl (fun h => h)) ?_
    refine .done (qN ?_)
    refine Z2 rfl ?_ ?_
    ·intro hc
     have h0 : 0 < y.2 := by have := Z27 hc; simp at this; omega
     have h12 : stepC p s x.2.2 y.2 = true := hc
     refine qR (qM (qM (qM (qM ?_))))
     refine qe (Z9 rfl rfl rfl (Z0c (by first | omega | (simp only [List.length_map]; omega)))) ?_
     refine qe (Z1 (y.2 - 1) rfl rfl rfl (by first | omega | (simp only [List.length_map]; omega) | (simp only [List.length_map, List.length_drop]; omega)) (by first | omega | (simp only [List.length_map]; omega) | (simp only [List.length_map, List.length_drop]; omega)) (by omega)) ?_
     refine Z0e 1 (w0 rfl) rfl rfl rfl rfl (Z0g (f := fun x => [bA x]) (by first | assumption | omega | (simp only [List.length_drop]; omega))) Z3 ?_
     refine qe (Z1 y.2 rfl rfl rfl (by first | omega | (simp only [List.length_map]; omega) | (simp only [List.length_map, List.length_drop]; omega)) (by first | omega | (simp only [List.length_map]; omega) | (simp only [List.length_map, List.length_drop]; omega)) (by omega)) ?_
     refine Z41 (f := bA) 0 (fun _ => rfl) (fun _ => rfl) (w0 rfl) rfl rfl rfl rfl (by first | omega | (simp; done) | (simp; omega)) rfl ?_
     refine qN (qR (qM ?_))
     refine qe (Z9 rfl rfl rfl (Zn (by first | omega | (simp only [List.length_map]; omega)))) ?_
     refine qA (qN ?_)
     refine ⟨((y.1.set y.2 (x.2.1.getD (y.2 - 1) default)), y.2 + 1), ⟨by show (List.set _ _ _).length = _; rw [List.length_set]; exact hJ2.1, by simp only; omega, by simp only; rw [rowIn, ← hJ2.2.2, Zcy h10 h12]⟩, (by simp only; omega), ?_⟩
     exact qp [0, 1] ⟨rfl, rfl, rfl, rfl, rfl, rfl, trivial⟩
    ·intro hc
     have h12 : stepC p s x.2.2 y.2 = false := hc
     refine qK (qR (qM ?_))
     refine qe (Z9 rfl rfl rfl (Zn (by first | omega | (simp only [List.length_map]; omega)))) ?_
     refine qA (qN ?_)
     refine ⟨(y.1, y.2 + 1), ⟨hJ2.1, by simp only; omega, by simp only; rw [rowIn, ← hJ2.2.2, Zeq h10 h12]⟩, (by simp only; omega), ?_⟩
     exact qp [0, 1] ⟨rfl, rfl, rfl, rfl, rfl, rfl, trivial⟩
  ·intro hc
   have hy : ¬ y.2 ≤ s.size := by simp at hc; omega
   refine qX (qR (qM (qA (qN (qR (qM ?_))))))
   refine qe (Z9 rfl rfl rfl (Zn (by first | omega | (simp only [List.length_map]; omega)))) ?_
   refine qA (qN ?_)
   refine ⟨(id2, y.1, x.2.2 + 1), ⟨hJ2.1, by simp only; omega, by simp only; rw [hJ2.2.2, rowT, ← hJ.2.2, show y.2 = s.size + 1 by omega]⟩, (by simp only; omega), ?_⟩
   exact qp [0] ⟨rfl, rfl, rfl, rfl, trivial⟩
 ·intro hc
  have hx : ¬ x.2.2 < p.size := by simpa using hc
  refine qX (qS (qR (qM (qM ?_))))
  refine qe (Zx rfl rfl rfl rfl) ?_
  refine qe (Z1 s.size rfl rfl rfl (by first | omega | (simp only [List.length_map]; omega) | (simp only [List.length_map, List.length_drop]; omega)) (by first | omega | (simp only [List.length_map]; omega) | (simp only [List.length_map, List.length_drop]; omega)) (by omega)) ?_
  refine Z0e 0 (w0 rfl) rfl rfl rfl rfl (Z0g (f := fun b => [bA b]) (by omega)) Z3 ?_
  refine qA (qN (qE ?_))
  exact Z0p rfl (Z7 rfl Z4) (gb (by unfold globT; rw [hJ.2.2, show x.2.2 = p.size by omega]))
theorem Z7n (r : Rule) (hr : r.ok) : ACalls Tryz.prog 64 [r.av] [] (Gives (bA (ruleR r))) := by
 refine Zd (n := 26) Tryz.func64 rfl (by decide +kernel) rfl rfl ?_
 refine qS (qR ?_)
 refine Zy (w0 rfl) rfl (fun id => Z09 id rfl rfl rfl rfl rfl) (fun id1 => ?_)
 refine qA (qN (qS (qS (qR ?_))))
 refine qe (Z0 rfl rfl rfl) ?_
 refine qL 0 Z3 ?_
 refine qe (Z8 [] rfl rfl rfl (Z5r r.cls hr.cls) List.nodup_nil) ?_
 refine qe (Z03 rfl rfl) ?_
 refine qN ?_
 refine Z2 rfl ?_ ?_
 ·intro hc
  have h1 : globR r.cls = false := Z1u hc
  refine qS (qR (qA (qN (qE ?_))))
  exact Z0p rfl (Z7 rfl Z4) (gb (by unfold ruleR; rw [h1]; rfl))
 ·intro hc
  have h1 : globR r.cls = true := Z2c hc
  refine qK (qS (qS (qR ?_)))
  refine qe (Z0 rfl rfl rfl) ?_
  refine qL 0 Z3 ?_
  refine qe (Z03 rfl rfl) ?_
  refine qN ?_
  refine Z2 rfl ?_ ?_
  ·intro hc
   have h2 : r.member = false := Z1u hc
   refine qS (qR ?_)
   refine qe (Z0 rfl rfl rfl) ?_
   refine qL 0 Z3 ?_
   refine qe (Z0o rfl rfl rfl rfl) ?_
   refine qM ?_
   refine Zp (wT rfl rfl rfl rfl) rfl (fun hg => (Z0 rfl rfl rfl)) ?_
   refine Z00 0 (wT rfl rfl rfl rfl) rfl rfl (fun hg => (Ze hg rfl)) rfl rfl Z3 ?_
   refine Zp (wT rfl rfl rfl rfl) rfl (fun hg => (Z0o rfl (Ze hg rfl) rfl rfl)) ?_
   refine qe (Zs rfl rfl rfl (fun h => h)) ?_
   refine qA (qN (qE ?_))
   exact Z0p rfl (Z7 rfl Z4) (gb (by unfold ruleR; rw [h1, h2, if_neg (by simp), Bool.true_and]; rfl))
  ·intro hc
   have h2 : r.member = true := Z2c hc
   refine qK (qS (qR ?_))
   refine qe (Z0 rfl rfl rfl) ?_
   refine qL 0 Z3 ?_
   refine qe (Z8 [] rfl rfl rfl (Z5r r.name hr.name) List.nodup_nil) ?_
   refine qM ?_
   refine Zp (wT rfl rfl rfl rfl) rfl (fun hg => (Z0 rfl rfl rfl)) ?_
   refine Z00 0 (wT rfl rfl rfl rfl) rfl rfl (fun hg => (Ze hg rfl)) rfl rfl Z3 ?_
   refine Zp (wT rfl rfl rfl rfl) rfl (fun hg => (Z8 [] rfl rfl (Zg (Ze hg rfl) Z05) (Z5r r.desc hr.desc) List.nodup_nil)) ?_
   refine qe (Zs rfl rfl rfl (fun h => h)) ?_
   refine qA (qN (qE ?_))
   exact Z0p rfl (Z7 rfl Z4) (gb (by unfold ruleR; rw [h1, h2, if_pos rfl, Bool.true_and]))
theorem Zb9 (r : Rule) (hr : r.ok) (c : Str) (hc0 : small c.size) : ACalls Tryz.prog 25 [r.av, sA c] [] (Gives (bA (clsT r c))) := by
 refine Zd (n := 18) Tryz.func25 rfl (by decide +kernel) rfl rfl ?_
 refine qS (qR ?_)
 refine Zy (w0 rfl) rfl (fun id => Z09 id rfl rfl rfl rfl rfl) (fun id1 => ?_)
 refine qA (qN (qS (qR ?_)))
 refine qe (Z0 rfl rfl rfl) ?_
 refine qL 0 Z3 ?_
 refine qe (Z03 rfl rfl) ?_
 refine qM ?_
 refine Z00 0 (wT rfl rfl rfl rfl) rfl rfl (fun hg => rfl) rfl rfl (Zt (Nat.le_of_ble_eq_true rfl)) ?_
 refine Zp (wT rfl rfl rfl rfl) rfl (fun hg => (Z8 [] rfl rfl (Zg (Ze hg rfl) Z05) (Z7n r hr) List.nodup_nil)) ?_
 refine qe (Zs rfl rfl rfl (fun h => h)) ?_
 refine qM ?_
 refine Zp (wT rfl rfl rfl rfl) rfl (fun hg => (Z0 rfl rfl rfl)) ?_
 refine Z00 0 (wT rfl rfl rfl rfl) rfl rfl (fun hg => (Ze hg rfl)) rfl rfl Z3 ?_
 refine qTM ?_
 refine Zp (wT rfl rfl rfl rfl) rfl (fun hg => (Z8 [] rfl rfl (Zg (Ze hg rfl) (Zg (Ze hg rfl) Z05)) (Z49 _ _ hr.cls (by unfold small at hc0; omega)) List.nodup_nil)) ?_
 refine qe (Zs rfl rfl rfl (fun h => h)) ?_
 refine qA (qN (qE ?_))
 exact Z0p rfl (Z7 rfl Z4) (gb rfl)
theorem Zaj (r : Rule) (hr : r.ok) (c n d : Str) (hc0 : small c.size) (hn : small n.size) (hd : d.size ≤ 140737488351300) : ACalls Tryz.prog 68 [r.av, sA c, sA n, sA d] [] (Gives (bA (memT r c n d))) := by
 refine Zd (n := 37) Tryz.func68 rfl (by decide +kernel) rfl rfl ?_
 refine qS (qR ?_)
 refine Zy (w0 rfl) rfl (fun id => Z09 id rfl rfl rfl rfl rfl) (fun id1 => ?_)
 refine qA (qN (qS (qR ?_)))
 refine qe (Z0 rfl rfl rfl) ?_
 refine qL 0 Z3 ?_
 refine qM ?_
 refine Z00 0 (wT rfl rfl rfl rfl) rfl rfl (fun hg => rfl) rfl rfl (Zt (Nat.le_of_ble_eq_true rfl)) ?_
 refine Zp (wT rfl rfl rfl rfl) rfl (fun hg => (Z8 [] rfl rfl (Zg (Ze hg rfl) Z05) (Z7n r hr) List.nodup_nil)) ?_
 refine qe (Zs rfl rfl rfl (fun h => h)) ?_
 refine qM (qTM ?_)
 refine Zp (wT rfl rfl rfl rfl) rfl (fun hg => (Z0o rfl (Ze hg rfl) rfl rfl)) ?_
 refine qe (Zs rfl rfl rfl (fun h => h)) ?_
 refine qM ?_
 refine Zp (wT rfl rfl rfl rfl) rfl (fun hg => (Z0 rfl rfl rfl)) ?_
 refine Z00 0 (wT rfl rfl rfl rfl) rfl rfl (fun hg => (Ze hg rfl)) rfl rfl Z3 ?_
 refine qTM ?_
 refine Zp (wT rfl rfl rfl rfl) rfl (fun hg => (Z8 [] rfl rfl (Zg (Ze hg rfl) (Zg (Ze hg rfl) Z05)) (Z49 _ _ hr.cls (by unfold small at hc0; omega)) List.nodup_nil)) ?_
 refine qe (Zs rfl rfl rfl (fun h => h)) ?_
 refine qM ?_
 refine Zp (wT rfl rfl rfl rfl) rfl (fun hg => (Z0 rfl rfl rfl)) ?_
 refine Z00 0 (wT rfl rfl rfl rfl) rfl rfl (fun hg => (Ze hg rfl)) rfl rfl Z3 ?_
 refine qTM ?_
 refine Zp (wT rfl rfl rfl rfl) rfl (fun hg => (Z8 [] rfl rfl (Zg (Ze hg rfl) (Zg (Ze hg rfl) Z05)) (Z49 _ _ hr.name (by unfold small at hn; omega)) List.nodup_nil)) ?_
 refine qe (Zs rfl rfl rfl (fun h => h)) ?_
 refine qM ?_
 refine Zp (wT rfl rfl rfl rfl) rfl (fun hg => (Z0 rfl rfl rfl)) ?_
 refine Z00 0 (wT rfl rfl rfl rfl) rfl rfl (fun hg => (Ze hg rfl)) rfl rfl Z3 ?_
 refine qTM ?_
 refine Zp (wT rfl rfl rfl rfl) rfl (fun hg => (Z8 [] rfl rfl (Zg (Ze hg rfl) (Zg (Ze hg rfl) Z05)) (Z49 _ _ hr.desc hd) List.nodup_nil)) ?_
 refine qe (Zs rfl rfl rfl (fun h => h)) ?_
 refine qA (qN (qE ?_))
 exact Z0p rfl (Z7 rfl Z4) (gb rfl)
def bb2 (r : Bool × Bool) : AV := .tup [bA r.1, bA r.2]
theorem Z7m (l : List Rule) (hl : small l.length) (hr : ∀ r, r ∈ l → r.ok) (c n d : Str) (hc0 : small c.size) (hn : small n.size) (hd : d.size ≤ 140737488351300) : ACalls Tryz.prog 27 [.lst (l.map Rule.cells), sA c, sA n, sA d] [] (Gives (.tup [bA (anyR l (memT · c n d)), bA (nmsR l (memT · c n d))])) := by
 simp only [small] at hl
 refine Zd (n := 37) Tryz.func27 rfl (by decide +kernel) rfl rfl ?_
 refine qS (qR (qA (qA (qN (qS (qR (qA (qA (qN (qS (qS (qR (qA (qN ?_))))))))))))))
 refine qB ?_
 refine Zj (α := Nat) (fun i => ⟨[(12, iA i), (10, bA (anyR (l.take i) (memT · c n d))), (11, bA (nmsR (l.take i) (memT · c n d))), (0, .lst (l.map Rule.cells)), (1, sA c), (2, sA n), (3, sA d)], [], [], 37⟩) (fun i => i ≤ l.length) (fun i => l.length - i) 0 (Nat.zero_le _) ?_ ?_
 ·exact Zb [] ⟨rfl, rfl, rfl, rfl, rfl, rfl, rfl, trivial⟩ rfl (by decide) rfl rfl
 rintro i hJ
 refine qS (qS (qR (qM (qM ?_))))
 refine qe (Zx rfl rfl rfl rfl) ?_
 refine qe eI ?_
 refine qN ?_
 refine Z2 rfl ?_ ?_
 ·intro hc
  have hi : i < l.length := by simpa using hc
  refine qK (qS (qB (qS (qR (qM (qM ?_))))))
  refine qe (Z6 rfl rfl rfl (Z04 (fun _ => rfl)) (by first | omega | (simp only [List.length_map]; omega) | (simp only [List.length_map, List.length_drop]; omega)) (by first | omega | (simp only [List.length_map]; omega) | (simp only [List.length_map, List.length_drop]; omega))) ?_
  refine qe (Zu rfl rfl (Z0a (by first | assumption | omega | (simp only [List.length_drop]; omega))) (Zt (Nat.le_of_ble_eq_true rfl))) ?_
  refine qM (qM (qM ?_))
  refine qe (Z8 [] rfl rfl rfl (Zaj (l[i]'hi) (hr _ (List.getElem_mem _)) c n d hc0 hn hd) List.nodup_nil) ?_
  refine qN ?_
  refine Z2 rfl ?_ ?_
  ·intro hc
   have hq : memT (l[i]'hi) c n d = true := hc
   refine qS (qR (qA (qN (qR (qM (qM (qFM (qFM ?_))))))))
   refine Zp (wF rfl rfl rfl rfl) rfl (fun hg => (Z6 rfl (Ze hg rfl) (Ze hg rfl) (Z04 (fun _ => rfl)) (by (try simp at hg) <;> first | omega | (simp only [List.length_map]; omega) | (simp only [List.length_map, List.length_drop]; omega)) (by (try simp at hg) <;> first | omega | (simp only [List.length_map]; omega) | (simp only [List.length_map, List.length_drop]; omega)))) ?_
   refine Zp (wF rfl rfl rfl rfl) rfl (fun hg => (Z0 rfl (Ze hg rfl) rfl)) ?_
   refine Zp (wF rfl rfl rfl rfl) rfl (fun hg => (Zu rfl (Ze hg rfl) (Z34 (by (try simp at hg) <;> first | assumption | omega | (simp only [List.length_drop]; omega))) Z3)) ?_
   refine qe (Z1h rfl rfl rfl (fun h => by rw [h]; rfl)) ?_
   refine qA (qN (qR (qM ?_)))
   refine qe (Z9 rfl rfl rfl (Zn (by first | omega | (simp only [List.length_map]; omega)))) ?_
   refine qA (qN ?_)
   refine ⟨i + 1, hi, (by omega), ?_⟩
   exact qp [] ⟨rfl, (congrArg (fun b => some (bA b)) (by unfold anyR; rw [Z2d hi]; simp [hq])), (congrArg (fun b => some (bA b)) (by have e := Z33 hi; unfold nmsR; rw [Z2d hi]; simp only [hq, Bool.true_and]; rw [e]; rfl)), rfl, rfl, rfl, rfl, trivial⟩
  ·intro hc
   have hq : memT (l[i]'hi) c n d = false := hc
   refine qK (qR (qM ?_))
   refine qe (Z9 rfl rfl rfl (Zn (by first | omega | (simp only [List.length_map]; omega)))) ?_
   refine qA (qN ?_)
   refine ⟨i + 1, hi, (by omega), ?_⟩
   exact qp [] ⟨rfl, (congrArg (fun b => some (bA b)) (by unfold anyR; rw [Z2d hi]; simp [hq])), (congrArg (fun b => some (bA b)) (by unfold nmsR; rw [Z2d hi]; simp [hq])), rfl, rfl, rfl, rfl, trivial⟩
 ·intro hc
  have hi : ¬ i < l.length := by simpa using hc
  refine qX (qS (qR (qM (qM (qA (qA (qN (qE ?_))))))))
  exact Z0p rfl (Z7 rfl (Z7 rfl Z4)) (gvr (by rw [List.take_of_length_le (by omega)]; rfl))
theorem Z9m (t : Ty) (hs : small t.cls.size) : ACalls Tryz.prog 28 [t.av] [] (Gives (sA (textT t))) := by
 simp only [small] at hs
 refine Zd (n := 24) Tryz.func28 rfl (by decide +kernel) rfl rfl ?_
 refine qS (qR ?_)
 refine Zy (w0 rfl) rfl (fun id => Z09 id rfl rfl rfl rfl rfl) (fun id1 => ?_)
 refine qA (qN (qS (qS (qR ?_))))
 refine qL 0 (Zt (Nat.le_of_ble_eq_true rfl)) ?_
 refine qe (Z8 [] rfl rfl rfl (Zal t) List.nodup_nil) ?_
 refine qe (Z03 rfl rfl) ?_
 refine qN ?_
 refine Z2 rfl ?_ ?_
 ·intro hc
  have hr : rightT t = false := Z1u hc
  refine qS (qR (qA (qN (qE ?_))))
  exact Z0p rfl (Z7 rfl Z4) (gs (by unfold textT; rw [hr]; rfl))
 ·intro hc
  have hr : rightT t = true := Z2c hc
  refine qK (qS (qR ?_))
  refine qe (Z0 rfl rfl rfl) ?_
  refine qL 0 Z3 ?_
  refine qN (qB (qS (qR ?_)))
  refine qe eI ?_
  refine qA (qN ?_)
  refine Z2 rfl ?_ ?_
  ·intro hc
   have q1 : t.kind = 1 := by simpa using hc
   refine qS (qR (qA (qN (qE ?_))))
   exact Z0p rfl (Z7 rfl Z4) (gs (by unfold textT text0; rw [if_pos hr, if_neg (by omega), if_pos q1]))
  ·intro hc
   have q1 : ¬ t.kind = 1 := by simpa using hc
   refine qS (qR ?_)
   refine qe eI ?_
   refine qA (qN ?_)
   refine Z2 rfl ?_ ?_
   ·intro hc
    have q2 : t.kind = 2 := by simpa using hc
    refine qS (qR (qA (qN (qE ?_))))
    exact Z0p rfl (Z7 rfl Z4) (gs (by unfold textT text0; rw [if_pos hr, if_neg (by omega), if_neg q1, if_pos q2]))
   ·intro hc
    have q2 : ¬ t.kind = 2 := by simpa using hc
    refine qS (qR ?_)
    refine qe eI ?_
    refine qA (qN ?_)
    refine Z2 rfl ?_ ?_
    ·intro hc
     have q4 : t.kind = 4 := by simpa using hc
     refine qS (qR (qA (qN (qE ?_))))
     exact Z0p rfl (Z7 rfl Z4) (gs (by unfold textT text0 elemT; rw [if_pos hr, if_pos (.inl q4), if_pos q4]; decide +kernel))
    ·intro hc
     have q4 : ¬ t.kind = 4 := by simpa using hc
     refine qS (qR ?_)
     refine qe eI ?_
     refine qA (qN ?_)
     refine Z2 rfl ?_ ?_
     ·intro hc
      have q3 : t.kind = 3 := by simpa using hc
      refine qS (qR ?_)
      refine qe (Z0 rfl rfl rfl) ?_
      refine qL 0 Z3 ?_
      refine qe (Z12 rfl rfl rfl (by have k0 : ByteArray.size ⟨#[]⟩ = 0 := rfl; have k1 : ByteArray.size ⟨#[59]⟩ = 1 := rfl; have k2 : ByteArray.size ⟨#[73]⟩ = 1 := rfl; have k3 : ByteArray.size ⟨#[76]⟩ = 1 := rfl; have k4 : ByteArray.size ⟨#[86]⟩ = 1 := rfl; have k5 : ByteArray.size ⟨#[91, 73]⟩ = 2 := rfl; have k6 : ByteArray.size ⟨#[91, 76]⟩ = 2 := rfl; (try simp only [ByteArray.size_append, small] at *) <;> omega)) ?_
      refine qe (Z12 rfl rfl rfl (by have k0 : ByteArray.size ⟨#[]⟩ = 0 := rfl; have k1 : ByteArray.size ⟨#[59]⟩ = 1 := rfl; have k2 : ByteArray.size ⟨#[73]⟩ = 1 := rfl; have k3 : ByteArray.size ⟨#[76]⟩ = 1 := rfl; have k4 : ByteArray.size ⟨#[86]⟩ = 1 := rfl; have k5 : ByteArray.size ⟨#[91, 73]⟩ = 2 := rfl; have k6 : ByteArray.size ⟨#[91, 76]⟩ = 2 := rfl; (try simp only [ByteArray.size_append, small] at *) <;> omega)) ?_
      refine qA (qN (qE ?_))
      exact Z0p rfl (Z7 rfl Z4) (gs (by unfold textT text0; rw [if_pos hr, if_neg (by omega), if_neg q1, if_neg q2]))
     ·intro hc
      have q3 : ¬ t.kind = 3 := by simpa using hc
      have q5 : t.kind = 5 := by rcases Z7a hr q1 q2 q3 with h | h; exact absurd h q4; exact h
      refine qS (qR ?_)
      refine qe (Z0 rfl rfl rfl) ?_
      refine qL 0 Z3 ?_
      refine qe (Z12 rfl rfl rfl (by have k0 : ByteArray.size ⟨#[]⟩ = 0 := rfl; have k1 : ByteArray.size ⟨#[59]⟩ = 1 := rfl; have k2 : ByteArray.size ⟨#[73]⟩ = 1 := rfl; have k3 : ByteArray.size ⟨#[76]⟩ = 1 := rfl; have k4 : ByteArray.size ⟨#[86]⟩ = 1 := rfl; have k5 : ByteArray.size ⟨#[91, 73]⟩ = 2 := rfl; have k6 : ByteArray.size ⟨#[91, 76]⟩ = 2 := rfl; (try simp only [ByteArray.size_append, small] at *) <;> omega)) ?_
      refine qe (Z12 rfl rfl rfl (by have k0 : ByteArray.size ⟨#[]⟩ = 0 := rfl; have k1 : ByteArray.size ⟨#[59]⟩ = 1 := rfl; have k2 : ByteArray.size ⟨#[73]⟩ = 1 := rfl; have k3 : ByteArray.size ⟨#[76]⟩ = 1 := rfl; have k4 : ByteArray.size ⟨#[86]⟩ = 1 := rfl; have k5 : ByteArray.size ⟨#[91, 73]⟩ = 2 := rfl; have k6 : ByteArray.size ⟨#[91, 76]⟩ = 2 := rfl; (try simp only [ByteArray.size_append, small] at *) <;> omega)) ?_
      refine qA (qN (qE ?_))
      exact Z0p rfl (Z7 rfl Z4) (gs (by unfold textT text0 elemT; rw [if_pos hr, if_pos (.inr q5), if_neg q4, if_pos q5]; simp only; rw [if_neg (by omega), if_neg (by omega), ← ByteArray.append_assoc, ← ByteArray.append_assoc]; rfl))
theorem Z7h (a b : FRef) : ACalls Tryz.prog 70 [.agg a.cells, .agg b.cells] [] (Gives (bA (belF a b))) := by
 refine Zd (n := 24) Tryz.func70 rfl (by decide +kernel) rfl rfl ?_
 refine qS (qR ?_)
 refine Zy (w0 rfl) rfl (fun id => Z09 id rfl rfl rfl rfl rfl) (fun id1 => ?_)
 refine Zy (w0 rfl) rfl (fun id => Z09 id rfl rfl rfl rfl rfl) (fun id2 => ?_)
 refine qA (qN (qS (qR ?_)))
 refine qe (Z0 rfl rfl rfl) ?_
 refine qL 1 Z3 ?_
 refine qe (Z0 rfl rfl rfl) ?_
 refine qL 0 Z3 ?_
 refine qe (Z0o rfl rfl rfl rfl) ?_
 refine qM ?_
 refine Zp (wF rfl rfl rfl rfl) rfl (fun hg => (Z0 rfl rfl rfl)) ?_
 refine Z00 1 (wF rfl rfl rfl rfl) rfl rfl (fun hg => (Ze hg rfl)) rfl rfl Z3 ?_
 refine Zp (wF rfl rfl rfl rfl) rfl (fun hg => (Z0 rfl rfl rfl)) ?_
 refine Z00 0 (wF rfl rfl rfl rfl) rfl rfl (fun hg => (Ze hg rfl)) rfl rfl Z3 ?_
 refine Zp (wF rfl rfl rfl rfl) rfl (fun hg => (Z0o rfl (Ze hg rfl) (Ze hg rfl) rfl)) ?_
 refine Zp (wF rfl rfl rfl rfl) rfl (fun hg => (Z06 rfl (Ze hg rfl))) ?_
 refine Zp (wTg rfl rfl rfl rfl) rfl (fun hg => (Z0 rfl rfl rfl)) ?_
 refine Z00 1 (wTg rfl rfl rfl rfl) rfl rfl (fun hg => (Ze hg rfl)) rfl rfl Z3 ?_
 refine Zp (wTg rfl rfl rfl rfl) rfl (fun hg => (Z0 rfl rfl rfl)) ?_
 refine Z00 0 (wTg rfl rfl rfl rfl) rfl rfl (fun hg => (Ze hg rfl)) rfl rfl Z3 ?_
 refine Zp (wTg rfl rfl rfl rfl) rfl (fun hg => (Z0o rfl (Ze hg rfl) (Ze hg rfl) rfl)) ?_
 refine Zp (wF rfl rfl rfl rfl) rfl (fun hg => (Zs rfl (Ze hg rfl) rfl (fun h => by first | (simp [h, hg]; done) | (rw [hg, h]; rfl) | (simp_all; done)))) ?_
 refine qe (Z1h rfl rfl rfl (fun h => by rw [h]; rfl)) ?_
 refine qA (qN (qE ?_))
 exact Z0p rfl (Z7 rfl Z4) (gb rfl)
theorem Zak (l : List FRef) (hl : l.length ≤ 1000000) (s : FRef) : ACalls Tryz.prog 29 [.lst (l.map FRef.cells), .agg s.cells] [] (Gives (.lst ((putG belF s l).map FRef.cells))) := by
 refine Zd (n := 49) Tryz.func29 rfl (by decide +kernel) rfl rfl ?_
 refine qS (qR ?_)
 refine Zy (w0 rfl) rfl (fun id => Z09 id rfl rfl rfl rfl rfl) (fun id1 => ?_)
 refine qA (qN (qS (qR ?_)))
 refine Zy (w0 rfl) rfl (fun id => Z29 id 46 2 (.inl rfl) rfl) (fun id2 => ?_)
 refine qN (qS (qR (qA (qN (qS (qS (qR (qA (qN (qB ?_))))))))))
 refine Zj (α := Nat × List FRef × Nat × Bool) (fun x => ⟨[(7, iA x.2.2.1), (6, bA x.2.2.2), (5, .own x.1 2 0 x.2.1.length), (0, .lst (l.map FRef.cells)), (3, .ptr id1 2 0 0)], [(x.1, .rows 46 2 (x.2.1.map FRef.cells)), (id1, .rows 46 2 [s.cells])], [], 49⟩) (fun x => x.2.2.1 ≤ l.length ∧ x.2.1 ++ insB belF s (l.drop x.2.2.1) x.2.2.2 = insB belF s l false ∧ hasG (l.take x.2.2.1) s = false ∧ x.2.1.length ≤ x.2.2.1 + x.2.2.2.toNat) (fun x => l.length - x.2.2.1) (id2, [], 0, false) ⟨Nat.zero_le _, rfl, rfl, by simp⟩ ?_ ?_
 ·exact Zb [0, 1] ⟨rfl, rfl, rfl, rfl, rfl, trivial⟩ rfl (by decide) rfl rfl
 rintro x hJ
 have hb1 : x.2.2.2.toNat ≤ 1 := Bool.toNat_le _
 have hj2 := hJ.2.2.2
 refine qS (qS (qR (qM (qM ?_))))
 refine qe (Zx rfl rfl rfl rfl) ?_
 refine qe eI ?_
 refine qN ?_
 refine Z2 rfl ?_ ?_
 ·intro hc
  have hi : x.2.2.1 < l.length := by simpa using hc
  refine qK (qS (qB (qS (qS ?_))))
  refine Z0j 6 rfl (by kernel_rfl) ?_
  refine cM2 (cM2 ?_)
  refine ce (Z6 rfl rfl rfl (Z04 (fun _ => rfl)) (by first | omega | (simp only [List.length_map]; omega) | (simp only [List.length_map, List.length_drop]; omega)) (by first | omega | (simp only [List.length_map]; omega) | (simp only [List.length_map, List.length_drop]; omega))) ?_
  refine ce (Zu rfl rfl (Z0a (by first | assumption | omega | (simp only [List.length_drop]; omega))) (Zt (Nat.le_of_ble_eq_true rfl))) ?_
  refine Za 1 (w0 rfl) rfl rfl rfl rfl rfl (Zt (Nat.le_of_ble_eq_true rfl)) ?_
  refine ce (Z2v rfl rfl rfl rfl rfl) ?_
  refine .done (qN ?_)
  refine Z2 rfl ?_ ?_
  ·intro hc
   have heq : (l[x.2.2.1]'hi) = s := eqG_iff.1 (by rw [← Z9o]; exact hc)
   refine qS (qR (qM (qA (qN (qE ?_)))))
   exact Z0p rfl (Z7 rfl Z4) (gvr (by rw [Z6m belF s hi heq]; rfl))
  ·intro hc
   have hne : ¬ (l[x.2.2.1]'hi) = s := Z8x (by rw [← Z9o]; exact hc)
   refine qK (qS (qS ?_))
   refine Z0j 10 rfl (by kernel_rfl) ?_
   refine cM2 ?_
   refine ce (Z03 rfl rfl) ?_
   refine cM2 ?_
   refine Z0m 1 (wT rfl rfl rfl rfl) rfl rfl (fun hg => rfl) rfl rfl (Zt (Nat.le_of_ble_eq_true rfl)) ?_
   refine cTM (cTM ?_)
   refine Zc (wT rfl rfl rfl rfl) rfl (fun hg => (Z6 rfl (Ze hg rfl) (Ze hg rfl) (Z04 (fun _ => rfl)) (by (try simp at hg) <;> first | omega | (simp only [List.length_map]; omega) | (simp only [List.length_map, List.length_drop]; omega)) (by (try simp at hg) <;> first | omega | (simp only [List.length_map]; omega) | (simp only [List.length_map, List.length_drop]; omega)))) ?_
   refine Zc (wT rfl rfl rfl rfl) rfl (fun hg => (Zu rfl (Ze hg rfl) (Z34 (by (try simp at hg) <;> first | assumption | omega | (simp only [List.length_drop]; omega))) (Zt (Nat.le_of_ble_eq_true rfl)))) ?_
   refine Zc (wT rfl rfl rfl rfl) rfl (fun hg => (Z8 [] rfl rfl (Zg (Ze hg rfl) (Zg (Ze hg rfl) Z05)) (Z7h s (l.getD x.2.2.1 default)) List.nodup_nil)) ?_
   refine ce (Zs rfl rfl rfl (fun h => h)) ?_
   refine .done (qN ?_)
   refine Z2 rfl ?_ ?_
   ·intro hc
    have h8 : (!x.2.2.2 && belF s (l[x.2.2.1]'hi)) = true := by rw [Z33 hi]; exact hc
    refine qS (qR (qM ?_))
    refine qL 1 (Zt (Nat.le_of_ble_eq_true rfl)) ?_
    refine Zy (w0 rfl) rfl (fun id => Zo id (ps := [(0, .tmp 32)]) rfl rfl rfl rfl rfl rfl rfl rfl) (fun id3 => ?_)
    refine Z0n 1 (w0 rfl) rfl rfl rfl rfl (by simp) rfl ⟨rfl, _, _, List.mem_of_getElem? (i := 0) rfl, by simp, rfl⟩ (by first | omega | (simp; omega) | (simp [maxLen]; omega) | (simp; done) | (simp [maxLen]; done)) (by first | omega | (simp; omega) | (simp [maxLen]; omega) | (simp; done) | (simp [maxLen]; done)) (fun id4 => ?_)
    refine qA (qN (qR (qA (qN (qR (qM (qM (qM ?_))))))))
    refine qe (Z6 rfl rfl rfl (Z04 (fun _ => rfl)) (by first | omega | (simp only [List.length_map]; omega) | (simp only [List.length_map, List.length_drop]; omega)) (by first | omega | (simp only [List.length_map]; omega) | (simp only [List.length_map, List.length_drop]; omega))) ?_
    refine qe (Zu rfl rfl (Z0a (by first | assumption | omega | (simp only [List.length_drop]; omega))) (Zt (Nat.le_of_ble_eq_true rfl))) ?_
    refine Zy (w0 rfl) rfl (fun id => Zo id (ps := [(0, .tmp 39)]) rfl rfl rfl rfl rfl rfl rfl rfl) (fun id5 => ?_)
    refine Z0n 2 (w0 rfl) rfl rfl rfl rfl (by simp) rfl ⟨rfl, _, _, List.mem_of_getElem? (i := 0) rfl, by simp, rfl⟩ (by first | omega | (simp; omega) | (simp [maxLen]; omega) | (simp; done) | (simp [maxLen]; done)) (by first | omega | (simp; omega) | (simp [maxLen]; omega) | (simp; done) | (simp [maxLen]; done)) (fun id6 => ?_)
    refine qA (qN (qR (qM ?_)))
    refine qe (Z9 rfl rfl rfl (Zn (by first | omega | (simp only [List.length_map]; omega)))) ?_
    refine qA (qN ?_)
    refine ⟨(id6, x.2.1 ++ ([s] ++ [l[x.2.2.1]'hi]), x.2.2.1 + 1, true), ⟨by show x.2.2.1 + 1 ≤ l.length; omega, by simp only; rw [List.append_assoc, ← Z9w belF s hi h8]; exact hJ.2.1, Z4e s hi hJ.2.2.1 hne, by simp only [List.length_append, List.length_cons, List.length_nil, Bool.toNat_true]; have h8' : x.2.2.2 = false := (Z1u (Z27 h8)); have h9 := hJ.2.2.2; rw [h8'] at h9; simp only [Bool.toNat_false] at h9; omega⟩, (by simp only; omega), ?_⟩
    exact Zb [2, 3] ⟨rfl, rfl, (by show some (AV.own _ _ _ _) = some (AV.own _ _ _ _); simp), rfl, rfl, trivial⟩ (by show some [(_, AObj.rows _ _ _), _] = some [(_, AObj.rows _ _ _), _]; simp [cellsA]; exact ⟨rfl, rfl⟩) (by decide) rfl rfl
   ·intro hc
    have h8 : (!x.2.2.2 && belF s (l[x.2.2.1]'hi)) = false := by rw [Z33 hi]; exact hc
    refine qK (qR (qM (qM (qM ?_))))
    refine qe (Z6 rfl rfl rfl (Z04 (fun _ => rfl)) (by first | omega | (simp only [List.length_map]; omega) | (simp only [List.length_map, List.length_drop]; omega)) (by first | omega | (simp only [List.length_map]; omega) | (simp only [List.length_map, List.length_drop]; omega))) ?_
    refine qe (Zu rfl rfl (Z0a (by first | assumption | omega | (simp only [List.length_drop]; omega))) (Zt (Nat.le_of_ble_eq_true rfl))) ?_
    refine Zy (w0 rfl) rfl (fun id => Zo id (ps := [(0, .tmp 39)]) rfl rfl rfl rfl rfl rfl rfl rfl) (fun id7 => ?_)
    refine Z0n 1 (w0 rfl) rfl rfl rfl rfl (by simp) rfl ⟨rfl, _, _, List.mem_of_getElem? (i := 0) rfl, by simp, rfl⟩ (by first | omega | (simp; omega) | (simp [maxLen]; omega) | (simp; done) | (simp [maxLen]; done)) (by first | omega | (simp; omega) | (simp [maxLen]; omega) | (simp; done) | (simp [maxLen]; done)) (fun id8 => ?_)
    refine qA (qN (qR (qM ?_)))
    refine qe (Z9 rfl rfl rfl (Zn (by first | omega | (simp only [List.length_map]; omega)))) ?_
    refine qA (qN ?_)
    refine ⟨(id8, x.2.1 ++ ([l[x.2.2.1]'hi]), x.2.2.1 + 1, x.2.2.2), ⟨by show x.2.2.1 + 1 ≤ l.length; omega, by simp only; rw [List.append_assoc, ← Zce belF s hi h8]; exact hJ.2.1, Z4e s hi hJ.2.2.1 hne, by simp only [List.length_append, List.length_cons, List.length_nil]; have h9 := hJ.2.2.2; omega⟩, (by simp only; omega), ?_⟩
    exact Zb [1, 2] ⟨rfl, rfl, (by show some (AV.own _ _ _ _) = some (AV.own _ _ _ _); simp), rfl, rfl, trivial⟩ (by show some [(_, AObj.rows _ _ _), _] = some [(_, AObj.rows _ _ _), _]; simp [cellsA]; rfl) (by decide) rfl rfl
 ·intro hc
  have hi : ¬ x.2.2.1 < l.length := by simpa using hc
  have hpe := Za2 belF s hi hJ.2.2.1 hJ.2.1
  refine qX (qS (qS (qR (qM ?_))))
  refine qe (Z03 rfl rfl) ?_
  refine qN ?_
  refine Z2 rfl ?_ ?_
  ·intro hc
   have h12 : x.2.2.2 = false := Z1u hc
   rw [h12] at hj2 hpe
   simp only [Bool.toNat_false] at hj2
   refine qR (qM ?_)
   refine qL 1 (Zt (Nat.le_of_ble_eq_true rfl)) ?_
   refine Zy (w0 rfl) rfl (fun id => Zo id (ps := [(0, .tmp 45)]) rfl rfl rfl rfl rfl rfl rfl rfl) (fun id9 => ?_)
   refine Z0n 1 (w0 rfl) rfl rfl rfl rfl (by simp) rfl ⟨rfl, _, _, List.mem_of_getElem? (i := 0) rfl, by simp, rfl⟩ (by first | omega | (simp; omega) | (simp [maxLen]; omega) | (simp; done) | (simp [maxLen]; done)) (by first | omega | (simp; omega) | (simp [maxLen]; omega) | (simp; done) | (simp [maxLen]; done)) (fun id10 => ?_)
   refine qA (qN (qS ?_))
   refine Z10 (Z3x 1 5 (T' := []) rfl rfl (by simp) trivial) ?_
   refine qR (qM (qA (qN (qE ?_))))
   exact Z0p rfl (Z7 rfl Z4) (gvr (by rw [hpe]; show AV.lst _ = AV.lst _; simp [cellsA]; rfl))
  ·intro hc
   have h12 : x.2.2.2 = true := Z2c hc
   rw [h12] at hpe
   refine qK (qS ?_)
   refine Z10 (Z3x 0 5 (T' := []) rfl rfl (by simp) trivial) ?_
   refine qR (qM (qA (qN (qE ?_))))
   exact Z0p rfl (Z7 rfl Z4) (gvr (by rw [hpe]; show AV.lst _ = AV.lst _; simp))
theorem Z6u (a b : MRef) : ACalls Tryz.prog 72 [.agg a.cells, .agg b.cells] [] (Gives (bA (belM a b))) := by
 refine Zd (n := 30) Tryz.func72 rfl (by decide +kernel) rfl rfl ?_
 refine qS (qR ?_)
 refine Zy (w0 rfl) rfl (fun id => Z09 id rfl rfl rfl rfl rfl) (fun id1 => ?_)
 refine Zy (w0 rfl) rfl (fun id => Z09 id rfl rfl rfl rfl rfl) (fun id2 => ?_)
 refine qA (qN (qS (qS (qR ?_))))
 refine qe (Z0 rfl rfl rfl) ?_
 refine qL 1 Z3 ?_
 refine qe (Z0 rfl rfl rfl) ?_
 refine qL 0 Z3 ?_
 refine qe (Z0o rfl rfl rfl rfl) ?_
 refine qN ?_
 refine Z2 rfl ?_ ?_
 ·intro hc
  have h1 : (!beqS a.cls b.cls) = true := hc
  refine qS (qR ?_)
  refine qe (Z0 rfl rfl rfl) ?_
  refine qL 1 Z3 ?_
  refine qe (Z0 rfl rfl rfl) ?_
  refine qL 0 Z3 ?_
  refine qe (Z0o rfl rfl rfl rfl) ?_
  refine qA (qN (qE ?_))
  exact Z0p rfl (Z7 rfl Z4) (gb (by unfold belM; rw [if_pos h1]; rfl))
 ·intro hc
  have h1 : (!beqS a.cls b.cls) = false := hc
  refine qK (qS (qS (qR ?_)))
  refine qe (Z0 rfl rfl rfl) ?_
  refine qL 1 Z3 ?_
  refine qe (Z0 rfl rfl rfl) ?_
  refine qL 0 Z3 ?_
  refine qe (Z0o rfl rfl rfl rfl) ?_
  refine qN ?_
  refine Z2 rfl ?_ ?_
  ·intro hc
   have h2 : (!beqS a.name b.name) = true := hc
   refine qS (qR ?_)
   refine qe (Z0 rfl rfl rfl) ?_
   refine qL 1 Z3 ?_
   refine qe (Z0 rfl rfl rfl) ?_
   refine qL 0 Z3 ?_
   refine qe (Z0o rfl rfl rfl rfl) ?_
   refine qA (qN (qE ?_))
   exact Z0p rfl (Z7 rfl Z4) (gb (by unfold belM; rw [if_neg (by rw [h1]; simp), if_pos h2]; rfl))
  ·intro hc
   have h2 : (!beqS a.name b.name) = false := hc
   refine qK (qS (qR ?_))
   refine qe (Z0 rfl rfl rfl) ?_
   refine qL 1 Z3 ?_
   refine qe (Z0 rfl rfl rfl) ?_
   refine qL 0 Z3 ?_
   refine qe (Z0o rfl rfl rfl rfl) ?_
   refine qA (qN (qE ?_))
   exact Z0p rfl (Z7 rfl Z4) (gb (by unfold belM; rw [if_neg (by rw [h1]; simp), if_neg (by rw [h2]; simp)]; rfl))
theorem Z8q (l : List MRef) (hl : l.length ≤ 1000000) (s : MRef) : ACalls Tryz.prog 31 [.lst (l.map MRef.cells), .agg s.cells] [] (Gives (.lst ((putG belM s l).map MRef.cells))) := by
 refine Zd (n := 49) Tryz.func31 rfl (by decide +kernel) rfl rfl ?_
 refine qS (qR ?_)
 refine Zy (w0 rfl) rfl (fun id => Z09 id rfl rfl rfl rfl rfl) (fun id1 => ?_)
 refine qA (qN (qS (qR ?_)))
 refine Zy (w0 rfl) rfl (fun id => Z29 id 25 3 (.inl rfl) rfl) (fun id2 => ?_)
 refine qN (qS (qR (qA (qN (qS (qS (qR (qA (qN (qB ?_))))))))))
 refine Zj (α := Nat × List MRef × Nat × Bool) (fun x => ⟨[(7, iA x.2.2.1), (6, bA x.2.2.2), (5, .own x.1 3 0 x.2.1.length), (0, .lst (l.map MRef.cells)), (3, .ptr id1 3 0 0)], [(x.1, .rows 25 3 (x.2.1.map MRef.cells)), (id1, .rows 25 3 [s.cells])], [], 49⟩) (fun x => x.2.2.1 ≤ l.length ∧ x.2.1 ++ insB belM s (l.drop x.2.2.1) x.2.2.2 = insB belM s l false ∧ hasG (l.take x.2.2.1) s = false ∧ x.2.1.length ≤ x.2.2.1 + x.2.2.2.toNat) (fun x => l.length - x.2.2.1) (id2, [], 0, false) ⟨Nat.zero_le _, rfl, rfl, by simp⟩ ?_ ?_
 ·exact Zb [0, 1] ⟨rfl, rfl, rfl, rfl, rfl, trivial⟩ rfl (by decide) rfl rfl
 rintro x hJ
 have hb1 : x.2.2.2.toNat ≤ 1 := Bool.toNat_le _
 have hj2 := hJ.2.2.2
 refine qS (qS (qR (qM (qM ?_))))
 refine qe (Zx rfl rfl rfl rfl) ?_
 refine qe eI ?_
 refine qN ?_
 refine Z2 rfl ?_ ?_
 ·intro hc
  have hi : x.2.2.1 < l.length := by simpa using hc
  refine qK (qS (qB (qS (qS ?_))))
  refine Z0j 6 rfl (by kernel_rfl) ?_
  refine cM2 (cM2 ?_)
  refine ce (Z6 rfl rfl rfl (Z04 (fun _ => rfl)) (by first | omega | (simp only [List.length_map]; omega) | (simp only [List.length_map, List.length_drop]; omega)) (by first | omega | (simp only [List.length_map]; omega) | (simp only [List.length_map, List.length_drop]; omega))) ?_
  refine ce (Zu rfl rfl (Z0a (by first | assumption | omega | (simp only [List.length_drop]; omega))) (Zt (Nat.le_of_ble_eq_true rfl))) ?_
  refine Za 1 (w0 rfl) rfl rfl rfl rfl rfl (Zt (Nat.le_of_ble_eq_true rfl)) ?_
  refine ce (Z2v rfl rfl rfl rfl rfl) ?_
  refine .done (qN ?_)
  refine Z2 rfl ?_ ?_
  ·intro hc
   have heq : (l[x.2.2.1]'hi) = s := eqG_iff.1 (by rw [← Z9p]; exact hc)
   refine qS (qR (qM (qA (qN (qE ?_)))))
   exact Z0p rfl (Z7 rfl Z4) (gvr (by rw [Z6m belM s hi heq]; rfl))
  ·intro hc
   have hne : ¬ (l[x.2.2.1]'hi) = s := Z8x (by rw [← Z9p]; exact hc)
   refine qK (qS (qS ?_))
   refine Z0j 10 rfl (by kernel_rfl) ?_
   refine cM2 ?_
   refine ce (Z03 rfl rfl) ?_
   refine cM2 ?_
   refine Z0m 1 (wT rfl rfl rfl rfl) rfl rfl (fun hg => rfl) rfl rfl (Zt (Nat.le_of_ble_eq_true rfl)) ?_
   refine cTM (cTM ?_)
   refine Zc (wT rfl rfl rfl rfl) rfl (fun hg => (Z6 rfl (Ze hg rfl) (Ze hg rfl) (Z04 (fun _ => rfl)) (by (try simp at hg) <;> first | omega | (simp only [List.length_map]; omega) | (simp only [List.length_map, List.length_drop]; omega)) (by (try simp at hg) <;> first | omega | (simp only [List.length_map]; omega) | (simp only [List.length_map, List.length_drop]; omega)))) ?_
   refine Zc (wT rfl rfl rfl rfl) rfl (fun hg => (Zu rfl (Ze hg rfl) (Z34 (by (try simp at hg) <;> first | assumption | omega | (simp only [List.length_drop]; omega))) (Zt (Nat.le_of_ble_eq_true rfl)))) ?_
   refine Zc (wT rfl rfl rfl rfl) rfl (fun hg => (Z8 [] rfl rfl (Zg (Ze hg rfl) (Zg (Ze hg rfl) Z05)) (Z6u s (l.getD x.2.2.1 default)) List.nodup_nil)) ?_
   refine ce (Zs rfl rfl rfl (fun h => h)) ?_
   refine .done (qN ?_)
   refine Z2 rfl ?_ ?_
   ·intro hc
    have h8 : (!x.2.2.2 && belM s (l[x.2.2.1]'hi)) = true := by rw [Z33 hi]; exact hc
    refine qS (qR (qM ?_))
    refine qL 1 (Zt (Nat.le_of_ble_eq_true rfl)) ?_
    refine Zy (w0 rfl) rfl (fun id => Zo id (ps := [(0, .tmp 32)]) rfl rfl rfl rfl rfl rfl rfl rfl) (fun id3 => ?_)
    refine Z0n 1 (w0 rfl) rfl rfl rfl rfl (by simp) rfl ⟨rfl, _, _, List.mem_of_getElem? (i := 0) rfl, by simp, rfl⟩ (by first | omega | (simp; omega) | (simp [maxLen]; omega) | (simp; done) | (simp [maxLen]; done)) (by first | omega | (simp; omega) | (simp [maxLen]; omega) | (simp; done) | (simp [maxLen]; done)) (fun id4 => ?_)
    refine qA (qN (qR (qA (qN (qR (qM (qM (qM ?_))))))))
    refine qe (Z6 rfl rfl rfl (Z04 (fun _ => rfl)) (by first | omega | (simp only [List.length_map]; omega) | (simp only [List.length_map, List.length_drop]; omega)) (by first | omega | (simp only [List.length_map]; omega) | (simp only [List.length_map, List.length_drop]; omega))) ?_
    refine qe (Zu rfl rfl (Z0a (by first | assumption | omega | (simp only [List.length_drop]; omega))) (Zt (Nat.le_of_ble_eq_true rfl))) ?_
    refine Zy (w0 rfl) rfl (fun id => Zo id (ps := [(0, .tmp 39)]) rfl rfl rfl rfl rfl rfl rfl rfl) (fun id5 => ?_)
    refine Z0n 2 (w0 rfl) rfl rfl rfl rfl (by simp) rfl ⟨rfl, _, _, List.mem_of_getElem? (i := 0) rfl, by simp, rfl⟩ (by first | omega | (simp; omega) | (simp [maxLen]; omega) | (simp; done) | (simp [maxLen]; done)) (by first | omega | (simp; omega) | (simp [maxLen]; omega) | (simp; done) | (simp [maxLen]; done)) (fun id6 => ?_)
    refine qA (qN (qR (qM ?_)))
    refine qe (Z9 rfl rfl rfl (Zn (by first | omega | (simp only [List.length_map]; omega)))) ?_
    refine qA (qN ?_)
    refine ⟨(id6, x.2.1 ++ ([s] ++ [l[x.2.2.1]'hi]), x.2.2.1 + 1, true), ⟨by show x.2.2.1 + 1 ≤ l.length; omega, by simp only; rw [List.append_assoc, ← Z9w belM s hi h8]; exact hJ.2.1, Z4e s hi hJ.2.2.1 hne, by simp only [List.length_append, List.length_cons, List.length_nil, Bool.toNat_true]; have h8' : x.2.2.2 = false := (Z1u (Z27 h8)); have h9 := hJ.2.2.2; rw [h8'] at h9; simp only [Bool.toNat_false] at h9; omega⟩, (by simp only; omega), ?_⟩
    exact Zb [2, 3] ⟨rfl, rfl, (by show some (AV.own _ _ _ _) = some (AV.own _ _ _ _); simp), rfl, rfl, trivial⟩ (by show some [(_, AObj.rows _ _ _), _] = some [(_, AObj.rows _ _ _), _]; simp [cellsA]; exact ⟨rfl, rfl⟩) (by decide) rfl rfl
   ·intro hc
    have h8 : (!x.2.2.2 && belM s (l[x.2.2.1]'hi)) = false := by rw [Z33 hi]; exact hc
    refine qK (qR (qM (qM (qM ?_))))
    refine qe (Z6 rfl rfl rfl (Z04 (fun _ => rfl)) (by first | omega | (simp only [List.length_map]; omega) | (simp only [List.length_map, List.length_drop]; omega)) (by first | omega | (simp only [List.length_map]; omega) | (simp only [List.length_map, List.length_drop]; omega))) ?_
    refine qe (Zu rfl rfl (Z0a (by first | assumption | omega | (simp only [List.length_drop]; omega))) (Zt (Nat.le_of_ble_eq_true rfl))) ?_
    refine Zy (w0 rfl) rfl (fun id => Zo id (ps := [(0, .tmp 39)]) rfl rfl rfl rfl rfl rfl rfl rfl) (fun id7 => ?_)
    refine Z0n 1 (w0 rfl) rfl rfl rfl rfl (by simp) rfl ⟨rfl, _, _, List.mem_of_getElem? (i := 0) rfl, by simp, rfl⟩ (by first | omega | (simp; omega) | (simp [maxLen]; omega) | (simp; done) | (simp [maxLen]; done)) (by first | omega | (simp; omega) | (simp [maxLen]; omega) | (simp; done) | (simp [maxLen]; done)) (fun id8 => ?_)
    refine qA (qN (qR (qM ?_)))
    refine qe (Z9 rfl rfl rfl (Zn (by first | omega | (simp only [List.length_map]; omega)))) ?_
    refine qA (qN ?_)
    refine ⟨(id8, x.2.1 ++ ([l[x.2.2.1]'hi]), x.2.2.1 + 1, x.2.2.2), ⟨by show x.2.2.1 + 1 ≤ l.length; omega, by simp only; rw [List.append_assoc, ← Zce belM s hi h8]; exact hJ.2.1, Z4e s hi hJ.2.2.1 hne, by simp only [List.length_append, List.length_cons, List.length_nil]; have h9 := hJ.2.2.2; omega⟩, (by simp only; omega), ?_⟩
    exact Zb [1, 2] ⟨rfl, rfl, (by show some (AV.own _ _ _ _) = some (AV.own _ _ _ _); simp), rfl, rfl, trivial⟩ (by show some [(_, AObj.rows _ _ _), _] = some [(_, AObj.rows _ _ _), _]; simp [cellsA]; rfl) (by decide) rfl rfl
 ·intro hc
  have hi : ¬ x.2.2.1 < l.length := by simpa using hc
  have hpe := Za2 belM s hi hJ.2.2.1 hJ.2.1
  refine qX (qS (qS (qR (qM ?_))))
  refine qe (Z03 rfl rfl) ?_
  refine qN ?_
  refine Z2 rfl ?_ ?_
  ·intro hc
   have h12 : x.2.2.2 = false := Z1u hc
   rw [h12] at hj2 hpe
   simp only [Bool.toNat_false] at hj2
   refine qR (qM ?_)
   refine qL 1 (Zt (Nat.le_of_ble_eq_true rfl)) ?_
   refine Zy (w0 rfl) rfl (fun id => Zo id (ps := [(0, .tmp 45)]) rfl rfl rfl rfl rfl rfl rfl rfl) (fun id9 => ?_)
   refine Z0n 1 (w0 rfl) rfl rfl rfl rfl (by simp) rfl ⟨rfl, _, _, List.mem_of_getElem? (i := 0) rfl, by simp, rfl⟩ (by first | omega | (simp; omega) | (simp [maxLen]; omega) | (simp; done) | (simp [maxLen]; done)) (by first | omega | (simp; omega) | (simp [maxLen]; omega) | (simp; done) | (simp [maxLen]; done)) (fun id10 => ?_)
   refine qA (qN (qS ?_))
   refine Z10 (Z3x 1 5 (T' := []) rfl rfl (by simp) trivial) ?_
   refine qR (qM (qA (qN (qE ?_))))
   exact Z0p rfl (Z7 rfl Z4) (gvr (by rw [hpe]; show AV.lst _ = AV.lst _; simp [cellsA]; rfl))
  ·intro hc
   have h12 : x.2.2.2 = true := Z2c hc
   rw [h12] at hpe
   refine qK (qS ?_)
   refine Z10 (Z3x 0 5 (T' := []) rfl rfl (by simp) trivial) ?_
   refine qR (qM (qA (qN (qE ?_))))
   exact Z0p rfl (Z7 rfl Z4) (gvr (by rw [hpe]; show AV.lst _ = AV.lst _; simp))
end Go.Sx
namespace Go.Sx
open Go Go.Proofs
theorem Z3d (l : List Str) (hl : l.length ≤ 1000000) : ACalls Tryz.prog 32 [row1 sA l] [] (Gives (row1 sA (risF l))) := by
 have hdl := Zc0 l
 refine Zd (n := 69) Tryz.func32 rfl (by decide +kernel) rfl rfl ?_
 refine qS (qR (qA (qN (qS (qR ?_)))))
 refine Zy (w0 rfl) rfl (fun id => Z29 id 9 1 (.inl rfl) rfl) (fun id1 => ?_)
 refine qN (qS (qS (qR (qA (qN (qB ?_))))))
 refine Zj (α := Nat × Nat) (fun x => ⟨[(4, iA x.2), (3, .own x.1 1 0 (dd (l.take x.2)).length), (0, row1 sA l)], [(x.1, .rows 9 1 ((dd (l.take x.2)).map fun x => [sA x]))], [], 69⟩) (fun x => x.2 ≤ l.length) (fun x => l.length - x.2) (id1, 0) (Nat.zero_le _) ?_ ?_
 ·exact Zb [0] ⟨rfl, rfl, rfl, trivial⟩ rfl (by decide) rfl rfl
 rintro x hJ
 have hdt := Zc0 (l.take x.2)
 rw [List.length_take] at hdt
 have hos : small (dd (l.take x.2)).length := by unfold small; omega
 refine qS (qS (qR (qM (qM ?_))))
 refine qe (Zx rfl rfl rfl rfl) ?_
 refine qe eI ?_
 refine qN ?_
 refine Z2 rfl ?_ ?_
 ·intro hc
  have hx : x.2 < l.length := by simpa using hc
  refine qK (qS (qB (qS (qR (qM (qM (qM ?_)))))))
  refine qe (Z6 rfl rfl rfl (Z04 (fun _ => rfl)) (by first | omega | (simp only [List.length_map]; omega) | (simp only [List.length_map, List.length_drop]; omega)) (by first | omega | (simp only [List.length_map]; omega) | (simp only [List.length_map, List.length_drop]; omega))) ?_
  refine qe (Zu rfl rfl (Z0a (by first | assumption | omega | (simp only [List.length_drop]; omega))) Z3) ?_
  refine Zb6 0 (w0 rfl) rfl rfl rfl rfl rfl (.lend (by simp) (.keep .nil)) (Zhk (dd (l.take x.2)) hos _) rfl ?_
  refine qe (Z03 rfl rfl) ?_
  refine qN ?_
  refine Z2 rfl ?_ ?_
  ·intro hc
   have hin : inL (dd (l.take x.2)) l[x.2] = false := Z1u hc
   have e : dd (l.take (x.2 + 1)) = dd (l.take x.2) ++ [l[x.2]] := by rw [Zc1 hx, ddS, hin]; rfl
   refine qR (qM (qM (qM ?_)))
   refine qe (Z6 rfl rfl rfl (Z04 (fun _ => rfl)) (by first | omega | (simp only [List.length_map]; omega) | (simp only [List.length_map, List.length_drop]; omega)) (by first | omega | (simp only [List.length_map]; omega) | (simp only [List.length_map, List.length_drop]; omega))) ?_
   refine qe (Zu rfl rfl (Z0a (by first | assumption | omega | (simp only [List.length_drop]; omega))) Z3) ?_
   refine Zy (w0 rfl) rfl (fun id => Zo id (ps := [(0, .tmp 25)]) rfl rfl rfl rfl rfl rfl rfl rfl) (fun id2 => ?_)
   refine Z0n 1 (w0 rfl) rfl rfl rfl rfl (by simp) rfl ⟨rfl, _, _, List.mem_of_getElem? (i := 0) rfl, by simp, rfl⟩ (by first | omega | (simp; omega) | (simp [maxLen]; omega) | (simp; done) | (simp [maxLen]; done)) (by first | omega | (simp; omega) | (simp [maxLen]; omega) | (simp; done) | (simp [maxLen]; done)) (fun id3 => ?_)
   refine qA (qN (qR (qM ?_)))
   refine qe (Z9 rfl rfl rfl (Zn (by first | omega | (simp only [List.length_map]; omega)))) ?_
   refine qA (qN ?_)
   refine ⟨(id3, x.2 + 1), (by show x.2 + 1 ≤ l.length; omega), (by show l.length - (x.2 + 1) < l.length - x.2; omega), ?_⟩
   exact Zb [1] ⟨rfl, (by show some (AV.own _ _ _ _) = some (AV.own _ _ _ _); first | (rw [e]; done) | (rw [e]; simp [cellsA])), rfl, trivial⟩ (by show some [(_, AObj.rows _ _ _)] = some [(_, AObj.rows _ _ _)]; first | (rw [e]; done) | (rw [e]; simp [cellsA])) (by decide) rfl rfl
  ·intro hc
   have hin : inL (dd (l.take x.2)) l[x.2] = true := Z2c hc
   have e : dd (l.take (x.2 + 1)) = dd (l.take x.2) := by rw [Zc1 hx, ddS, hin]; rfl
   refine qK (qR (qM ?_))
   refine qe (Z9 rfl rfl rfl (Zn (by first | omega | (simp only [List.length_map]; omega)))) ?_
   refine qA (qN ?_)
   refine ⟨(x.1, x.2 + 1), (by show x.2 + 1 ≤ l.length; omega), (by show l.length - (x.2 + 1) < l.length - x.2; omega), ?_⟩
   exact Zb [0] ⟨rfl, (by show some (AV.own _ _ _ _) = some (AV.own _ _ _ _); first | (rw [e]; done) | (rw [e]; simp [cellsA])), rfl, trivial⟩ (by show some [(_, AObj.rows _ _ _)] = some [(_, AObj.rows _ _ _)]; first | (rw [e]; done) | (rw [e]; simp [cellsA])) (by decide) rfl rfl
 ·intro hc
  have hx : ¬ x.2 < l.length := by simpa using hc
  have e0 : dd (l.take x.2) = dd l := by rw [List.take_of_length_le (by omega)]
  refine qX (qS (qS (qR (qA (qN (qB ?_))))))
  refine Zj (α := List Str × Nat) (fun y => ⟨[(5, iA y.2), (3, .own x.1 1 0 y.1.length)], [(x.1, .rows 9 1 (y.1.map fun x => [sA x]))], [], 69⟩) (fun y => 1 ≤ y.2 ∧ y.1.length = (dd l).length ∧ outF ((dd l).length - y.2) y.2 y.1 = risF l) (fun y => (dd l).length - y.2) (dd l, 1) ⟨Nat.le_refl _, rfl, rfl⟩ ?_ ?_
  ·exact Zb [0] ⟨rfl, (by show some (AV.own _ _ _ _) = some (AV.own _ _ _ _); rw [e0]), trivial⟩ (by show some [(_, AObj.rows _ _ _)] = some [(_, AObj.rows _ _ _)]; rw [e0]) (by decide) rfl rfl
  rintro y hJ1
  refine qS (qS (qR (qM (qM ?_))))
  refine qe (Zx rfl rfl rfl rfl) ?_
  refine qe eI ?_
  refine qN ?_
  refine Z2 rfl ?_ ?_
  ·intro hc
   have hy : y.2 < y.1.length := by simpa using hc
   refine qK (qS (qB (qS (qR (qM (qA (qN (qB ?_))))))))
   refine Zj (α := List Str × Nat) (fun z => ⟨[(6, iA z.2), (3, .own x.1 1 0 z.1.length), (5, iA y.2)], [(x.1, .rows 9 1 (z.1.map fun x => [sA x]))], [], 69⟩) (fun z => z.2 ≤ y.2 ∧ z.1.length = y.1.length ∧ insK z.2 z.1 = insK y.2 y.1) (fun z => z.2) (y.1, y.2) ⟨Nat.le_refl _, rfl, rfl⟩ ?_ ?_
   ·exact Zb [0] ⟨rfl, rfl, rfl, trivial⟩ rfl (by decide) rfl rfl
   rintro z hJ2
   refine qS (qS ?_)
   refine Zz [0, 1, 3, 7, 7, 31, 63, 7, 7, 263, 903, 1927, 4095, 8191] 14 rfl (by kernel_rfl) ?_
   refine cM2 ?_
   refine ce eI ?_
   refine cM2 (cTM (cTM ?_))
   refine Zc (wT rfl rfl rfl rfl) rfl (fun hg => (Z1 z.2 rfl (Ze hg rfl) (Ze hg rfl) (by (try simp at hg) <;> first | omega | (simp only [List.length_map]; omega) | (simp only [List.length_map, List.length_drop]; omega)) (by (try simp at hg) <;> first | omega | (simp only [List.length_map]; omega) | (simp only [List.length_map, List.length_drop]; omega)) (by omega))) ?_
   refine Z0m 0 (wT rfl rfl rfl rfl) rfl rfl (fun hg => (Ze hg rfl)) rfl (Z1d (by omega)) Z3 ?_
   refine cTM (cTM ?_)
   refine Zc (wT rfl rfl rfl rfl) rfl (fun hg => (Z9 rfl (Ze hg rfl) rfl (Z0c (by first | omega | (simp only [List.length_map]; omega))))) ?_
   refine Zc (wT rfl rfl rfl rfl) rfl (fun hg => (Z1 (z.2 - 1) rfl (Ze hg rfl) (Ze hg rfl) (by (try simp at hg) <;> first | omega | (simp only [List.length_map]; omega) | (simp only [List.length_map, List.length_drop]; omega)) (by (try simp at hg) <;> first | omega | (simp only [List.length_map]; omega) | (simp only [List.length_map, List.length_drop]; omega)) (by omega))) ?_
   refine Z0m 0 (wT rfl rfl rfl rfl) rfl rfl (fun hg => (Ze hg rfl)) rfl (Z1d (by omega)) Z3 ?_
   refine Zc (wT rfl rfl rfl rfl) rfl (fun hg => (Z0o rfl (Ze hg rfl) (Ze hg rfl) rfl)) ?_
   refine ce (Zs rfl rfl rfl (fun h => h)) ?_
   refine .done (qN ?_)
   refine Z2 rfl ?_ ?_
   ·intro hc
    have hk : 0 < z.2 := by simp at hc; omega
    have hsw := Zcg hk (by have := Z28 hc; exact this)
    refine qK (qS (qB (qS (qR (qM (qM ?_))))))
    refine qe (Z1 z.2 rfl rfl rfl (by first | omega | (simp only [List.length_map]; omega) | (simp only [List.length_map, List.length_drop]; omega)) (by first | omega | (simp only [List.length_map]; omega) | (simp only [List.length_map, List.length_drop]; omega)) (by omega)) ?_
    refine Z0e 0 (w0 rfl) rfl rfl rfl rfl (Z1d (by omega)) Z3 ?_
    refine qA (qN (qS (qR (qM (qM (qM (qM ?_)))))))
    refine qe (Z9 rfl rfl rfl (Z0c (by first | omega | (simp only [List.length_map]; omega)))) ?_
    refine qe (Z1 (z.2 - 1) rfl rfl rfl (by first | omega | (simp only [List.length_map]; omega) | (simp only [List.length_map, List.length_drop]; omega)) (by first | omega | (simp only [List.length_map]; omega) | (simp only [List.length_map, List.length_drop]; omega)) (by omega)) ?_
    refine Z0e 0 (w0 rfl) rfl rfl rfl rfl (Z1d (by omega)) Z3 ?_
    refine qe (Z1 z.2 rfl rfl rfl (by first | omega | (simp only [List.length_map]; omega) | (simp only [List.length_map, List.length_drop]; omega)) (by first | omega | (simp only [List.length_map]; omega) | (simp only [List.length_map, List.length_drop]; omega)) (by omega)) ?_
    refine Z42 0 rfl (w0 rfl) rfl rfl rfl rfl (by omega) rfl ?_
    refine qN (qR (qM (qM ?_)))
    refine qe (Z9 rfl rfl rfl (Z0c (by first | omega | (simp only [List.length_map]; omega)))) ?_
    refine qM ?_
    refine qe (Z1 (z.2 - 1) rfl rfl rfl (by first | omega | (simp only [List.length_map]; omega) | (simp only [List.length_map, List.length_drop]; omega)) (by first | omega | (simp only [List.length_map]; omega) | (simp only [List.length_map, List.length_drop]; omega)) (by omega)) ?_
    refine Z42 0 rfl (w0 rfl) rfl rfl rfl rfl (by simp; omega) rfl ?_
    refine qN (qR (qM ?_))
    refine qe (Z9 rfl rfl rfl (Z0c (by first | omega | (simp only [List.length_map]; omega)))) ?_
    refine qA (qN ?_)
    refine ⟨((z.1.set z.2 (z.1.getD (z.2 - 1) default)).set (z.2 - 1) (z.1.getD z.2 default), z.2 - 1), ⟨by show z.2 - 1 ≤ y.2; omega, by simp; omega, hsw.symm.trans hJ2.2.2⟩, (by show z.2 - 1 < z.2; omega), ?_⟩
    exact qp [0] ⟨(congrArg (fun n => some (iA n)) (by omega)), (by show some (AV.own _ _ _ _) = some (AV.own _ _ _ _); simp), rfl, trivial⟩
   ·intro hc
    have hst : z.1 = insK y.2 y.1 := by rw [← hJ2.2.2]; exact (Zcf hc).symm
    refine qX (qR (qM ?_))
    refine qe (Z9 rfl rfl rfl (Zn (by first | omega | (simp only [List.length_map]; omega)))) ?_
    refine qA (qN ?_)
    refine ⟨(z.1, y.2 + 1), ⟨by show 1 ≤ y.2 + 1; omega, by show z.1.length = _; omega, by show outF ((dd l).length - (y.2 + 1)) (y.2 + 1) z.1 = _; rw [hst, ← Zco (by omega)]; exact hJ1.2.2⟩, (by show (dd l).length - (y.2 + 1) < (dd l).length - y.2; omega), ?_⟩
    exact qp [0] ⟨rfl, rfl, trivial⟩
  ·intro hc
   have hy : ¬ y.2 < y.1.length := by simpa using hc
   have hfin : y.1 = risF l := by have := hJ1.2.2; rwa [show (dd l).length - y.2 = 0 from by omega] at this
   refine qX (qS (qR (qM (qA (qN (qE ?_))))))
   exact Z4i 0 rfl rfl rfl rfl (by simp) (by rw [← hfin]; rfl)
def gcellsW (a : Ga) (i : Ids) : List AV := [.own i.cl 1 0 a.cl.length, .lst (a.fd.map FRef.cells), .lst (a.md.map MRef.cells), .own i.cn 1 0 a.cn.length, .own i.fn 1 0 a.fn.length, .own i.mn 1 0 a.mn.length, .own i.lk 1 0 a.lk.length]
structure GaW (a : Ga) (n : Nat) : Prop where
 bd : a.bd n
 ms : ∀ m, m ∈ a.md → m.ok
theorem GaW.le {a : Ga} {n m : Nat} (h : GaW a n) (k : n ≤ m) : GaW a m := ⟨Ga.bd_le h.bd k, h.ms⟩
theorem GaW.mk' {a b : Ga} {n m : Nat} (h : GaW a n) (hm : n + 1 ≤ m) (h1 : b.cl.length ≤ a.cl.length + 1) (h2 : b.fd.length ≤ a.fd.length + 1) (h3 : b.md.length ≤ a.md.length + 1) (h4 : b.cn.length ≤ a.cn.length + 1) (h5 : b.fn.length ≤ a.fn.length + 1) (h6 : b.mn.length ≤ a.mn.length + 1) (h7 : b.lk.length ≤ a.lk.length + 1) (h8 : ∀ m, m ∈ b.md → m.ok) : GaW b m := by
 obtain ⟨⟨k1, k2, k3, k4, k5, k6, k7⟩, _⟩ := h
 exact ⟨⟨by omega, by omega, by omega, by omega, by omega, by omega, by omega⟩, h8⟩
theorem Z9z {α : Type} (l : List α) (x : α) : (l ++ [x]).length ≤ l.length + 1 := by simp
theorem le1 {α : Type} (l : List α) : l.length ≤ l.length + 1 := Nat.le_succ _
theorem Zat {a : Ga} {n : Nat} (h : GaW a n) (hn : n ≤ 100000) : (Roots.mk (risF a.cl) a.fd a.md (risF a.cn) (risF a.fn) (risF a.mn) (risF (a.lk ++ risF a.cl))).ok where
 n1 := Nat.le_trans (Z2u _) (by have := h.bd.cl; omega)
 n2 := by have := h.bd.fd; simp only; omega
 n3 := by have := h.bd.md; simp only; omega
 n4 := Nat.le_trans (Z2u _) (by have := h.bd.cn; omega)
 n5 := Nat.le_trans (Z2u _) (by have := h.bd.fn; omega)
 n6 := Nat.le_trans (Z2u _) (by have := h.bd.mn; omega)
 n7 := Nat.le_trans (Z2u _) (by have := h.bd.lk; have := h.bd.cl; have := Z2u a.cl; rw [List.length_append]; omega)
 ms := h.ms
set_option maxHeartbeats 1000000 in
theorem Zbl (p : Prog) (hp : p.ok) (hgr : greatP p = false) (l : List Rule) (hl : l.length ≤ 12) (hr : ∀ r, r ∈ l → r.ok) : ACalls Tryz.prog 9 [p.av, .lst (l.map Rule.cells)] [] (Gives (Roots.av (refRo (refG clsT memT p l p.classes.length)))) := by
 have hb := Z6k hgr
 have gl := Z3t hgr
 have hls : small l.length := by unfold small; omega
 refine Zd (n := 234) Tryz.func9 rfl (by decide +kernel) rfl rfl ?_
 refine qS (qR ?_)
 refine Zy (w0 rfl) rfl (fun id => Z09 id rfl rfl rfl rfl rfl) (fun id1 => ?_)
 refine Zy (w0 rfl) rfl (fun id => Z0b id rfl rfl rfl) (fun id2 => ?_)
 refine qN (qS (qR ?_))
 refine Zy (w0 rfl) rfl (fun id => Z0b id rfl rfl rfl) (fun id3 => ?_)
 refine qN (qS (qS ?_))
 refine Z14 (qe := 9) (qs := 1) 0 0 rfl rfl (fun q0 => ?_)
 refine Z14 (qe := 46) (qs := 2) 1 1 rfl rfl (fun q1 => ?_)
 refine Z14 (qe := 25) (qs := 3) 2 2 rfl rfl (fun q2 => ?_)
 refine Z14 (qe := 9) (qs := 1) 3 3 rfl rfl (fun q3 => ?_)
 refine Z14 (qe := 9) (qs := 1) 4 4 rfl rfl (fun q4 => ?_)
 refine Z14 (qe := 9) (qs := 1) 5 5 rfl rfl (fun q5 => ?_)
 refine Z14 (qe := 9) (qs := 1) 6 6 rfl rfl (fun q6 => ?_)
 refine Z10 (Z17 (T' := [(1, .lst (l.map Rule.cells)), (2, .ptr id1 5 0 0), (4, .ptr id2 7 0 0), (5, .ptr id3 7 0 0)]) 5 6 1 rfl rfl rfl rfl ⟨rfl, rfl, rfl, rfl, trivial⟩) ?_
 refine Z10 (Z17 (T' := [(1, .lst (l.map Rule.cells)), (2, .ptr id1 5 0 0), (4, .ptr id2 7 0 0), (5, .ptr id3 7 0 0)]) 4 5 2 rfl rfl rfl rfl ⟨rfl, rfl, rfl, rfl, trivial⟩) ?_
 refine qR (qA (qN (qB ?_)))
 refine Zj (α := Ids × Ga × Nat) (fun x => ⟨[(2, .ptr id1 5 0 0), (4, .ptr id2 7 0 0), (5, .ptr id3 7 0 0), (1, .lst (l.map Rule.cells)), (6, iA x.2.2)], [(id3, .rows 34 7 [gcellsW x.2.1 x.1]), (x.1.cl, .rows 9 1 (x.2.1.cl.map fun x => [sA x])), (x.1.cn, .rows 9 1 (x.2.1.cn.map fun x => [sA x])), (x.1.fn, .rows 9 1 (x.2.1.fn.map fun x => [sA x])), (x.1.mn, .rows 9 1 (x.2.1.mn.map fun x => [sA x])), (x.1.lk, .rows 9 1 (x.2.1.lk.map fun x => [sA x])), (id1, .rows 27 5 [p.cells]), (id2, .rows 34 7 [zRoots])], [], 234⟩) (fun x => x.2.2 ≤ p.classes.length ∧ GaW x.2.1 (300 * x.2.2) ∧ x.2.1 = refG clsT memT p l x.2.2) (fun x => p.classes.length - x.2.2) (⟨q0, 0, 0, q3, q4, q5, q6⟩, Ga.nil, 0) ⟨Nat.zero_le _, ⟨⟨Nat.zero_le _, Nat.zero_le _, Nat.zero_le _, Nat.zero_le _, Nat.zero_le _, Nat.zero_le _, Nat.zero_le _⟩, nofun⟩, rfl⟩ ?_ ?_
 ·exact Zb [5, 4, 3, 2, 1, 0, 7, 6] ⟨rfl, rfl, rfl, rfl, rfl, trivial⟩ rfl (by decide) rfl rfl
 rintro x hJ
 refine qS (qS (qR (qM ?_)))
 refine qe (Z0 rfl rfl rfl) ?_
 refine qL 6 Z3 ?_
 refine qe (Zx rfl rfl rfl rfl) ?_
 refine qe eI ?_
 refine qN ?_
 refine Z2 rfl ?_ ?_
 ·intro hc
  have hx : x.2.2 < p.classes.length := by simpa using hc
  have hcx := hp.classes.2 (p.classes[x.2.2]'hx) (List.getElem_mem _)
  have glx := gl.2 (p.classes[x.2.2]'hx) (List.getElem_mem _)
  refine qK (qS (qB (qS (qR ?_))))
  refine qe (Z0 rfl rfl rfl) ?_
  refine qL 6 Z3 ?_
  refine qM ?_
  refine qe (Z6 rfl rfl rfl (Z04 (fun _ => rfl)) (by first | omega | (simp only [List.length_map]; omega) | (simp only [List.length_map, List.length_drop]; omega)) (by first | omega | (simp only [List.length_map]; omega) | (simp only [List.length_map, List.length_drop]; omega))) ?_
  refine qe (Zu rfl rfl (Z0a (by first | assumption | omega | (simp only [List.length_drop]; omega))) (Zt (Nat.le_of_ble_eq_true rfl))) ?_
  refine Zy (w0 rfl) rfl (fun id => Z0b id rfl rfl rfl) (fun id4 => ?_)
  refine Zw 0 (w0 rfl) rfl rfl rfl rfl rfl rfl rfl rfl rfl ?_
  refine qN (qS (qS (qR (qA (qN (qB ?_))))))
  refine Zj (α := Ids × Ga × Nat) (fun y => ⟨[(2, .ptr id1 5 0 0), (4, .ptr id2 7 0 0), (5, .ptr id3 7 0 0), (1, .lst (l.map Rule.cells)), (6, iA x.2.2), (7, .ptr id4 7 0 0), (8, iA y.2.2)], [(id3, .rows 34 7 [gcellsW y.2.1 y.1]), (y.1.cl, .rows 9 1 (y.2.1.cl.map fun x => [sA x])), (y.1.cn, .rows 9 1 (y.2.1.cn.map fun x => [sA x])), (y.1.fn, .rows 9 1 (y.2.1.fn.map fun x => [sA x])), (y.1.mn, .rows 9 1 (y.2.1.mn.map fun x => [sA x])), (y.1.lk, .rows 9 1 (y.2.1.lk.map fun x => [sA x])), (id1, .rows 27 5 [p.cells]), (id2, .rows 34 7 [zRoots]), (id4, .rows 53 7 [(p.classes[x.2.2]'hx).cells])], [], 234⟩) (fun y => y.2.2 ≤ l.length ∧ GaW y.2.1 (300 * x.2.2 + y.2.2) ∧ y.2.1 = (l.take y.2.2).foldl (rS clsT (p.classes[x.2.2]'hx)) x.2.1) (fun y => l.length - y.2.2) (x.1, x.2.1, 0) ⟨Nat.zero_le _, hJ.2.1, rfl⟩ ?_ ?_
  ·exact Zb [1, 2, 3, 4, 5, 6, 7, 8, 0] ⟨rfl, rfl, rfl, rfl, rfl, rfl, rfl, trivial⟩ rfl (by decide) rfl rfl
  rintro y hJ1
  have b1 := hJ1.2.1.bd.cl
  have b2 := hJ1.2.1.bd.cn
  refine qS (qS (qR (qM (qM ?_))))
  refine qe (Zx rfl rfl rfl rfl) ?_
  refine qe eI ?_
  refine qN ?_
  refine Z2 rfl ?_ ?_
  ·intro hc
   have hy : y.2.2 < l.length := by simpa using hc
   refine qK (qS (qB (qS ?_)))
   refine Z0j 7 rfl (by kernel_rfl) ?_
   refine cM2 (cM2 ?_)
   refine ce (Z6 rfl rfl rfl (Z04 (fun _ => rfl)) (by first | omega | (simp only [List.length_map]; omega) | (simp only [List.length_map, List.length_drop]; omega)) (by first | omega | (simp only [List.length_map]; omega) | (simp only [List.length_map, List.length_drop]; omega))) ?_
   refine ce (Zu rfl rfl (Z0a (by first | assumption | omega | (simp only [List.length_drop]; omega))) (Zt (Nat.le_of_ble_eq_true rfl))) ?_
   refine ce (Z0 rfl rfl rfl) ?_
   refine Za 8 (w0 rfl) rfl rfl rfl rfl rfl Z3 ?_
   refine ce (Z8 [] rfl rfl rfl (Zb9 (l[y.2.2]'hy) (hr _ (List.getElem_mem _)) _ hcx.name) List.nodup_nil) ?_
   refine .done (qN ?_)
   refine Z2 rfl ?_ ?_
   ·intro hc
    have h9 : clsT (l[y.2.2]'hy) (p.classes[x.2.2]'hx).name = true := hc
    refine qS (qR ?_)
    refine qe (Z0 rfl rfl rfl) ?_
    refine qL 0 Z3 ?_
    refine qe (Z0 rfl rfl rfl) ?_
    refine qL 8 Z3 ?_
    refine Zy (w0 rfl) rfl (fun id => Zo id (ps := [(0, .tmp 51)]) rfl rfl rfl rfl rfl rfl rfl rfl) (fun id5 => ?_)
    refine Z0n 2 (w0 rfl) rfl rfl rfl rfl (by simp) rfl ⟨rfl, _, _, List.mem_of_getElem? (i := 0) rfl, by simp, rfl⟩ (by first | omega | (simp; omega) | (simp [maxLen]; omega) | (simp; done) | (simp [maxLen]; done)) (by first | omega | (simp; omega) | (simp [maxLen]; omega) | (simp; done) | (simp [maxLen]; done)) (fun id6 => ?_)
    refine qe (Z0 rfl rfl rfl) ?_
    refine Zw 1 (w0 rfl) rfl rfl rfl rfl rfl rfl rfl rfl rfl ?_
    refine qN (qS (qR (qM (qM ?_))))
    refine qe (Z6 rfl rfl rfl (Z04 (fun _ => rfl)) (by first | omega | (simp only [List.length_map]; omega) | (simp only [List.length_map, List.length_drop]; omega)) (by first | omega | (simp only [List.length_map]; omega) | (simp only [List.length_map, List.length_drop]; omega))) ?_
    refine qe (Z0 rfl rfl rfl) ?_
    refine qe (Zu rfl rfl (Z0a (by first | assumption | omega | (simp only [List.length_drop]; omega))) Z3) ?_
    refine qN ?_
    refine Z2 rfl ?_ ?_
    ·intro hc
     have h11 : (l[y.2.2]'hy).names = true := hc
     refine qR ?_
     refine qe (Z0 rfl rfl rfl) ?_
     refine qL 1 Z3 ?_
     refine qe (Z0 rfl rfl rfl) ?_
     refine qL 9 Z3 ?_
     refine Zy (w0 rfl) rfl (fun id => Zo id (ps := [(0, .tmp 63)]) rfl rfl rfl rfl rfl rfl rfl rfl) (fun id7 => ?_)
     refine Z0n 4 (w0 rfl) rfl rfl rfl rfl (by simp) rfl ⟨rfl, _, _, List.mem_of_getElem? (i := 0) rfl, by simp, rfl⟩ (by first | omega | (simp; omega) | (simp [maxLen]; omega) | (simp; done) | (simp [maxLen]; done)) (by first | omega | (simp; omega) | (simp [maxLen]; omega) | (simp; done) | (simp [maxLen]; done)) (fun id8 => ?_)
     refine qe (Z0 rfl rfl rfl) ?_
     refine Zw 2 (w0 rfl) rfl rfl rfl rfl rfl rfl rfl rfl rfl ?_
     refine qN (qR (qM ?_))
     refine qe (Z9 rfl rfl rfl (Zn (by first | omega | (simp only [List.length_map]; omega)))) ?_
     refine qA (qN ?_)
     refine ⟨(⟨id6, 0, 0, id8, y.1.fn, y.1.mn, y.1.lk⟩, ⟨y.2.1.cl ++ [(p.classes[x.2.2]'hx).name], y.2.1.fd, y.2.1.md, y.2.1.cn ++ [(p.classes[x.2.2]'hx).name], y.2.1.fn, y.2.1.mn, y.2.1.lk⟩, y.2.2 + 1), ⟨by show y.2.2 + 1 ≤ l.length; omega, (hJ1.2.1.mk' (by first | omega | (simp only; omega)) (Z9z _ _) (le1 _) (le1 _) (Z9z _ _) (le1 _) (le1 _) (le1 _) hJ1.2.1.ms), by simp only; rw [Z1y hy, ← hJ1.2.2]; unfold rS; rw [if_pos h9]; simp [okB, h11]⟩, (by show l.length - (y.2.2 + 1) < l.length - y.2.2; omega), ?_⟩
     exact Zb [2, 3, 4, 5, 6, 7, 8, 9, 10] ⟨rfl, rfl, rfl, rfl, rfl, rfl, rfl, trivial⟩ (by show some [(_, AObj.rows _ _ _), (_, AObj.rows _ _ _), (_, AObj.rows _ _ _), (_, AObj.rows _ _ _), (_, AObj.rows _ _ _), (_, AObj.rows _ _ _), (_, AObj.rows _ _ _), (_, AObj.rows _ _ _), (_, AObj.rows _ _ _)] = some [(_, AObj.rows _ _ _), (_, AObj.rows _ _ _), (_, AObj.rows _ _ _), (_, AObj.rows _ _ _), (_, AObj.rows _ _ _), (_, AObj.rows _ _ _), (_, AObj.rows _ _ _), (_, AObj.rows _ _ _), (_, AObj.rows _ _ _)]; simp [gcellsW, cellsA, Cls.cells, FRef.cells, Fld.av, Fld.cells, Meth.av, Meth.cells, nDot]) (by decide) rfl rfl
    ·intro hc
     have h11 : (l[y.2.2]'hy).names = false := hc
     refine qK (qR (qM ?_))
     refine qe (Z9 rfl rfl rfl (Zn (by first | omega | (simp only [List.length_map]; omega)))) ?_
     refine qA (qN ?_)
     refine ⟨(⟨id6, 0, 0, y.1.cn, y.1.fn, y.1.mn, y.1.lk⟩, ⟨y.2.1.cl ++ [(p.classes[x.2.2]'hx).name], y.2.1.fd, y.2.1.md, y.2.1.cn, y.2.1.fn, y.2.1.mn, y.2.1.lk⟩, y.2.2 + 1), ⟨by show y.2.2 + 1 ≤ l.length; omega, (hJ1.2.1.mk' (by first | omega | (simp only; omega)) (Z9z _ _) (le1 _) (le1 _) (le1 _) (le1 _) (le1 _) (le1 _) hJ1.2.1.ms), by simp only; rw [Z1y hy, ← hJ1.2.2]; unfold rS; rw [if_pos h9]; simp [okB, h11]⟩, (by show l.length - (y.2.2 + 1) < l.length - y.2.2; omega), ?_⟩
     exact Zb [1, 2, 3, 4, 5, 6, 7, 8, 9] ⟨rfl, rfl, rfl, rfl, rfl, rfl, rfl, trivial⟩ (by show some [(_, AObj.rows _ _ _), (_, AObj.rows _ _ _), (_, AObj.rows _ _ _), (_, AObj.rows _ _ _), (_, AObj.rows _ _ _), (_, AObj.rows _ _ _), (_, AObj.rows _ _ _), (_, AObj.rows _ _ _), (_, AObj.rows _ _ _)] = some [(_, AObj.rows _ _ _), (_, AObj.rows _ _ _), (_, AObj.rows _ _ _), (_, AObj.rows _ _ _), (_, AObj.rows _ _ _), (_, AObj.rows _ _ _), (_, AObj.rows _ _ _), (_, AObj.rows _ _ _), (_, AObj.rows _ _ _)]; simp [gcellsW, cellsA, Cls.cells, FRef.cells, Fld.av, Fld.cells, Meth.av, Meth.cells, nDot]) (by decide) rfl rfl
   ·intro hc
    have h9 : clsT (l[y.2.2]'hy) (p.classes[x.2.2]'hx).name = false := hc
    refine qK (qR (qM ?_))
    refine qe (Z9 rfl rfl rfl (Zn (by first | omega | (simp only [List.length_map]; omega)))) ?_
    refine qA (qN ?_)
    refine ⟨(⟨y.1.cl, 0, 0, y.1.cn, y.1.fn, y.1.mn, y.1.lk⟩, ⟨y.2.1.cl, y.2.1.fd, y.2.1.md, y.2.1.cn, y.2.1.fn, y.2.1.mn, y.2.1.lk⟩, y.2.2 + 1), ⟨by show y.2.2 + 1 ≤ l.length; omega, (hJ1.2.1.mk' (by first | omega | (simp only; omega)) (le1 _) (le1 _) (le1 _) (le1 _) (le1 _) (le1 _) (le1 _) hJ1.2.1.ms), by simp only; rw [Z1y hy, ← hJ1.2.2]; unfold rS; rw [if_neg (by rw [h9]; simp)]⟩, (by show l.length - (y.2.2 + 1) < l.length - y.2.2; omega), ?_⟩
    exact Zb [0, 1, 2, 3, 4, 5, 6, 7, 8] ⟨rfl, rfl, rfl, rfl, rfl, rfl, rfl, trivial⟩ (by show some [(_, AObj.rows _ _ _), (_, AObj.rows _ _ _), (_, AObj.rows _ _ _), (_, AObj.rows _ _ _), (_, AObj.rows _ _ _), (_, AObj.rows _ _ _), (_, AObj.rows _ _ _), (_, AObj.rows _ _ _), (_, AObj.rows _ _ _)] = some [(_, AObj.rows _ _ _), (_, AObj.rows _ _ _), (_, AObj.rows _ _ _), (_, AObj.rows _ _ _), (_, AObj.rows _ _ _), (_, AObj.rows _ _ _), (_, AObj.rows _ _ _), (_, AObj.rows _ _ _), (_, AObj.rows _ _ _)]; simp [gcellsW, cellsA, Cls.cells, FRef.cells, Fld.av, Fld.cells, Meth.av, Meth.cells, nDot]) (by decide) rfl rfl
  ·intro hc
   have hy : ¬ y.2.2 < l.length := by simpa using hc
   refine qX (qS (qS (qR (qA (qN (qB ?_))))))
   refine Zj (α := Ids × Ga × Nat) (fun z => ⟨[(2, .ptr id1 5 0 0), (4, .ptr id2 7 0 0), (5, .ptr id3 7 0 0), (1, .lst (l.map Rule.cells)), (6, iA x.2.2), (7, .ptr id4 7 0 0), (9, iA z.2.2)], [(id3, .rows 34 7 [gcellsW z.2.1 z.1]), (z.1.cl, .rows 9 1 (z.2.1.cl.map fun x => [sA x])), (z.1.cn, .rows 9 1 (z.2.1.cn.map fun x => [sA x])), (z.1.fn, .rows 9 1 (z.2.1.fn.map fun x => [sA x])), (z.1.mn, .rows 9 1 (z.2.1.mn.map fun x => [sA x])), (z.1.lk, .rows 9 1 (z.2.1.lk.map fun x => [sA x])), (id1, .rows 27 5 [p.cells]), (id2, .rows 34 7 [zRoots]), (id4, .rows 53 7 [(p.classes[x.2.2]'hx).cells])], [], 234⟩) (fun z => z.2.2 ≤ (p.classes[x.2.2]'hx).fields.length ∧ GaW z.2.1 (300 * x.2.2 + 12 + 3 * z.2.2) ∧ z.2.1 = ((p.classes[x.2.2]'hx).fields.take z.2.2).foldl (fS memT p l (p.classes[x.2.2]'hx)) y.2.1) (fun z => (p.classes[x.2.2]'hx).fields.length - z.2.2) (y.1, y.2.1, 0) ⟨Nat.zero_le _, hJ1.2.1.le (by first | omega | (simp only; omega)), rfl⟩ ?_ ?_
   ·exact Zb [0, 1, 2, 3, 4, 5, 6, 7, 8] ⟨rfl, rfl, rfl, rfl, rfl, rfl, rfl, trivial⟩ rfl (by decide) rfl rfl
   rintro z hJ2
   have b1 := hJ2.2.1.bd.cl
   have b2 := hJ2.2.1.bd.fn
   refine qS (qS (qR (qM ?_)))
   refine qe (Z0 rfl rfl rfl) ?_
   refine qL 8 Z3 ?_
   refine qe (Zx rfl rfl rfl rfl) ?_
   refine qe eI ?_
   refine qN ?_
   refine Z2 rfl ?_ ?_
   ·intro hc
    have hz : z.2.2 < (p.classes[x.2.2]'hx).fields.length := by simpa using hc
    have hfo := Z9r hp ⟨(p.classes[x.2.2]'hx).name, ((p.classes[x.2.2]'hx).fields[z.2.2]'hz).name⟩
    refine qK (qS (qB (qS ?_)))
    refine Z13 [0, 1, 0, 4, 0, 28, 60, 124, 255, 0, 1023] [10] [1, 3, 9] rfl (by kernel_rfl) ?_
    refine Zh (w0 rfl) rfl (Z0 rfl rfl rfl) rfl ?_
    refine Zl 8 (w0 rfl) rfl rfl rfl rfl rfl Z3 rfl rfl ?_
    refine Zh (w0 rfl) rfl (Z0 rfl rfl rfl) rfl ?_
    refine Zl 8 (w0 rfl) rfl rfl rfl rfl rfl Z3 rfl rfl ?_
    refine Zh (w0 rfl) rfl (Z06 rfl rfl) rfl ?_
    refine Zh (w0 rfl) rfl (Z6 rfl rfl rfl (Z04 (fun _ => rfl)) (by first | omega | (simp only [List.length_map]; omega) | (simp only [List.length_map, List.length_drop]; omega)) (by first | omega | (simp only [List.length_map]; omega) | (simp only [List.length_map, List.length_drop]; omega))) rfl ?_
    refine Zh (w0 rfl) rfl (Z0 rfl rfl rfl) rfl ?_
    refine Zh (w0 rfl) rfl (Zu rfl rfl (Z0a (by first | assumption | omega | (simp only [List.length_drop]; omega))) Z3) rfl ?_
    refine Zh (w0 rfl) rfl (Zv (y := FRef.av ⟨(p.classes[x.2.2]'hx).name, ((p.classes[x.2.2]'hx).fields[z.2.2]'hz).name⟩) (Z0k rfl rfl rfl) (rfl)) rfl ?_
    refine Z1e (w0 rfl) rfl (fun id => Z0b id rfl rfl rfl) rfl rfl (fun id9 => ?_)
    refine Z0t 0 [] (w0 rfl) rfl rfl rfl rfl rfl rfl rfl rfl rfl rfl trivial ?_
    refine .done (qS (qR ?_))
    refine qL 7 (Zt (Nat.le_of_ble_eq_true rfl)) ?_
    refine qL 0 (Zt (Nat.le_of_ble_eq_true rfl)) ?_
    refine qe (Z8 [] rfl rfl rfl (Z4u p hp ⟨(p.classes[x.2.2]'hx).name, ((p.classes[x.2.2]'hx).fields[z.2.2]'hz).name⟩) List.nodup_nil) ?_
    refine qM ?_
    refine qe (Zi rfl rfl rfl) ?_
    refine qe (Zi rfl rfl rfl) ?_
    refine Zy (w0 rfl) rfl (fun id => Z0b id rfl rfl rfl) (fun id10 => ?_)
    refine Zw 0 (w0 rfl) rfl rfl rfl rfl rfl rfl rfl rfl rfl ?_
    refine qA (qN (qS ?_))
    refine Zz [0, 0, 2, 0, 8, 0, 32, 96, 255, 511, 1023, 1023, 2047, 8191] 14 rfl (by kernel_rfl) ?_
    refine cM2 ?_
    refine ce (Z0 rfl rfl rfl) ?_
    refine Za 10 (w0 rfl) rfl rfl rfl rfl rfl Z3 ?_
    refine ce (Z0 rfl rfl rfl) ?_
    refine Za 0 (w0 rfl) rfl rfl rfl rfl rfl Z3 ?_
    refine ce (Z0 rfl rfl rfl) ?_
    refine Za 0 (w0 rfl) rfl rfl rfl rfl rfl (Zt (Nat.le_of_ble_eq_true rfl)) ?_
    refine ce (Z8 [] rfl rfl rfl (Z9m ((fldP p ⟨(p.classes[x.2.2]'hx).name, ((p.classes[x.2.2]'hx).fields[z.2.2]'hz).name⟩).getD zFl).type hfo.2) List.nodup_nil) ?_
    refine ce (Z8 [] rfl rfl rfl (Z7m l hls hr (p.classes[x.2.2]'hx).name ((fldP p ⟨(p.classes[x.2.2]'hx).name, ((p.classes[x.2.2]'hx).fields[z.2.2]'hz).name⟩).getD zFl).name (textT ((fldP p ⟨(p.classes[x.2.2]'hx).name, ((p.classes[x.2.2]'hx).fields[z.2.2]'hz).name⟩).getD zFl).type) hcx.name hfo.1 (by have := Z5a ((fldP p ⟨(p.classes[x.2.2]'hx).name, ((p.classes[x.2.2]'hx).fields[z.2.2]'hz).name⟩).getD zFl).type; have := hfo.2; unfold small at this; omega)) List.nodup_nil) ?_
    refine cM2 ?_
    refine ce (Zi rfl rfl rfl) ?_
    refine ce (Zi rfl rfl rfl) ?_
    refine ce (Z0y rfl rfl) ?_
    refine ce (Z0y rfl rfl) ?_
    refine .done (qN (qS (qS (qR (qM ?_)))))
    refine qe (Z03 rfl rfl) ?_
    refine qN ?_
    refine Z2 rfl ?_ ?_
    ·intro hc
     have h19 : (fldP p ⟨(p.classes[x.2.2]'hx).name, ((p.classes[x.2.2]'hx).fields[z.2.2]'hz).name⟩).isSome = false := Z1u hc
     refine qX (qR (qM ?_))
     refine qe (Z9 rfl rfl rfl (Zn (by first | omega | (simp only [List.length_map]; omega)))) ?_
     refine qA (qN ?_)
     refine ⟨(z.1, z.2.1, z.2.2 + 1), ⟨by show z.2.2 + 1 ≤ _; omega, hJ2.2.1.le (by first | omega | (simp only; omega)), by simp only; rw [Z1y hz, ← hJ2.2.2]; unfold fS; rw [if_neg (by rw [h19]; simp)]⟩, (by show (p.classes[x.2.2]'hx).fields.length - (z.2.2 + 1) < (p.classes[x.2.2]'hx).fields.length - z.2.2; omega), ?_⟩
     exact Zb [2, 3, 4, 5, 6, 7, 8, 9, 10] ⟨rfl, rfl, rfl, rfl, rfl, rfl, rfl, trivial⟩ (by show some [(_, AObj.rows _ _ _), (_, AObj.rows _ _ _), (_, AObj.rows _ _ _), (_, AObj.rows _ _ _), (_, AObj.rows _ _ _), (_, AObj.rows _ _ _), (_, AObj.rows _ _ _), (_, AObj.rows _ _ _), (_, AObj.rows _ _ _)] = some [(_, AObj.rows _ _ _), (_, AObj.rows _ _ _), (_, AObj.rows _ _ _), (_, AObj.rows _ _ _), (_, AObj.rows _ _ _), (_, AObj.rows _ _ _), (_, AObj.rows _ _ _), (_, AObj.rows _ _ _), (_, AObj.rows _ _ _)]; simp [gcellsW, cellsA, Cls.cells, FRef.cells, Fld.av, Fld.cells, Meth.av, Meth.cells, nDot]) (by decide) rfl rfl
    ·intro hc
     have h19 : (fldP p ⟨(p.classes[x.2.2]'hx).name, ((p.classes[x.2.2]'hx).fields[z.2.2]'hz).name⟩).isSome = true := Z2c hc
     refine qK ?_
     refine Z52 (α := Ids × Ga) (fun j20 => ⟨[(2, .ptr id1 5 0 0), (4, .ptr id2 7 0 0), (5, .ptr id3 7 0 0), (1, .lst (l.map Rule.cells)), (6, iA x.2.2), (7, .ptr id4 7 0 0), (9, iA z.2.2), (14, bA (nmsR l (fHas memT p (p.classes[x.2.2]'hx) ((p.classes[x.2.2]'hx).fields[z.2.2]'hz)))), (11, .ptr id10 4 0 0)], [(id3, .rows 34 7 [gcellsW j20.2 j20.1]), (j20.1.cl, .rows 9 1 (j20.2.cl.map fun x => [sA x])), (j20.1.cn, .rows 9 1 (j20.2.cn.map fun x => [sA x])), (j20.1.fn, .rows 9 1 (j20.2.fn.map fun x => [sA x])), (j20.1.mn, .rows 9 1 (j20.2.mn.map fun x => [sA x])), (j20.1.lk, .rows 9 1 (j20.2.lk.map fun x => [sA x])), (id1, .rows 27 5 [p.cells]), (id2, .rows 34 7 [zRoots]), (id4, .rows 53 7 [(p.classes[x.2.2]'hx).cells]), (id10, .rows 70 4 [((fldP p ⟨(p.classes[x.2.2]'hx).name, ((p.classes[x.2.2]'hx).fields[z.2.2]'hz).name⟩).getD zFl).cells])], [], 234⟩) (fun j20 => GaW j20.2 (300 * x.2.2 + 12 + 3 * z.2.2 + 1) ∧ j20.2 = fS1 memT p l (p.classes[x.2.2]'hx) z.2.1 ((p.classes[x.2.2]'hx).fields[z.2.2]'hz)) ?_ ?_
     ·skip
      refine qS (qR (qM (qN ?_)))
      refine Z2 rfl ?_ ?_
      ·intro hc
       have h20 : anyR l (fHas memT p (p.classes[x.2.2]'hx) ((p.classes[x.2.2]'hx).fields[z.2.2]'hz)) = true := hc
       refine qS (qR ?_)
       refine qe (Z0 rfl rfl rfl) ?_
       refine qL 2 Z3 ?_
       refine qL 1 (Zt (Nat.le_of_ble_eq_true rfl)) ?_
       refine qe (Z8 [] rfl rfl rfl (Zak z.2.1.fd (by have := hJ2.2.1.bd.fd; omega) ⟨(p.classes[x.2.2]'hx).name, ((p.classes[x.2.2]'hx).fields[z.2.2]'hz).name⟩) List.nodup_nil) ?_
       refine qe (Z0 rfl rfl rfl) ?_
       refine Zw 2 (w0 rfl) rfl rfl rfl rfl rfl rfl rfl rfl rfl ?_
       refine qN (qR ?_)
       refine qe (Z0 rfl rfl rfl) ?_
       refine qL 2 Z3 ?_
       refine qe (Z0 rfl rfl rfl) ?_
       refine qL 10 Z3 ?_
       refine Zy (w0 rfl) rfl (fun id => Zo id (ps := [(0, .tmp 112)]) rfl rfl rfl rfl rfl rfl rfl rfl) (fun id11 => ?_)
       refine Z0n 4 (w0 rfl) rfl rfl rfl rfl (by simp) rfl ⟨rfl, _, _, List.mem_of_getElem? (i := 0) rfl, by simp, rfl⟩ (by first | omega | (simp; omega) | (simp [maxLen]; omega) | (simp; done) | (simp [maxLen]; done)) (by first | omega | (simp; omega) | (simp [maxLen]; omega) | (simp; done) | (simp [maxLen]; done)) (fun id12 => ?_)
       refine qe (Z0 rfl rfl rfl) ?_
       refine Zw 3 (w0 rfl) rfl rfl rfl rfl rfl rfl rfl rfl rfl ?_
       refine qN ?_
       refine ⟨(⟨id12, 0, 0, z.1.cn, z.1.fn, z.1.mn, z.1.lk⟩, ⟨z.2.1.cl ++ [(p.classes[x.2.2]'hx).name], putG belF ⟨(p.classes[x.2.2]'hx).name, ((p.classes[x.2.2]'hx).fields[z.2.2]'hz).name⟩ z.2.1.fd, z.2.1.md, z.2.1.cn, z.2.1.fn, z.2.1.mn, z.2.1.lk⟩), ⟨(hJ2.2.1.mk' (by first | omega | (simp only; omega)) (Z9z _ _) (Z4h _ _ _) (le1 _) (le1 _) (le1 _) (le1 _) (le1 _) hJ2.2.1.ms), by simp only; unfold fS1; rw [if_pos h20]⟩, ?_⟩
       exact Zb [3, 4, 5, 6, 7, 8, 9, 10, 11, 1] ⟨rfl, rfl, rfl, rfl, rfl, rfl, rfl, rfl, rfl, trivial⟩ (by show some [(_, AObj.rows _ _ _), (_, AObj.rows _ _ _), (_, AObj.rows _ _ _), (_, AObj.rows _ _ _), (_, AObj.rows _ _ _), (_, AObj.rows _ _ _), (_, AObj.rows _ _ _), (_, AObj.rows _ _ _), (_, AObj.rows _ _ _), (_, AObj.rows _ _ _)] = some [(_, AObj.rows _ _ _), (_, AObj.rows _ _ _), (_, AObj.rows _ _ _), (_, AObj.rows _ _ _), (_, AObj.rows _ _ _), (_, AObj.rows _ _ _), (_, AObj.rows _ _ _), (_, AObj.rows _ _ _), (_, AObj.rows _ _ _), (_, AObj.rows _ _ _)]; simp [gcellsW, cellsA, Cls.cells, FRef.cells, Fld.av, Fld.cells, Meth.av, Meth.cells, nDot]) (by decide) rfl rfl
      ·intro hc
       have h20 : anyR l (fHas memT p (p.classes[x.2.2]'hx) ((p.classes[x.2.2]'hx).fields[z.2.2]'hz)) = false := hc
       refine qK ?_
       refine ⟨(⟨z.1.cl, 0, 0, z.1.cn, z.1.fn, z.1.mn, z.1.lk⟩, ⟨z.2.1.cl, z.2.1.fd, z.2.1.md, z.2.1.cn, z.2.1.fn, z.2.1.mn, z.2.1.lk⟩), ⟨(hJ2.2.1.mk' (by first | omega | (simp only; omega)) (le1 _) (le1 _) (le1 _) (le1 _) (le1 _) (le1 _) (le1 _) hJ2.2.1.ms), by simp only; unfold fS1; rw [if_neg (by rw [h20]; simp)]⟩, ?_⟩
       exact Zb [2, 3, 4, 5, 6, 7, 8, 9, 10, 0] ⟨rfl, rfl, rfl, rfl, rfl, rfl, rfl, rfl, rfl, trivial⟩ (by show some [(_, AObj.rows _ _ _), (_, AObj.rows _ _ _), (_, AObj.rows _ _ _), (_, AObj.rows _ _ _), (_, AObj.rows _ _ _), (_, AObj.rows _ _ _), (_, AObj.rows _ _ _), (_, AObj.rows _ _ _), (_, AObj.rows _ _ _), (_, AObj.rows _ _ _)] = some [(_, AObj.rows _ _ _), (_, AObj.rows _ _ _), (_, AObj.rows _ _ _), (_, AObj.rows _ _ _), (_, AObj.rows _ _ _), (_, AObj.rows _ _ _), (_, AObj.rows _ _ _), (_, AObj.rows _ _ _), (_, AObj.rows _ _ _), (_, AObj.rows _ _ _)]; simp [gcellsW, cellsA, Cls.cells, FRef.cells, Fld.av, Fld.cells, Meth.av, Meth.cells, nDot]) (by decide) rfl rfl
     ·rintro j20 hJ20
      have hbj := hJ20.1.bd.fn
      refine qS (qR (qM (qN ?_)))
      refine Z2 rfl ?_ ?_
      ·intro hc
       have h23 : nmsR l (fHas memT p (p.classes[x.2.2]'hx) ((p.classes[x.2.2]'hx).fields[z.2.2]'hz)) = true := hc
       refine qR ?_
       refine qe (Z0 rfl rfl rfl) ?_
       refine qL 0 Z3 ?_
       refine qe (Z0 rfl rfl rfl) ?_
       refine qL 9 Z3 ?_
       refine Zy (w0 rfl) rfl (fun id => Zo id (ps := [(0, .tmp 120)]) rfl rfl rfl rfl rfl rfl rfl rfl) (fun id13 => ?_)
       refine Z0n 4 (w0 rfl) rfl rfl rfl rfl (by simp) rfl ⟨rfl, _, _, List.mem_of_getElem? (i := 0) rfl, by simp, rfl⟩ (by first | omega | (simp; omega) | (simp [maxLen]; omega) | (simp; done) | (simp [maxLen]; done)) (by first | omega | (simp; omega) | (simp [maxLen]; omega) | (simp; done) | (simp [maxLen]; done)) (fun id14 => ?_)
       refine qe (Z0 rfl rfl rfl) ?_
       refine Zw 1 (w0 rfl) rfl rfl rfl rfl rfl rfl rfl rfl rfl ?_
       refine qN (qR (qM ?_))
       refine qe (Z9 rfl rfl rfl (Zn (by first | omega | (simp only [List.length_map]; omega)))) ?_
       refine qA (qN ?_)
       refine ⟨(⟨j20.1.cl, 0, 0, j20.1.cn, id14, j20.1.mn, j20.1.lk⟩, ⟨j20.2.cl, j20.2.fd, j20.2.md, j20.2.cn, j20.2.fn ++ [((fldP p ⟨(p.classes[x.2.2]'hx).name, ((p.classes[x.2.2]'hx).fields[z.2.2]'hz).name⟩).getD zFl).name], j20.2.mn, j20.2.lk⟩, z.2.2 + 1), ⟨by show z.2.2 + 1 ≤ _; omega, (hJ20.1.mk' (by first | omega | (simp only; omega)) (le1 _) (le1 _) (le1 _) (le1 _) (Z9z _ _) (le1 _) (le1 _) hJ20.1.ms), by simp only; rw [Z1y hz, ← hJ2.2.2]; unfold fS; rw [if_pos h19, ← hJ20.2]; unfold fS2; rw [if_pos h23]; rfl⟩, (by show (p.classes[x.2.2]'hx).fields.length - (z.2.2 + 1) < (p.classes[x.2.2]'hx).fields.length - z.2.2; omega), ?_⟩
       exact Zb [1, 2, 3, 4, 5, 6, 7, 8, 9] ⟨rfl, rfl, rfl, rfl, rfl, rfl, rfl, trivial⟩ (by show some [(_, AObj.rows _ _ _), (_, AObj.rows _ _ _), (_, AObj.rows _ _ _), (_, AObj.rows _ _ _), (_, AObj.rows _ _ _), (_, AObj.rows _ _ _), (_, AObj.rows _ _ _), (_, AObj.rows _ _ _), (_, AObj.rows _ _ _)] = some [(_, AObj.rows _ _ _), (_, AObj.rows _ _ _), (_, AObj.rows _ _ _), (_, AObj.rows _ _ _), (_, AObj.rows _ _ _), (_, AObj.rows _ _ _), (_, AObj.rows _ _ _), (_, AObj.rows _ _ _), (_, AObj.rows _ _ _)]; simp [gcellsW, cellsA, Cls.cells, FRef.cells, Fld.av, Fld.cells, Meth.av, Meth.cells, nDot]) (by decide) rfl rfl
      ·intro hc
       have h23 : nmsR l (fHas memT p (p.classes[x.2.2]'hx) ((p.classes[x.2.2]'hx).fields[z.2.2]'hz)) = false := hc
       refine qK (qR (qM ?_))
       refine qe (Z9 rfl rfl rfl (Zn (by first | omega | (simp only [List.length_map]; omega)))) ?_
       refine qA (qN ?_)
       refine ⟨(⟨j20.1.cl, 0, 0, j20.1.cn, j20.1.fn, j20.1.mn, j20.1.lk⟩, ⟨j20.2.cl, j20.2.fd, j20.2.md, j20.2.cn, j20.2.fn, j20.2.mn, j20.2.lk⟩, z.2.2 + 1), ⟨by show z.2.2 + 1 ≤ _; omega, (hJ20.1.mk' (by first | omega | (simp only; omega)) (le1 _) (le1 _) (le1 _) (le1 _) (le1 _) (le1 _) (le1 _) hJ20.1.ms), by simp only; rw [Z1y hz, ← hJ2.2.2]; unfold fS; rw [if_pos h19, ← hJ20.2]; unfold fS2; rw [if_neg (by rw [h23]; simp)]⟩, (by show (p.classes[x.2.2]'hx).fields.length - (z.2.2 + 1) < (p.classes[x.2.2]'hx).fields.length - z.2.2; omega), ?_⟩
       exact Zb [0, 1, 2, 3, 4, 5, 6, 7, 8] ⟨rfl, rfl, rfl, rfl, rfl, rfl, rfl, trivial⟩ (by show some [(_, AObj.rows _ _ _), (_, AObj.rows _ _ _), (_, AObj.rows _ _ _), (_, AObj.rows _ _ _), (_, AObj.rows _ _ _), (_, AObj.rows _ _ _), (_, AObj.rows _ _ _), (_, AObj.rows _ _ _), (_, AObj.rows _ _ _)] = some [(_, AObj.rows _ _ _), (_, AObj.rows _ _ _), (_, AObj.rows _ _ _), (_, AObj.rows _ _ _), (_, AObj.rows _ _ _), (_, AObj.rows _ _ _), (_, AObj.rows _ _ _), (_, AObj.rows _ _ _), (_, AObj.rows _ _ _)]; simp [gcellsW, cellsA, Cls.cells, FRef.cells, Fld.av, Fld.cells, Meth.av, Meth.cells, nDot]) (by decide) rfl rfl
   ·intro hc
    have hz : ¬ z.2.2 < (p.classes[x.2.2]'hx).fields.length := by simpa using hc
    refine qX (qS (qR (qA (qN (qB ?_)))))
    refine Zj (α := Ids × Ga × Nat) (fun v => ⟨[(2, .ptr id1 5 0 0), (4, .ptr id2 7 0 0), (5, .ptr id3 7 0 0), (1, .lst (l.map Rule.cells)), (6, iA x.2.2), (7, .ptr id4 7 0 0), (15, iA v.2.2)], [(id3, .rows 34 7 [gcellsW v.2.1 v.1]), (v.1.cl, .rows 9 1 (v.2.1.cl.map fun x => [sA x])), (v.1.cn, .rows 9 1 (v.2.1.cn.map fun x => [sA x])), (v.1.fn, .rows 9 1 (v.2.1.fn.map fun x => [sA x])), (v.1.mn, .rows 9 1 (v.2.1.mn.map fun x => [sA x])), (v.1.lk, .rows 9 1 (v.2.1.lk.map fun x => [sA x])), (id1, .rows 27 5 [p.cells]), (id2, .rows 34 7 [zRoots]), (id4, .rows 53 7 [(p.classes[x.2.2]'hx).cells])], [], 234⟩) (fun v => v.2.2 ≤ (p.classes[x.2.2]'hx).methods.length ∧ GaW v.2.1 (300 * x.2.2 + 140 + 3 * v.2.2) ∧ v.2.1 = ((p.classes[x.2.2]'hx).methods.take v.2.2).foldl (mS memT p l (p.classes[x.2.2]'hx)) z.2.1) (fun v => (p.classes[x.2.2]'hx).methods.length - v.2.2) (z.1, z.2.1, 0) ⟨Nat.zero_le _, hJ2.2.1.le (by first | omega | (simp only; omega)), rfl⟩ ?_ ?_
    ·exact Zb [0, 1, 2, 3, 4, 5, 6, 7, 8] ⟨rfl, rfl, rfl, rfl, rfl, rfl, rfl, trivial⟩ rfl (by decide) rfl rfl
    rintro v hJ3
    have b1 := hJ3.2.1.bd.cl
    have b2 := hJ3.2.1.bd.mn
    have b3 := hJ3.2.1.bd.lk
    refine qS (qS (qR (qM ?_)))
    refine qe (Z0 rfl rfl rfl) ?_
    refine qL 8 Z3 ?_
    refine qe (Zx rfl rfl rfl rfl) ?_
    refine qe eI ?_
    refine qN ?_
    refine Z2 rfl ?_ ?_
    ·intro hc
     have hv9 : v.2.2 < (p.classes[x.2.2]'hx).methods.length := by simpa using hc
     have hmm := hcx.methods.2 ((p.classes[x.2.2]'hx).methods[v.2.2]'hv9) (List.getElem_mem _)
     have hmo : MRef.ok ⟨(p.classes[x.2.2]'hx).name, ((p.classes[x.2.2]'hx).methods[v.2.2]'hv9).name, ((p.classes[x.2.2]'hx).methods[v.2.2]'hv9).desc⟩ := ⟨hcx.name, hmm.name, hmm.desc⟩
     have hs1 := hmm.name
     have hs2 := hmm.desc
     have hs3 := hcx.name
     have hmx := hcx.methods.2 ((p.classes[x.2.2]'hx).methods[((v.2.2 : Nat) : Int).toNat]'hv9) (List.getElem_mem _)
     have hs4 := hmx.name
     have hs5 := hmx.desc
     simp only [small] at hs1 hs2 hs3 hs4 hs5
     refine qK (qS (qB (qS (qR ?_))))
     refine qe (Z0 rfl rfl rfl) ?_
     refine qL 8 Z3 ?_
     refine qM ?_
     refine qe (Z6 rfl rfl rfl (Z04 (fun _ => rfl)) (by first | omega | (simp only [List.length_map]; omega) | (simp only [List.length_map, List.length_drop]; omega)) (by first | omega | (simp only [List.length_map]; omega) | (simp only [List.length_map, List.length_drop]; omega))) ?_
     refine qe (Zu rfl rfl (Z0a (by first | assumption | omega | (simp only [List.length_drop]; omega))) (Zt (Nat.le_of_ble_eq_true rfl))) ?_
     refine Zy (w0 rfl) rfl (fun id => Z0b id rfl rfl rfl) (fun id15 => ?_)
     refine Zw 0 (w0 rfl) rfl rfl rfl rfl rfl rfl rfl rfl rfl ?_
     refine qN (qS (qR (qM ?_)))
     refine qe (Z0 rfl rfl rfl) ?_
     refine qL 9 Z3 ?_
     refine qe (Z0 rfl rfl rfl) ?_
     refine qL 0 Z3 ?_
     refine qe (Z0 rfl rfl rfl) ?_
     refine qL 0 Z3 ?_
     refine qe (Z8 [] rfl rfl rfl (Z7m l hls hr (p.classes[x.2.2]'hx).name ((p.classes[x.2.2]'hx).methods[v.2.2]'hv9).name ((p.classes[x.2.2]'hx).methods[v.2.2]'hv9).desc hcx.name hmm.name (by omega)) List.nodup_nil) ?_
     refine qM ?_
     refine qe (Zi rfl rfl rfl) ?_
     refine qe (Zi rfl rfl rfl) ?_
     refine qA (qA (qN (qS (qR ?_))))
     refine qe (Z0 rfl rfl rfl) ?_
     refine qL 9 Z3 ?_
     refine qe (Z0 rfl rfl rfl) ?_
     refine qL 0 Z3 ?_
     refine qe (Z0 rfl rfl rfl) ?_
     refine qL 0 Z3 ?_
     refine qe (Zv (y := MRef.av ⟨(p.classes[x.2.2]'hx).name, ((p.classes[x.2.2]'hx).methods[v.2.2]'hv9).name, ((p.classes[x.2.2]'hx).methods[v.2.2]'hv9).desc⟩) (Z0k rfl rfl rfl) (rfl)) ?_
     refine Zy (w0 rfl) rfl (fun id => Z0b id rfl rfl rfl) (fun id16 => ?_)
     refine Zw 0 (w0 rfl) rfl rfl rfl rfl rfl rfl rfl rfl rfl ?_
     refine qN (qS (qR ?_))
     refine qL 8 (Zt (Nat.le_of_ble_eq_true rfl)) ?_
     refine qL 0 (Zt (Nat.le_of_ble_eq_true rfl)) ?_
     refine qe (Z8 [] rfl rfl rfl (Ze2 p hp ⟨(p.classes[x.2.2]'hx).name, ((p.classes[x.2.2]'hx).methods[v.2.2]'hv9).name, ((p.classes[x.2.2]'hx).methods[v.2.2]'hv9).desc⟩) List.nodup_nil) ?_
     refine qM ?_
     refine qe (Zi rfl rfl rfl) ?_
     refine qe (Zi rfl rfl rfl) ?_
     refine Zy (w0 rfl) rfl (fun id => Z0b id rfl rfl rfl) (fun id17 => ?_)
     refine Zw 0 (w0 rfl) rfl rfl rfl rfl rfl rfl rfl rfl rfl ?_
     refine qA (qN ?_)
     refine Z52 (α := Ids × Ga) (fun j32 => ⟨[(2, .ptr id1 5 0 0), (4, .ptr id2 7 0 0), (5, .ptr id3 7 0 0), (1, .lst (l.map Rule.cells)), (6, iA x.2.2), (7, .ptr id4 7 0 0), (15, iA v.2.2), (18, bA (nmsR l (mHas memT (p.classes[x.2.2]'hx) ((p.classes[x.2.2]'hx).methods[v.2.2]'hv9)))), (21, bA (getP p ⟨(p.classes[x.2.2]'hx).name, ((p.classes[x.2.2]'hx).methods[v.2.2]'hv9).name, ((p.classes[x.2.2]'hx).methods[v.2.2]'hv9).desc⟩).isSome), (16, .ptr id15 6 0 0)], [(id3, .rows 34 7 [gcellsW j32.2 j32.1]), (j32.1.cl, .rows 9 1 (j32.2.cl.map fun x => [sA x])), (j32.1.cn, .rows 9 1 (j32.2.cn.map fun x => [sA x])), (j32.1.fn, .rows 9 1 (j32.2.fn.map fun x => [sA x])), (j32.1.mn, .rows 9 1 (j32.2.mn.map fun x => [sA x])), (j32.1.lk, .rows 9 1 (j32.2.lk.map fun x => [sA x])), (id1, .rows 27 5 [p.cells]), (id2, .rows 34 7 [zRoots]), (id4, .rows 53 7 [(p.classes[x.2.2]'hx).cells]), (id15, .rows 56 6 [((p.classes[x.2.2]'hx).methods[v.2.2]'hv9).cells])], [], 234⟩) (fun j32 => GaW j32.2 (300 * x.2.2 + 140 + 3 * v.2.2 + 1) ∧ j32.2 = mS1 memT p l (p.classes[x.2.2]'hx) v.2.1 ((p.classes[x.2.2]'hx).methods[v.2.2]'hv9)) ?_ ?_
     ·skip
      refine qS (qR (qM (qM (qTM ?_))))
      refine qe (Zs rfl rfl rfl (fun h => h)) ?_
      refine qN ?_
      refine Z2 rfl ?_ ?_
      ·intro hc
       have h32 : (anyR l (mHas memT (p.classes[x.2.2]'hx) ((p.classes[x.2.2]'hx).methods[v.2.2]'hv9)) && (getP p ⟨(p.classes[x.2.2]'hx).name, ((p.classes[x.2.2]'hx).methods[v.2.2]'hv9).name, ((p.classes[x.2.2]'hx).methods[v.2.2]'hv9).desc⟩).isSome) = true := hc
       refine qS (qR ?_)
       refine qe (Z0 rfl rfl rfl) ?_
       refine qL 3 Z3 ?_
       refine qL 1 (Zt (Nat.le_of_ble_eq_true rfl)) ?_
       refine qe (Z8 [] rfl rfl rfl (Z8q v.2.1.md (by have := hJ3.2.1.bd.md; omega) ⟨(p.classes[x.2.2]'hx).name, ((p.classes[x.2.2]'hx).methods[v.2.2]'hv9).name, ((p.classes[x.2.2]'hx).methods[v.2.2]'hv9).desc⟩) List.nodup_nil) ?_
       refine qe (Z0 rfl rfl rfl) ?_
       refine Zw 3 (w0 rfl) rfl rfl rfl rfl rfl rfl rfl rfl rfl ?_
       refine qN (qS (qR ?_))
       refine qe (Z0 rfl rfl rfl) ?_
       refine qL 3 Z3 ?_
       refine qe (Z0 rfl rfl rfl) ?_
       refine qL 11 Z3 ?_
       refine Zy (w0 rfl) rfl (fun id => Zo id (ps := [(0, .tmp 172)]) rfl rfl rfl rfl rfl rfl rfl rfl) (fun id18 => ?_)
       refine Z0n 5 (w0 rfl) rfl rfl rfl rfl (by simp) rfl ⟨rfl, _, _, List.mem_of_getElem? (i := 0) rfl, by simp, rfl⟩ (by first | omega | (simp; omega) | (simp [maxLen]; omega) | (simp; done) | (simp [maxLen]; done)) (by first | omega | (simp; omega) | (simp [maxLen]; omega) | (simp; done) | (simp [maxLen]; done)) (fun id19 => ?_)
       refine qe (Z0 rfl rfl rfl) ?_
       refine Zw 4 (w0 rfl) rfl rfl rfl rfl rfl rfl rfl rfl rfl ?_
       refine qN (qS (qR ?_))
       refine qe (Z0 rfl rfl rfl) ?_
       refine qL 1 Z3 ?_
       refine qM ?_
       refine Zp (wT rfl rfl rfl rfl) rfl (fun hg => (Z0 rfl rfl rfl)) ?_
       refine Z00 3 (wT rfl rfl rfl rfl) rfl rfl (fun hg => (Ze hg rfl)) rfl rfl Z3 ?_
       refine Zp (wT rfl rfl rfl rfl) rfl (fun hg => (Z0o rfl (Ze hg rfl) rfl rfl)) ?_
       refine qe (Zs rfl rfl rfl (fun h => h)) ?_
       refine qN ?_
       refine Z2 rfl ?_ ?_
       ·intro hc
        have h35 : (((getP p ⟨(p.classes[x.2.2]'hx).name, ((p.classes[x.2.2]'hx).methods[v.2.2]'hv9).name, ((p.classes[x.2.2]'hx).methods[v.2.2]'hv9).desc⟩).getD zMt).static && beqS ((p.classes[x.2.2]'hx).methods[v.2.2]'hv9).desc nAsk) = true := hc
        refine qR ?_
        refine qe (Z0 rfl rfl rfl) ?_
        refine qL 4 Z3 ?_
        refine qe (Z0 rfl rfl rfl) ?_
        refine qL 12 Z3 ?_
        refine qe (Z12 rfl rfl rfl (by have k0 : ByteArray.size ⟨#[40, 41, 73]⟩ = 3 := rfl; have k1 : ByteArray.size ⟨#[46]⟩ = 1 := rfl; (try simp only [ByteArray.size_append, small] at *) <;> omega)) ?_
        refine qe (Z0 rfl rfl rfl) ?_
        refine qL 3 Z3 ?_
        refine qe (Z12 rfl rfl rfl (by have k0 : ByteArray.size ⟨#[40, 41, 73]⟩ = 3 := rfl; have k1 : ByteArray.size ⟨#[46]⟩ = 1 := rfl; (try simp only [ByteArray.size_append, small] at *) <;> omega)) ?_
        refine Zy (w0 rfl) rfl (fun id => Zo id (ps := [(0, .tmp 190)]) rfl rfl rfl rfl rfl rfl rfl rfl) (fun id20 => ?_)
        refine Z0n 10 (w0 rfl) rfl rfl rfl rfl (by simp) rfl ⟨rfl, _, _, List.mem_of_getElem? (i := 0) rfl, by simp, rfl⟩ (by first | omega | (simp; omega) | (simp [maxLen]; omega) | (simp; done) | (simp [maxLen]; done)) (by first | omega | (simp; omega) | (simp [maxLen]; omega) | (simp; done) | (simp [maxLen]; done)) (fun id21 => ?_)
        refine qe (Z0 rfl rfl rfl) ?_
        refine Zw 5 (w0 rfl) rfl rfl rfl rfl rfl rfl rfl rfl rfl ?_
        refine qN ?_
        refine ⟨(⟨id19, 0, 0, v.1.cn, v.1.fn, v.1.mn, id21⟩, ⟨v.2.1.cl ++ [(p.classes[x.2.2]'hx).name], v.2.1.fd, putG belM ⟨(p.classes[x.2.2]'hx).name, ((p.classes[x.2.2]'hx).methods[v.2.2]'hv9).name, ((p.classes[x.2.2]'hx).methods[v.2.2]'hv9).desc⟩ v.2.1.md, v.2.1.cn, v.2.1.fn, v.2.1.mn, v.2.1.lk ++ [((p.classes[x.2.2]'hx).name ++ nDot) ++ ((p.classes[x.2.2]'hx).methods[v.2.2]'hv9).name]⟩), ⟨(hJ3.2.1.mk' (by first | omega | (simp only; omega)) (Z9z _ _) (le1 _) (Z4h _ _ _) (le1 _) (le1 _) (le1 _) (Z9z _ _) (fun m hm => by rcases Z79 _ _ _ m hm with h | h; rw [h]; exact hmo; exact hJ3.2.1.ms m h)), by simp only; unfold mS1; rw [if_pos h32]; simp [okB, h35]⟩, ?_⟩
        exact Zb [5, 6, 7, 8, 9, 10, 11, 12, 13, 4] ⟨rfl, rfl, rfl, rfl, rfl, rfl, rfl, rfl, rfl, rfl, trivial⟩ (by show some [(_, AObj.rows _ _ _), (_, AObj.rows _ _ _), (_, AObj.rows _ _ _), (_, AObj.rows _ _ _), (_, AObj.rows _ _ _), (_, AObj.rows _ _ _), (_, AObj.rows _ _ _), (_, AObj.rows _ _ _), (_, AObj.rows _ _ _), (_, AObj.rows _ _ _)] = some [(_, AObj.rows _ _ _), (_, AObj.rows _ _ _), (_, AObj.rows _ _ _), (_, AObj.rows _ _ _), (_, AObj.rows _ _ _), (_, AObj.rows _ _ _), (_, AObj.rows _ _ _), (_, AObj.rows _ _ _), (_, AObj.rows _ _ _), (_, AObj.rows _ _ _)]; simp [gcellsW, cellsA, Cls.cells, FRef.cells, Fld.av, Fld.cells, Meth.av, Meth.cells, nDot]) (by decide) rfl rfl
       ·intro hc
        have h35 : (((getP p ⟨(p.classes[x.2.2]'hx).name, ((p.classes[x.2.2]'hx).methods[v.2.2]'hv9).name, ((p.classes[x.2.2]'hx).methods[v.2.2]'hv9).desc⟩).getD zMt).static && beqS ((p.classes[x.2.2]'hx).methods[v.2.2]'hv9).desc nAsk) = false := hc
        refine qK ?_
        refine ⟨(⟨id19, 0, 0, v.1.cn, v.1.fn, v.1.mn, v.1.lk⟩, ⟨v.2.1.cl ++ [(p.classes[x.2.2]'hx).name], v.2.1.fd, putG belM ⟨(p.classes[x.2.2]'hx).name, ((p.classes[x.2.2]'hx).methods[v.2.2]'hv9).name, ((p.classes[x.2.2]'hx).methods[v.2.2]'hv9).desc⟩ v.2.1.md, v.2.1.cn, v.2.1.fn, v.2.1.mn, v.2.1.lk⟩), ⟨(hJ3.2.1.mk' (by first | omega | (simp only; omega)) (Z9z _ _) (le1 _) (Z4h _ _ _) (le1 _) (le1 _) (le1 _) (le1 _) (fun m hm => by rcases Z79 _ _ _ m hm with h | h; rw [h]; exact hmo; exact hJ3.2.1.ms m h)), by simp only; unfold mS1; rw [if_pos h32]; simp [okB, h35]⟩, ?_⟩
        exact Zb [4, 5, 6, 7, 8, 9, 10, 11, 12, 3] ⟨rfl, rfl, rfl, rfl, rfl, rfl, rfl, rfl, rfl, rfl, trivial⟩ (by show some [(_, AObj.rows _ _ _), (_, AObj.rows _ _ _), (_, AObj.rows _ _ _), (_, AObj.rows _ _ _), (_, AObj.rows _ _ _), (_, AObj.rows _ _ _), (_, AObj.rows _ _ _), (_, AObj.rows _ _ _), (_, AObj.rows _ _ _), (_, AObj.rows _ _ _)] = some [(_, AObj.rows _ _ _), (_, AObj.rows _ _ _), (_, AObj.rows _ _ _), (_, AObj.rows _ _ _), (_, AObj.rows _ _ _), (_, AObj.rows _ _ _), (_, AObj.rows _ _ _), (_, AObj.rows _ _ _), (_, AObj.rows _ _ _), (_, AObj.rows _ _ _)]; simp [gcellsW, cellsA, Cls.cells, FRef.cells, Fld.av, Fld.cells, Meth.av, Meth.cells, nDot]) (by decide) rfl rfl
      ·intro hc
       have h32 : (anyR l (mHas memT (p.classes[x.2.2]'hx) ((p.classes[x.2.2]'hx).methods[v.2.2]'hv9)) && (getP p ⟨(p.classes[x.2.2]'hx).name, ((p.classes[x.2.2]'hx).methods[v.2.2]'hv9).name, ((p.classes[x.2.2]'hx).methods[v.2.2]'hv9).desc⟩).isSome) = false := hc
       refine qK ?_
       refine ⟨(⟨v.1.cl, 0, 0, v.1.cn, v.1.fn, v.1.mn, v.1.lk⟩, ⟨v.2.1.cl, v.2.1.fd, v.2.1.md, v.2.1.cn, v.2.1.fn, v.2.1.mn, v.2.1.lk⟩), ⟨(hJ3.2.1.mk' (by first | omega | (simp only; omega)) (le1 _) (le1 _) (le1 _) (le1 _) (le1 _) (le1 _) (le1 _) hJ3.2.1.ms), by simp only; unfold mS1; rw [if_neg (by rw [h32]; simp)]⟩, ?_⟩
       exact Zb [3, 4, 5, 6, 7, 8, 9, 10, 11, 2] ⟨rfl, rfl, rfl, rfl, rfl, rfl, rfl, rfl, rfl, rfl, trivial⟩ (by show some [(_, AObj.rows _ _ _), (_, AObj.rows _ _ _), (_, AObj.rows _ _ _), (_, AObj.rows _ _ _), (_, AObj.rows _ _ _), (_, AObj.rows _ _ _), (_, AObj.rows _ _ _), (_, AObj.rows _ _ _), (_, AObj.rows _ _ _), (_, AObj.rows _ _ _)] = some [(_, AObj.rows _ _ _), (_, AObj.rows _ _ _), (_, AObj.rows _ _ _), (_, AObj.rows _ _ _), (_, AObj.rows _ _ _), (_, AObj.rows _ _ _), (_, AObj.rows _ _ _), (_, AObj.rows _ _ _), (_, AObj.rows _ _ _), (_, AObj.rows _ _ _)]; simp [gcellsW, cellsA, Cls.cells, FRef.cells, Fld.av, Fld.cells, Meth.av, Meth.cells, nDot]) (by decide) rfl rfl
     ·rintro j32 hJ32
      have hbj := hJ32.1.bd.mn
      refine qS (qR (qM (qM (qTM ?_))))
      refine qe (Zs rfl rfl rfl (fun h => h)) ?_
      refine qN ?_
      refine Z2 rfl ?_ ?_
      ·intro hc
       have h37 : (nmsR l (mHas memT (p.classes[x.2.2]'hx) ((p.classes[x.2.2]'hx).methods[v.2.2]'hv9)) && (getP p ⟨(p.classes[x.2.2]'hx).name, ((p.classes[x.2.2]'hx).methods[v.2.2]'hv9).name, ((p.classes[x.2.2]'hx).methods[v.2.2]'hv9).desc⟩).isSome) = true := hc
       refine qR ?_
       refine qe (Z0 rfl rfl rfl) ?_
       refine qL 0 Z3 ?_
       refine qe (Z0 rfl rfl rfl) ?_
       refine qL 9 Z3 ?_
       refine qe (Z0 rfl rfl rfl) ?_
       refine qL 9 Z3 ?_
       refine qe (Z12 rfl rfl rfl (by have k0 : ByteArray.size ⟨#[40, 41, 73]⟩ = 3 := rfl; have k1 : ByteArray.size ⟨#[46]⟩ = 1 := rfl; (try simp only [ByteArray.size_append, small] at *) <;> omega)) ?_
       refine Zy (w0 rfl) rfl (fun id => Zo id (ps := [(0, .tmp 204)]) rfl rfl rfl rfl rfl rfl rfl rfl) (fun id22 => ?_)
       refine Z0n 5 (w0 rfl) rfl rfl rfl rfl (by simp) rfl ⟨rfl, _, _, List.mem_of_getElem? (i := 0) rfl, by simp, rfl⟩ (by first | omega | (simp; omega) | (simp [maxLen]; omega) | (simp; done) | (simp [maxLen]; done)) (by first | omega | (simp; omega) | (simp [maxLen]; omega) | (simp; done) | (simp [maxLen]; done)) (fun id23 => ?_)
       refine qe (Z0 rfl rfl rfl) ?_
       refine Zw 1 (w0 rfl) rfl rfl rfl rfl rfl rfl rfl rfl rfl ?_
       refine qN (qR (qM ?_))
       refine qe (Z9 rfl rfl rfl (Zn (by first | omega | (simp only [List.length_map]; omega)))) ?_
       refine qA (qN ?_)
       refine ⟨(⟨j32.1.cl, 0, 0, j32.1.cn, j32.1.fn, id23, j32.1.lk⟩, ⟨j32.2.cl, j32.2.fd, j32.2.md, j32.2.cn, j32.2.fn, j32.2.mn ++ [((p.classes[x.2.2]'hx).methods[v.2.2]'hv9).name ++ ((p.classes[x.2.2]'hx).methods[v.2.2]'hv9).desc], j32.2.lk⟩, v.2.2 + 1), ⟨by show v.2.2 + 1 ≤ _; omega, (hJ32.1.mk' (by first | omega | (simp only; omega)) (le1 _) (le1 _) (le1 _) (le1 _) (le1 _) (Z9z _ _) (le1 _) hJ32.1.ms), by simp only; rw [Z1y hv9, ← hJ3.2.2]; unfold mS; rw [← hJ32.2]; unfold mS2; rw [if_pos h37]⟩, (by show (p.classes[x.2.2]'hx).methods.length - (v.2.2 + 1) < (p.classes[x.2.2]'hx).methods.length - v.2.2; omega), ?_⟩
       exact Zb [1, 2, 3, 4, 5, 6, 7, 8, 9] ⟨rfl, rfl, rfl, rfl, rfl, rfl, rfl, trivial⟩ (by show some [(_, AObj.rows _ _ _), (_, AObj.rows _ _ _), (_, AObj.rows _ _ _), (_, AObj.rows _ _ _), (_, AObj.rows _ _ _), (_, AObj.rows _ _ _), (_, AObj.rows _ _ _), (_, AObj.rows _ _ _), (_, AObj.rows _ _ _)] = some [(_, AObj.rows _ _ _), (_, AObj.rows _ _ _), (_, AObj.rows _ _ _), (_, AObj.rows _ _ _), (_, AObj.rows _ _ _), (_, AObj.rows _ _ _), (_, AObj.rows _ _ _), (_, AObj.rows _ _ _), (_, AObj.rows _ _ _)]; simp [gcellsW, cellsA, Cls.cells, FRef.cells, Fld.av, Fld.cells, Meth.av, Meth.cells, nDot]) (by decide) rfl rfl
      ·intro hc
       have h37 : (nmsR l (mHas memT (p.classes[x.2.2]'hx) ((p.classes[x.2.2]'hx).methods[v.2.2]'hv9)) && (getP p ⟨(p.classes[x.2.2]'hx).name, ((p.classes[x.2.2]'hx).methods[v.2.2]'hv9).name, ((p.classes[x.2.2]'hx).methods[v.2.2]'hv9).desc⟩).isSome) = false := hc
       refine qK (qR (qM ?_))
       refine qe (Z9 rfl rfl rfl (Zn (by first | omega | (simp only [List.length_map]; omega)))) ?_
       refine qA (qN ?_)
       refine ⟨(⟨j32.1.cl, 0, 0, j32.1.cn, j32.1.fn, j32.1.mn, j32.1.lk⟩, ⟨j32.2.cl, j32.2.fd, j32.2.md, j32.2.cn, j32.2.fn, j32.2.mn, j32.2.lk⟩, v.2.2 + 1), ⟨by show v.2.2 + 1 ≤ _; omega, (hJ32.1.mk' (by first | omega | (simp only; omega)) (le1 _) (le1 _) (le1 _) (le1 _) (le1 _) (le1 _) (le1 _) hJ32.1.ms), by simp only; rw [Z1y hv9, ← hJ3.2.2]; unfold mS; rw [← hJ32.2]; unfold mS2; rw [if_neg (by rw [h37]; simp)]⟩, (by show (p.classes[x.2.2]'hx).methods.length - (v.2.2 + 1) < (p.classes[x.2.2]'hx).methods.length - v.2.2; omega), ?_⟩
       exact Zb [0, 1, 2, 3, 4, 5, 6, 7, 8] ⟨rfl, rfl, rfl, rfl, rfl, rfl, rfl, trivial⟩ (by show some [(_, AObj.rows _ _ _), (_, AObj.rows _ _ _), (_, AObj.rows _ _ _), (_, AObj.rows _ _ _), (_, AObj.rows _ _ _), (_, AObj.rows _ _ _), (_, AObj.rows _ _ _), (_, AObj.rows _ _ _), (_, AObj.rows _ _ _)] = some [(_, AObj.rows _ _ _), (_, AObj.rows _ _ _), (_, AObj.rows _ _ _), (_, AObj.rows _ _ _), (_, AObj.rows _ _ _), (_, AObj.rows _ _ _), (_, AObj.rows _ _ _), (_, AObj.rows _ _ _), (_, AObj.rows _ _ _)]; simp [gcellsW, cellsA, Cls.cells, FRef.cells, Fld.av, Fld.cells, Meth.av, Meth.cells, nDot]) (by decide) rfl rfl
    ·intro hc
     have hv9 : ¬ v.2.2 < (p.classes[x.2.2]'hx).methods.length := by simpa using hc
     refine qX (qR (qM ?_))
     refine qe (Z9 rfl rfl rfl (Zn (by first | omega | (simp only [List.length_map]; omega)))) ?_
     refine qA (qN ?_)
     refine ⟨(v.1, v.2.1, x.2.2 + 1), ⟨by show x.2.2 + 1 ≤ _; omega, hJ3.2.1.le (by first | omega | (simp only; omega)), by simp only; rw [hJ3.2.2, Z5w hv9, hJ2.2.2, Z5w hz, hJ1.2.2, Z5w hy, hJ.2.2]; unfold refG; rw [Z1y hx]; rfl⟩, (by show p.classes.length - (x.2.2 + 1) < p.classes.length - x.2.2; omega), ?_⟩
     exact qp [0, 1, 2, 3, 4, 5, 6, 7] ⟨rfl, rfl, rfl, rfl, rfl, trivial⟩
 ·intro hc
  have hx : ¬ x.2.2 < p.classes.length := by simpa using hc
  have b1 := hJ.2.1.bd.cl
  have b2 := hJ.2.1.bd.cn
  have b3 := hJ.2.1.bd.fn
  have b4 := hJ.2.1.bd.mn
  have b5 := hJ.2.1.bd.lk
  have hxl := hJ.1
  have gl1 := gl.1
  have b6 := Z2u x.2.1.cl
  refine qX (qS ?_)
  refine Z10 (Z17 (T' := [(2, .ptr id1 5 0 0), (4, .ptr id2 7 0 0), (5, .ptr id3 7 0 0)]) 1 0 0 rfl rfl rfl (by simp) ⟨rfl, rfl, rfl, trivial⟩) ?_
  refine Z10 (Z17 (T' := [(2, .ptr id1 5 0 0), (4, .ptr id2 7 0 0), (5, .ptr id3 7 0 0)]) 1 0 3 rfl rfl rfl (by simp) ⟨rfl, rfl, rfl, trivial⟩) ?_
  refine Z10 (Z17 (T' := [(2, .ptr id1 5 0 0), (4, .ptr id2 7 0 0), (5, .ptr id3 7 0 0)]) 1 0 4 rfl rfl rfl (by simp) ⟨rfl, rfl, rfl, trivial⟩) ?_
  refine Z10 (Z17 (T' := [(2, .ptr id1 5 0 0), (4, .ptr id2 7 0 0), (5, .ptr id3 7 0 0)]) 1 0 5 rfl rfl rfl (by simp) ⟨rfl, rfl, rfl, trivial⟩) ?_
  refine qR ?_
  refine qe (Z0 rfl rfl rfl) ?_
  refine qL 0 Z3 ?_
  refine qe (Z8 [] rfl rfl rfl (Z3d x.2.1.cl (by omega)) List.nodup_nil) ?_
  refine qe (Z0 rfl rfl rfl) ?_
  refine Zw 0 (w0 rfl) rfl rfl rfl rfl rfl rfl rfl rfl rfl ?_
  refine qN (qS (qR ?_))
  refine qe (Z0 rfl rfl rfl) ?_
  refine qL 0 Z3 ?_
  refine qA (qN (qS (qR (qM ?_))))
  refine qe (Z0 rfl rfl rfl) ?_
  refine qL 0 Z3 ?_
  refine Z0n 1 (w0 rfl) rfl rfl rfl rfl (by simp) rfl ⟨rfl, Z04 (fun _ => rfl)⟩ (by first | omega | (simp; omega) | (simp [maxLen]; omega) | (simp; done) | (simp [maxLen]; done)) (by first | omega | (simp; omega) | (simp [maxLen]; omega) | (simp; done) | (simp [maxLen]; done)) (fun id24 => ?_)
  refine qA (qN (qS ?_))
  refine Z10 (Z3x 1 22 (T' := [(2, .ptr id1 5 0 0), (4, .ptr id2 7 0 0), (5, .ptr id3 7 0 0)]) rfl rfl (by simp) ⟨rfl, rfl, rfl, trivial⟩) ?_
  refine Z10 (s' := ⟨[(22, row1 sA (x.2.1.lk ++ risF x.2.1.cl)), (2, .ptr id1 5 0 0), (4, .ptr id2 7 0 0), (5, .ptr id3 7 0 0)], [(id3, .rows 34 7 [[row1 sA (risF x.2.1.cl), .lst (x.2.1.fd.map FRef.cells), .lst (x.2.1.md.map MRef.cells), row1 sA x.2.1.cn, row1 sA x.2.1.fn, row1 sA x.2.1.mn, .own x.1.lk 1 0 x.2.1.lk.length]]), (id1, .rows 27 5 [p.cells]), (id2, .rows 34 7 [zRoots])], [], 234⟩) (Zb [0, 1, 2] ⟨congrArg some (congrArg AV.lst (by simp)), rfl, rfl, rfl, trivial⟩ rfl (by decide) rfl rfl) ?_
  refine qR (qM ?_)
  refine qe (Z8 [] rfl rfl rfl (Z3d (x.2.1.lk ++ risF x.2.1.cl) (by have := Z2u x.2.1.cl; rw [List.length_append]; omega)) List.nodup_nil) ?_
  refine qe (Z0 rfl rfl rfl) ?_
  refine Zw 0 (w0 rfl) rfl rfl rfl rfl rfl rfl rfl rfl rfl ?_
  refine qN (qS (qR ?_))
  refine qe (Z0 rfl rfl rfl) ?_
  refine qL 0 Z3 ?_
  refine qe (Z8 [] rfl rfl rfl (Z3d x.2.1.cn (by omega)) List.nodup_nil) ?_
  refine qe (Z0 rfl rfl rfl) ?_
  refine Zw 0 (w0 rfl) rfl rfl rfl rfl rfl rfl rfl rfl rfl ?_
  refine qN (qS (qR ?_))
  refine qe (Z0 rfl rfl rfl) ?_
  refine qL 0 Z3 ?_
  refine qe (Z8 [] rfl rfl rfl (Z3d x.2.1.fn (by omega)) List.nodup_nil) ?_
  refine qe (Z0 rfl rfl rfl) ?_
  refine Zw 0 (w0 rfl) rfl rfl rfl rfl rfl rfl rfl rfl rfl ?_
  refine qN (qS (qR ?_))
  refine qe (Z0 rfl rfl rfl) ?_
  refine qL 0 Z3 ?_
  refine qe (Z8 [] rfl rfl rfl (Z3d x.2.1.mn (by omega)) List.nodup_nil) ?_
  refine qe (Z0 rfl rfl rfl) ?_
  refine Zw 0 (w0 rfl) rfl rfl rfl rfl rfl rfl rfl rfl rfl ?_
  refine qN (qS (qR ?_))
  refine qL 0 (Zt (Nat.le_of_ble_eq_true rfl)) ?_
  refine Zw 2 (w0 rfl) rfl rfl rfl rfl rfl rfl rfl rfl rfl ?_
  refine qN (qE ?_)
  exact Z0p rfl (Z1b 2 rfl rfl rfl (Zt (Nat.le_of_ble_eq_true rfl)) Z4) (gvr (by rw [← show x.2.2 = p.classes.length by omega, ← hJ.2.2]; rfl))
theorem Zaf (p : Prog) (hp : p.ok) (r : Roots) (hr : r.ok) : ACalls Tryz.prog 13 [p.av, r.av] [] (Gives (.lst ((exactR p r).map Rule.cells))) := by
 have n1 := hr.n1
 have n2 := hr.n2
 have n3 := hr.n3
 have n4 := hr.n4
 have n5 := hr.n5
 have n6 := hr.n6
 have s4 : small r.classNames.length := by unfold small; omega
 have s5 : small r.fieldNames.length := by unfold small; omega
 have s6 : small r.methodNames.length := by unfold small; omega
 refine Zd (n := 112) Tryz.func13 rfl (by decide +kernel) rfl rfl ?_
 refine qS (qR ?_)
 refine Zy (w0 rfl) rfl (fun id => Z09 id rfl rfl rfl rfl rfl) (fun id1 => ?_)
 refine Zy (w0 rfl) rfl (fun id => Z09 id rfl rfl rfl rfl rfl) (fun id2 => ?_)
 refine qA (qN (qS (qR ?_)))
 refine Zy (w0 rfl) rfl (fun id => Z29 id 63 5 (.inl rfl) rfl) (fun id3 => ?_)
 refine qN (qS (qS (qR (qA (qN (qB ?_))))))
 refine Zj (α := Nat × Nat) (fun x => ⟨[(5, .own x.1 5 0 ((r.classes.take x.2).map (exC r)).length), (6, iA x.2), (2, .ptr id1 5 0 0), (3, .ptr id2 7 0 0)], [(x.1, .rows 63 5 (((r.classes.take x.2).map (exC r)).map Rule.cells)), (id1, .rows 27 5 [p.cells]), (id2, .rows 34 7 [r.cells])], [], 112⟩) (fun x => x.2 ≤ r.classes.length) (fun x => r.classes.length - x.2) (id3, 0) (Nat.zero_le _) ?_ ?_
 ·exact Zb [0, 2, 1] ⟨rfl, rfl, rfl, rfl, trivial⟩ rfl (by decide) rfl rfl
 rintro x hJ
 refine qS (qS (qR (qM ?_)))
 refine qe (Z0 rfl rfl rfl) ?_
 refine qL 2 Z3 ?_
 refine qe (Zx rfl rfl rfl rfl) ?_
 refine qe eI ?_
 refine qN ?_
 refine Z2 rfl ?_ ?_
 ·intro hc
  have hi : x.2 < r.classes.length := by simpa using hc
  have ex : ((r.classes.take (x.2 + 1)).map (exC r)) = ((r.classes.take x.2).map (exC r)) ++ [exC r r.classes[x.2]] := map_take hi
  have hln : (r.classes.take x.2).length ≤ x.2 := List.length_take_le _ _
  refine qK (qS (qB ?_))
  refine Z13 [0, 0, 2, 0, 8, 0, 56, 120, 254, 0, 512, 0, 3584, 7680, 16382, 32766, 65535, 131071] [16] [2, 4, 10, 15] rfl (by kernel_rfl) ?_
  refine Zh (w0 rfl) rfl (Z06 rfl rfl) rfl ?_
  refine Zh (w0 rfl) rfl (Z0 rfl rfl rfl) rfl ?_
  refine Zl 2 (w0 rfl) rfl rfl rfl rfl rfl Z3 rfl rfl ?_
  refine Zh (w0 rfl) rfl (Z0 rfl rfl rfl) rfl ?_
  refine Zl 2 (w0 rfl) rfl rfl rfl rfl rfl Z3 rfl rfl ?_
  refine Zh (w0 rfl) rfl (Z06 rfl rfl) rfl ?_
  refine Zh (w0 rfl) rfl (Z6 rfl rfl rfl (Z04 (fun _ => rfl)) (by first | omega | (simp only [List.length_map]; omega) | (simp only [List.length_map, List.length_drop]; omega)) (by first | omega | (simp only [List.length_map]; omega) | (simp only [List.length_map, List.length_drop]; omega))) rfl ?_
  refine Zh (w0 rfl) rfl (Zu rfl rfl (Z0a (by first | assumption | omega | (simp only [List.length_drop]; omega))) Z3) rfl ?_
  refine Zh (w0 rfl) rfl (Z8 [] rfl rfl rfl (Z53 r.classNames s4 (r.classes[x.2])) List.nodup_nil) rfl ?_
  refine Zh (w0 rfl) rfl (Z0 rfl rfl rfl) rfl ?_
  refine Zl 2 (w0 rfl) rfl rfl rfl rfl rfl Z3 rfl rfl ?_
  refine Zh (w0 rfl) rfl (Z06 rfl rfl) rfl ?_
  refine Zh (w0 rfl) rfl (Z6 rfl rfl rfl (Z04 (fun _ => rfl)) (by first | omega | (simp only [List.length_map]; omega) | (simp only [List.length_map, List.length_drop]; omega)) (by first | omega | (simp only [List.length_map]; omega) | (simp only [List.length_map, List.length_drop]; omega))) rfl ?_
  refine Zh (w0 rfl) rfl (Zu rfl rfl (Z0a (by first | assumption | omega | (simp only [List.length_drop]; omega))) Z3) rfl ?_
  refine Zh (w0 rfl) rfl (Zv (y := Rule.av (exC r r.classes[x.2])) (Z0k rfl rfl rfl) (rfl)) rfl ?_
  refine Z1e (w0 rfl) rfl (fun id => Zo id (ps := [(0, .tmp 33)]) rfl rfl rfl rfl rfl rfl rfl rfl) rfl rfl (fun id4 => ?_)
  refine Z0v 1 [] (w0 rfl) rfl rfl rfl rfl (by simp) rfl ⟨rfl, _, _, List.mem_of_getElem? (i := 0) rfl, by simp, rfl⟩ (by first | omega | (simp; omega) | (simp [maxLen]; omega) | (simp; done) | (simp [maxLen]; done)) (by first | omega | (simp; omega) | (simp [maxLen]; omega) | (simp; done) | (simp [maxLen]; done)) rfl (fun _ => trivial) (fun id5 => ?_)
  refine Zh (w0 rfl) rfl (Z0y rfl rfl) rfl ?_
  refine .done (qR (qM ?_))
  refine qe (Z9 rfl rfl rfl (Zn (by first | omega | (simp only [List.length_map]; omega)))) ?_
  refine qA (qN ?_)
  refine ⟨(id5, x.2 + 1), (by show x.2 + 1 ≤ _; omega), (by show r.classes.length - (x.2 + 1) < r.classes.length - x.2; omega), ?_⟩
  exact Zb [1, 2, 3] ⟨(by show some (AV.own _ _ _ _) = some (AV.own _ _ _ _); rw [ex, List.length_append, List.length_map]; rfl), rfl, rfl, rfl, trivial⟩ (by show some [(_, AObj.rows _ _ _), (_, AObj.rows _ _ _), (_, AObj.rows _ _ _)] = some [(_, AObj.rows _ _ _), (_, AObj.rows _ _ _), (_, AObj.rows _ _ _)]; rw [ex]; simp [cellsA, Rule.av, Rule.cells, exC, exF, exM]) (by decide) rfl rfl
 ·intro hc
  have hi : ¬ x.2 < r.classes.length := by simpa using hc
  have et : r.classes.take x.2 = r.classes := List.take_of_length_le (by omega)
  refine qX (qS (qS (qR (qA (qN (qB ?_))))))
  refine Zj (α := Nat × Nat) (fun y => ⟨[(5, .own y.1 5 0 (r.classes.map (exC r) ++ (r.fields.take y.2).map (exF p r)).length), (7, iA y.2), (2, .ptr id1 5 0 0), (3, .ptr id2 7 0 0)], [(y.1, .rows 63 5 ((r.classes.map (exC r) ++ (r.fields.take y.2).map (exF p r)).map Rule.cells)), (id1, .rows 27 5 [p.cells]), (id2, .rows 34 7 [r.cells])], [], 112⟩) (fun y => y.2 ≤ r.fields.length) (fun y => r.fields.length - y.2) (x.1, 0) (Nat.zero_le _) ?_ ?_
  ·exact Zb [0, 1, 2] ⟨(by show some (AV.own _ _ _ _) = some (AV.own _ _ _ _); rw [et]; simp), rfl, rfl, rfl, trivial⟩ (by show some [(_, AObj.rows _ _ _), (_, AObj.rows _ _ _), (_, AObj.rows _ _ _)] = some [(_, AObj.rows _ _ _), (_, AObj.rows _ _ _), (_, AObj.rows _ _ _)]; rw [et]; simp) (by decide) rfl rfl
  rintro y hJ2
  refine qS (qS (qR (qM ?_)))
  refine qe (Z0 rfl rfl rfl) ?_
  refine qL 2 Z3 ?_
  refine qe (Zx rfl rfl rfl rfl) ?_
  refine qe eI ?_
  refine qN ?_
  refine Z2 rfl ?_ ?_
  ·intro hc
   have hi : y.2 < r.fields.length := by simpa using hc
   have ex : (r.classes.map (exC r) ++ (r.fields.take (y.2 + 1)).map (exF p r)) = (r.classes.map (exC r) ++ (r.fields.take y.2).map (exF p r)) ++ [exF p r r.fields[y.2]] := by rw [map_take hi, ← List.append_assoc]
   have hln : (r.fields.take y.2).length ≤ y.2 := List.length_take_le _ _
   refine qK (qS (qB (qS ?_)))
   refine Z13 [0, 0, 2, 0, 14, 30, 63, 127, 255, 255, 0, 1535, 4095] [11] [0, 2, 10] rfl (by kernel_rfl) ?_
   refine Zl 1 (w0 rfl) rfl rfl rfl rfl rfl (Zt (Nat.le_of_ble_eq_true rfl)) rfl rfl ?_
   refine Zh (w0 rfl) rfl (Z0 rfl rfl rfl) rfl ?_
   refine Zl 2 (w0 rfl) rfl rfl rfl rfl rfl Z3 rfl rfl ?_
   refine Zh (w0 rfl) rfl (Z06 rfl rfl) rfl ?_
   refine Zh (w0 rfl) rfl (Z6 rfl rfl rfl (Z04 (fun _ => rfl)) (by first | omega | (simp only [List.length_map]; omega) | (simp only [List.length_map, List.length_drop]; omega)) (by first | omega | (simp only [List.length_map]; omega) | (simp only [List.length_map, List.length_drop]; omega))) rfl ?_
   refine Zh (w0 rfl) rfl (Zu rfl rfl (Z0a (by first | assumption | omega | (simp only [List.length_drop]; omega))) (Zt (Nat.le_of_ble_eq_true rfl))) rfl ?_
   refine Zh (w0 rfl) rfl (Z8 [] rfl rfl rfl (Z4u p hp r.fields[y.2]) List.nodup_nil) rfl ?_
   refine Zh (w0 rfl) rfl (Z06 rfl rfl) rfl ?_
   refine Zh (w0 rfl) rfl (Zi rfl rfl rfl) rfl ?_
   refine Zh (w0 rfl) rfl (Zi rfl rfl rfl) rfl ?_
   refine Z1e (w0 rfl) rfl (fun id => Z0b id rfl rfl rfl) rfl rfl (fun id6 => ?_)
   refine Z0t 0 [] (w0 rfl) rfl rfl rfl rfl rfl rfl rfl rfl rfl rfl trivial ?_
   refine Zh (w0 rfl) rfl (Z0y rfl rfl) rfl ?_
   refine .done ?_
   refine Z13 [0, 0, 2, 0, 8, 0, 56, 120, 248, 510, 0, 1024, 0, 7168, 15360, 31744, 0, 65536, 0, 458752, 983040, 2031616, 0, 4194304, 12583934, 33554430, 67108862, 134217727, 268435455] [27] [2, 4, 11, 17, 23, 26] rfl (by kernel_rfl) ?_
   refine Zh (w0 rfl) rfl (Z06 rfl rfl) rfl ?_
   refine Zh (w0 rfl) rfl (Z0 rfl rfl rfl) rfl ?_
   refine Zl 3 (w0 rfl) rfl rfl rfl rfl rfl Z3 rfl rfl ?_
   refine Zh (w0 rfl) rfl (Z0 rfl rfl rfl) rfl ?_
   refine Zl 3 (w0 rfl) rfl rfl rfl rfl rfl Z3 rfl rfl ?_
   refine Zh (w0 rfl) rfl (Z06 rfl rfl) rfl ?_
   refine Zh (w0 rfl) rfl (Z6 rfl rfl rfl (Z04 (fun _ => rfl)) (by first | omega | (simp only [List.length_map]; omega) | (simp only [List.length_map, List.length_drop]; omega)) (by first | omega | (simp only [List.length_map]; omega) | (simp only [List.length_map, List.length_drop]; omega))) rfl ?_
   refine Zh (w0 rfl) rfl (Z0 rfl rfl rfl) rfl ?_
   refine Zh (w0 rfl) rfl (Zu rfl rfl (Z0a (by first | assumption | omega | (simp only [List.length_drop]; omega))) Z3) rfl ?_
   refine Zh (w0 rfl) rfl (Z8 [] rfl rfl rfl (Z53 r.fieldNames s5 (r.fields[y.2]).name) List.nodup_nil) rfl ?_
   refine Zh (w0 rfl) rfl (Z0 rfl rfl rfl) rfl ?_
   refine Zl 3 (w0 rfl) rfl rfl rfl rfl rfl Z3 rfl rfl ?_
   refine Zh (w0 rfl) rfl (Z06 rfl rfl) rfl ?_
   refine Zh (w0 rfl) rfl (Z6 rfl rfl rfl (Z04 (fun _ => rfl)) (by first | omega | (simp only [List.length_map]; omega) | (simp only [List.length_map, List.length_drop]; omega)) (by first | omega | (simp only [List.length_map]; omega) | (simp only [List.length_map, List.length_drop]; omega))) rfl ?_
   refine Zh (w0 rfl) rfl (Z0 rfl rfl rfl) rfl ?_
   refine Zh (w0 rfl) rfl (Zu rfl rfl (Z0a (by first | assumption | omega | (simp only [List.length_drop]; omega))) Z3) rfl ?_
   refine Zh (w0 rfl) rfl (Z0 rfl rfl rfl) rfl ?_
   refine Zl 3 (w0 rfl) rfl rfl rfl rfl rfl Z3 rfl rfl ?_
   refine Zh (w0 rfl) rfl (Z06 rfl rfl) rfl ?_
   refine Zh (w0 rfl) rfl (Z6 rfl rfl rfl (Z04 (fun _ => rfl)) (by first | omega | (simp only [List.length_map]; omega) | (simp only [List.length_map, List.length_drop]; omega)) (by first | omega | (simp only [List.length_map]; omega) | (simp only [List.length_map, List.length_drop]; omega))) rfl ?_
   refine Zh (w0 rfl) rfl (Z0 rfl rfl rfl) rfl ?_
   refine Zh (w0 rfl) rfl (Zu rfl rfl (Z0a (by first | assumption | omega | (simp only [List.length_drop]; omega))) Z3) rfl ?_
   refine Zh (w0 rfl) rfl (Z0 rfl rfl rfl) rfl ?_
   refine Zl 0 (w0 rfl) rfl rfl rfl rfl rfl (Zt (Nat.le_of_ble_eq_true rfl)) rfl rfl ?_
   refine Zh (w0 rfl) rfl (Z8 [] rfl rfl rfl (Z9m ((fldP p r.fields[y.2]).getD zFl).type (Z9r hp r.fields[y.2]).2) List.nodup_nil) rfl ?_
   refine Zh (w0 rfl) rfl (Zv (y := Rule.av (exF p r r.fields[y.2])) (Z0k rfl rfl rfl) (rfl)) rfl ?_
   refine Z1e (w0 rfl) rfl (fun id => Zo id (ps := [(0, .tmp 78)]) rfl rfl rfl rfl rfl rfl rfl rfl) rfl rfl (fun id7 => ?_)
   refine Z0v 2 [] (w0 rfl) rfl rfl rfl rfl (by simp) rfl ⟨rfl, _, _, List.mem_of_getElem? (i := 0) rfl, by simp, rfl⟩ (by first | omega | (simp; omega) | (simp [maxLen]; omega) | (simp; done) | (simp [maxLen]; done)) (by first | omega | (simp; omega) | (simp [maxLen]; omega) | (simp; done) | (simp [maxLen]; done)) rfl (fun _ => trivial) (fun id8 => ?_)
   refine Zh (w0 rfl) rfl (Z0y rfl rfl) rfl ?_
   refine .done (qR (qM ?_))
   refine qe (Z9 rfl rfl rfl (Zn (by first | omega | (simp only [List.length_map]; omega)))) ?_
   refine qA (qN ?_)
   refine ⟨(id8, y.2 + 1), (by show y.2 + 1 ≤ _; omega), (by show r.fields.length - (y.2 + 1) < r.fields.length - y.2; omega), ?_⟩
   exact Zb [2, 3, 4] ⟨(by show some (AV.own _ _ _ _) = some (AV.own _ _ _ _); rw [ex, List.length_append, List.length_map]; rfl), rfl, rfl, rfl, trivial⟩ (by show some [(_, AObj.rows _ _ _), (_, AObj.rows _ _ _), (_, AObj.rows _ _ _)] = some [(_, AObj.rows _ _ _), (_, AObj.rows _ _ _), (_, AObj.rows _ _ _)]; rw [ex]; simp [cellsA, Rule.av, Rule.cells, exC, exF, exM]) (by decide) rfl rfl
  ·intro hc
   have hi : ¬ y.2 < r.fields.length := by simpa using hc
   have et : r.fields.take y.2 = r.fields := List.take_of_length_le (by omega)
   refine qX (qS (qS (qR (qA (qN (qB ?_))))))
   refine Zj (α := Nat × Nat) (fun z => ⟨[(5, .own z.1 5 0 ((r.classes.map (exC r) ++ r.fields.map (exF p r)) ++ (r.methods.take z.2).map (exM r)).length), (10, iA z.2), (2, .ptr id1 5 0 0), (3, .ptr id2 7 0 0)], [(z.1, .rows 63 5 (((r.classes.map (exC r) ++ r.fields.map (exF p r)) ++ (r.methods.take z.2).map (exM r)).map Rule.cells)), (id1, .rows 27 5 [p.cells]), (id2, .rows 34 7 [r.cells])], [], 112⟩) (fun z => z.2 ≤ r.methods.length) (fun z => r.methods.length - z.2) (y.1, 0) (Nat.zero_le _) ?_ ?_
   ·exact Zb [0, 1, 2] ⟨(by show some (AV.own _ _ _ _) = some (AV.own _ _ _ _); rw [et]; simp), rfl, rfl, rfl, trivial⟩ (by show some [(_, AObj.rows _ _ _), (_, AObj.rows _ _ _), (_, AObj.rows _ _ _)] = some [(_, AObj.rows _ _ _), (_, AObj.rows _ _ _), (_, AObj.rows _ _ _)]; rw [et]; simp) (by decide) rfl rfl
   rintro z hJ3
   refine qS (qS (qR (qM ?_)))
   refine qe (Z0 rfl rfl rfl) ?_
   refine qL 2 Z3 ?_
   refine qe (Zx rfl rfl rfl rfl) ?_
   refine qe eI ?_
   refine qN ?_
   refine Z2 rfl ?_ ?_
   ·intro hc
    have hi : z.2 < r.methods.length := by simpa using hc
    have ex : ((r.classes.map (exC r) ++ r.fields.map (exF p r)) ++ (r.methods.take (z.2 + 1)).map (exM r)) = ((r.classes.map (exC r) ++ r.fields.map (exF p r)) ++ (r.methods.take z.2).map (exM r)) ++ [exM r r.methods[z.2]] := by rw [map_take hi, ← List.append_assoc]
    have hln : (r.methods.take z.2).length ≤ z.2 := List.length_take_le _ _
    have hms := hr.ms (r.methods[((z.2 : Nat) : Int).toNat]'hi) (List.getElem_mem _)
    have hm1 := hms.name
    have hm2 := hms.desc
    simp only [small] at hm1 hm2
    refine qK (qS (qB (qS (qR ?_))))
    refine qe (Z0 rfl rfl rfl) ?_
    refine qL 2 Z3 ?_
    refine qM ?_
    refine qe (Z6 rfl rfl rfl (Z04 (fun _ => rfl)) (by first | omega | (simp only [List.length_map]; omega) | (simp only [List.length_map, List.length_drop]; omega)) (by first | omega | (simp only [List.length_map]; omega) | (simp only [List.length_map, List.length_drop]; omega))) ?_
    refine qe (Zu rfl rfl (Z0a (by first | assumption | omega | (simp only [List.length_drop]; omega))) (Zt (Nat.le_of_ble_eq_true rfl))) ?_
    refine Zy (w0 rfl) rfl (fun id => Z0b id rfl rfl rfl) (fun id9 => ?_)
    refine Zw 0 (w0 rfl) rfl rfl rfl rfl rfl rfl rfl rfl rfl ?_
    refine qN ?_
    refine Z13 [0, 0, 2, 0, 8, 0, 32, 120, 254, 0, 512, 0, 2048, 0, 8192, 32766, 65534, 131071, 262143] [17] [2, 4, 6, 10, 12, 14, 16] rfl (by kernel_rfl) ?_
    refine Zh (w0 rfl) rfl (Z06 rfl rfl) rfl ?_
    refine Zh (w0 rfl) rfl (Z0 rfl rfl rfl) rfl ?_
    refine Zl 3 (w0 rfl) rfl rfl rfl rfl rfl Z3 rfl rfl ?_
    refine Zh (w0 rfl) rfl (Z0 rfl rfl rfl) rfl ?_
    refine Zl 0 (w0 rfl) rfl rfl rfl rfl rfl Z3 rfl rfl ?_
    refine Zh (w0 rfl) rfl (Z0 rfl rfl rfl) rfl ?_
    refine Zl 0 (w0 rfl) rfl rfl rfl rfl rfl Z3 rfl rfl ?_
    refine Zh (w0 rfl) rfl (Z12 rfl rfl rfl (by (try simp only [ByteArray.size_append, small] at *) <;> omega)) rfl ?_
    refine Zh (w0 rfl) rfl (Z8 [] rfl rfl rfl (Z53 r.methodNames s6 _) List.nodup_nil) rfl ?_
    refine Zh (w0 rfl) rfl (Z0 rfl rfl rfl) rfl ?_
    refine Zl 0 (w0 rfl) rfl rfl rfl rfl rfl Z3 rfl rfl ?_
    refine Zh (w0 rfl) rfl (Z0 rfl rfl rfl) rfl ?_
    refine Zl 0 (w0 rfl) rfl rfl rfl rfl rfl Z3 rfl rfl ?_
    refine Zh (w0 rfl) rfl (Z0 rfl rfl rfl) rfl ?_
    refine Zl 0 (w0 rfl) rfl rfl rfl rfl rfl Z3 rfl rfl ?_
    refine Zh (w0 rfl) rfl (Zv (y := Rule.av (exM r r.methods[z.2])) (Z0k rfl rfl rfl) (rfl)) rfl ?_
    refine Z1e (w0 rfl) rfl (fun id => Zo id (ps := [(0, .tmp 108)]) rfl rfl rfl rfl rfl rfl rfl rfl) rfl rfl (fun id10 => ?_)
    refine Z0v 2 [] (w0 rfl) rfl rfl rfl rfl (by simp) rfl ⟨rfl, _, _, List.mem_of_getElem? (i := 0) rfl, by simp, rfl⟩ (by first | omega | (simp; omega) | (simp [maxLen]; omega) | (simp; done) | (simp [maxLen]; done)) (by first | omega | (simp; omega) | (simp [maxLen]; omega) | (simp; done) | (simp [maxLen]; done)) rfl (fun _ => trivial) (fun id11 => ?_)
    refine Zh (w0 rfl) rfl (Z0y rfl rfl) rfl ?_
    refine .done (qR (qM ?_))
    refine qe (Z9 rfl rfl rfl (Zn (by first | omega | (simp only [List.length_map]; omega)))) ?_
    refine qA (qN ?_)
    refine ⟨(id11, z.2 + 1), (by show z.2 + 1 ≤ _; omega), (by show r.methods.length - (z.2 + 1) < r.methods.length - z.2; omega), ?_⟩
    exact Zb [2, 3, 4] ⟨(by show some (AV.own _ _ _ _) = some (AV.own _ _ _ _); rw [ex, List.length_append, List.length_map]; rfl), rfl, rfl, rfl, trivial⟩ (by show some [(_, AObj.rows _ _ _), (_, AObj.rows _ _ _), (_, AObj.rows _ _ _)] = some [(_, AObj.rows _ _ _), (_, AObj.rows _ _ _), (_, AObj.rows _ _ _)]; rw [ex]; simp [cellsA, Rule.av, Rule.cells, exC, exF, exM]) (by decide) rfl rfl
   ·intro hc
    have hi : ¬ z.2 < r.methods.length := by simpa using hc
    have et : r.methods.take z.2 = r.methods := List.take_of_length_le (by omega)
    refine qX (qS (qR (qM (qA (qN (qE ?_))))))
    exact Z4i 0 rfl rfl rfl rfl (by simp) (by unfold exactR; rw [et])
end Go.Sx
namespace Go.Sx
open Go Go.Proofs
theorem Z8y {p : Prog} {r : Roots} (h : r.ok) : small (exactR p r).length := by
 have h1 := h.n1; have h2 := h.n2; have h3 := h.n3
 unfold exactR small
 simp only [List.length_append, List.length_map]
 omega
theorem Z5v {β : Type} {f : Ga → β → Ga} (k : Nat) : ∀ (l : List β), (∀ x, x ∈ l → ∀ a n, GaW a n → GaW (f a x) (n + k)) → ∀ a n, GaW a n → GaW (l.foldl f a) (n + l.length * k)
 | [], _, a, n, h => h.le (by simp)
 | x :: l, hf, a, n, h => by
  have := Z5v k l (fun y hy => hf y (List.mem_cons_of_mem _ hy)) _ _ (hf x List.mem_cons_self a n h)
  rw [List.foldl_cons]
  exact this.le (by rw [List.length_cons, Nat.add_mul]; omega)
theorem Zcm {α : Type} (l : List α) (b : Bool) (x : α) : (l ++ okB b x).length ≤ l.length + 1 := by unfold okB; split <;> simp
theorem Zhj {c : Cls} {r : Rule} {a : Ga} {n : Nat} (h : GaW a n) : GaW (rS clsT c a r) (n + 1) := by
 unfold rS
 split
 ·exact h.mk' (Nat.le_refl _) (Z9z _ _) (le1 _) (le1 _) (Zcm _ _ _) (le1 _) (le1 _) (le1 _) h.ms
 ·exact h.le (by omega)
theorem Zhh {p : Prog} {l : List Rule} {c : Cls} {f : Fld} {a : Ga} {n : Nat} (h : GaW a n) : GaW (fS memT p l c a f) (n + 2) := by
 unfold fS
 split
 ·have h1 : GaW (fS1 memT p l c a f) (n + 1) := by
   unfold fS1
   split
   ·exact h.mk' (Nat.le_refl _) (Z9z _ _) (Z4h _ _ _) (le1 _) (le1 _) (le1 _) (le1 _) (le1 _) h.ms
   ·exact h.le (by omega)
  unfold fS2
  split
  ·exact h1.mk' (Nat.le_refl _) (le1 _) (le1 _) (le1 _) (le1 _) (Z9z _ _) (le1 _) (le1 _) h1.ms
  ·exact h1.le (by omega)
 ·exact h.le (by omega)
theorem Zhi {p : Prog} {l : List Rule} {c : Cls} {m : Meth} (hm : MRef.ok ⟨c.name, m.name, m.desc⟩) {a : Ga} {n : Nat} (h : GaW a n) : GaW (mS memT p l c a m) (n + 2) := by
 unfold mS
 have h1 : GaW (mS1 memT p l c a m) (n + 1) := by
  unfold mS1
  split
  ·exact h.mk' (Nat.le_refl _) (Z9z _ _) (le1 _) (Z4h _ _ _) (le1 _) (le1 _) (le1 _) (Zcm _ _ _) (fun y hy => by rcases Z79 _ _ _ y hy with h2 | h2; rw [h2]; exact hm; exact h.ms y h2)
  ·exact h.le (by omega)
 unfold mS2
 split
 ·exact h1.mk' (Nat.le_refl _) (le1 _) (le1 _) (le1 _) (le1 _) (le1 _) (Z9z _ _) (le1 _) h1.ms
 ·exact h1.le (by omega)
theorem Zgc {p : Prog} (hp : p.ok) (hgr : greatP p = false) {l : List Rule} (hl : l.length ≤ 12) (n : Nat) : GaW (refG clsT memT p l n) 30000 := by
 obtain ⟨g1, g2⟩ := Z3t hgr
 have h0 : GaW Ga.nil 0 := ⟨⟨Nat.zero_le _, Nat.zero_le _, Nat.zero_le _, Nat.zero_le _, Nat.zero_le _, Nat.zero_le _, Nat.zero_le _⟩, nofun⟩
 have := Z5v (f := fun a c => cS clsT memT p l c a) 300 (p.classes.take n) (fun c hc a k h => by
  have hc2 := List.mem_of_mem_take hc
  have hg := g2 c hc2
  have hk := hp.classes.2 c hc2
  have h1 := Z5v (f := rS clsT c) 1 l (fun r _ a n h => Zhj h) a k h
  have h2 := Z5v (f := fS memT p l c) 2 c.fields (fun r _ a n h => Zhh h) _ _ h1
  have h3 := Z5v (f := mS memT p l c) 2 c.methods (fun m hm a n h => Zhi ⟨hk.name, (hk.methods.2 m hm).name, (hk.methods.2 m hm).desc⟩ h) _ _ h2
  exact h3.le (by omega)) Ga.nil 0 h0
 exact this.le (by rw [List.length_take]; omega)
theorem Z1z {p : Prog} (hp : p.ok) (hgr : greatP p = false) {l : List Rule} (hl : l.length ≤ 12) : (refRo (refG clsT memT p l p.classes.length)).ok := Zat (Zgc hp hgr hl _) (by omega)
theorem Z9a (a : Roots) : withinR a a = true := by
 have h : ∀ {α : Type} [Inhabited α] [DecidableEq α] (l : List α), l.all (hasG l) = true := fun l => List.all_eq_true.2 fun x hx => hasG_mem.2 hx
 unfold withinR
 rw [h, h, h, h, h, h, h]; rfl
theorem Zci (a b : Roots) (x : List Rule) : ((((true && decide (x = x)) && (decide (a = b) == decide (a = b))) && (withinR a b == withinR a b)) && withinR a a) = true := by rw [Z9a]; simp
theorem c_rootsTells (p : Prog) (hp : p.ok) (l m : List Rule) (hl : small l.length) (hm : small m.length) : ACalls Tryz.prog 3 [p.av, .lst (l.map Rule.cells), .lst (m.map Rule.cells)] [] (Gives (bA true)) := by
 refine Zd (n := 53) Tryz.func3 rfl (by decide +kernel) rfl rfl ?_
 refine qS (qR ?_)
 refine Zy (w0 rfl) rfl (fun id => Z09 id rfl rfl rfl rfl rfl) (fun id1 => ?_)
 refine qA (qN (qS (qS (qR ?_))))
 refine qL 0 (Zt (Nat.le_of_ble_eq_true rfl)) ?_
 refine qe (Z8 [] rfl rfl rfl (Zfh p hp) List.nodup_nil) ?_
 refine qN ?_
 refine Z2 rfl ?_ ?_
 ·intro hc
  refine qS (qR ?_)
  refine qe (Z8 [] rfl rfl rfl Z9g List.nodup_nil) ?_
  refine qA (qN (qE ?_))
  exact Z0p rfl (Z7 rfl Z4) (gb rfl)
 ·intro hc
  have hgr : greatP p = false := hc
  refine qK (qS ?_)
  refine Z13 [0, 0, 2, 7, 0, 0, 47, 127, 0, 0, 1023, 2047] [10, 11] [0, 4, 8, 9] rfl (by kernel_rfl) ?_
  refine Zl 0 (w0 rfl) rfl rfl rfl rfl rfl (Zt (Nat.le_of_ble_eq_true rfl)) rfl rfl ?_
  refine Zh (w0 rfl) rfl (Z06 rfl rfl) rfl ?_
  refine Zh (w0 rfl) rfl (Z8 [] rfl rfl rfl (Zbd l hl) List.nodup_nil) rfl ?_
  refine Zh (w0 rfl) rfl (Z8 [] rfl rfl rfl (Zbl p hp hgr (fewR l) (Z1q l) (fun r hr => Zc5 r hr)) List.nodup_nil) rfl ?_
  refine Zl 0 (w0 rfl) rfl rfl rfl rfl rfl (Zt (Nat.le_of_ble_eq_true rfl)) rfl rfl ?_
  refine Zh (w0 rfl) rfl (Z06 rfl rfl) rfl ?_
  refine Zh (w0 rfl) rfl (Z8 [] rfl rfl rfl (Zbd m hm) List.nodup_nil) rfl ?_
  refine Zh (w0 rfl) rfl (Z8 [] rfl rfl rfl (Zbl p hp hgr (fewR m) (Z1q m) (fun r hr => Zc5 r hr)) List.nodup_nil) rfl ?_
  refine Z1e (w0 rfl) rfl (fun id => Z0b id rfl rfl rfl) rfl rfl (fun id2 => ?_)
  refine Z1e (w0 rfl) rfl (fun id => Z0b id rfl rfl rfl) rfl rfl (fun id3 => ?_)
  refine Z0t 1 [] (w0 rfl) rfl rfl rfl rfl rfl rfl rfl rfl rfl rfl trivial ?_
  refine Z0t 0 [] (w0 rfl) rfl rfl rfl rfl rfl rfl rfl rfl rfl rfl trivial ?_
  refine .done (qS ?_)
  refine Zz [0, 1, 3, 3, 15, 3, 3, 127, 255, 511, 1023, 2047, 2047, 8191, 2047, 2047, 65535, 131071, 262143, 524287, 1048575, 1048575, 4194303, 1048575, 1048575, 33554431, 67108863, 134217727, 268435455, 536870911, 536870911, 2147483647, 4294967295, 8589934591] 34 rfl (by kernel_rfl) ?_
  refine ce (Z8 [] rfl rfl rfl Z9g List.nodup_nil) ?_
  refine cM2 ?_
  refine Z0m 2 (wT rfl rfl rfl rfl) rfl rfl (fun hg => rfl) rfl rfl (Zt (Nat.le_of_ble_eq_true rfl)) ?_
  refine Z0m 1 (wT rfl rfl rfl rfl) rfl rfl (fun hg => rfl) rfl rfl (Zt (Nat.le_of_ble_eq_true rfl)) ?_
  refine Zc (wT rfl rfl rfl rfl) rfl (fun hg => (Z8 [] rfl rfl (Zg (Ze hg rfl) (Zg (Ze hg rfl) Z05)) (Z7j p hp (refRo (refG clsT memT p (fewR l) p.classes.length)) (Z1z hp hgr (Z1q l))) List.nodup_nil)) ?_
  refine Z0m 2 (wT rfl rfl rfl rfl) rfl rfl (fun hg => rfl) rfl rfl (Zt (Nat.le_of_ble_eq_true rfl)) ?_
  refine Z0m 1 (wT rfl rfl rfl rfl) rfl rfl (fun hg => rfl) rfl rfl (Zt (Nat.le_of_ble_eq_true rfl)) ?_
  refine Zc (wT rfl rfl rfl rfl) rfl (fun hg => (Z8 [] rfl rfl (Zg (Ze hg rfl) (Zg (Ze hg rfl) Z05)) (Zaf p hp (refRo (refG clsT memT p (fewR l) p.classes.length)) (Z1z hp hgr (Z1q l))) List.nodup_nil)) ?_
  refine Zc (wT rfl rfl rfl rfl) rfl (fun hg => (Z8 [] rfl rfl (Zg (Ze hg rfl) (Zg (Ze hg rfl) Z05)) (Ze5 (exactR p (refRo (refG clsT memT p (fewR l) p.classes.length))) (exactR p (refRo (refG clsT memT p (fewR l) p.classes.length))) (Z8y (Z1z hp hgr (Z1q l)))) List.nodup_nil)) ?_
  refine ce (Zs rfl rfl rfl (fun h => h)) ?_
  refine cM2 ?_
  refine Z0m 1 (wT rfl rfl rfl rfl) rfl rfl (fun hg => rfl) rfl rfl (Zt (Nat.le_of_ble_eq_true rfl)) ?_
  refine Z0m 0 (wT rfl rfl rfl rfl) rfl rfl (fun hg => rfl) rfl rfl (Zt (Nat.le_of_ble_eq_true rfl)) ?_
  refine Zc (wT rfl rfl rfl rfl) rfl (fun hg => (Z8 [] rfl rfl (Zg (Ze hg rfl) (Zg (Ze hg rfl) Z05)) (Z9l (refRo (refG clsT memT p (fewR l) p.classes.length)) (refRo (refG clsT memT p (fewR m) p.classes.length)) (Z1z hp hgr (Z1q l)) (Z1z hp hgr (Z1q m))) List.nodup_nil)) ?_
  refine Z0m 1 (wT rfl rfl rfl rfl) rfl rfl (fun hg => rfl) rfl rfl (Zt (Nat.le_of_ble_eq_true rfl)) ?_
  refine Z0m 0 (wT rfl rfl rfl rfl) rfl rfl (fun hg => rfl) rfl rfl (Zt (Nat.le_of_ble_eq_true rfl)) ?_
  refine Zc (wT rfl rfl rfl rfl) rfl (fun hg => (Z8 [] rfl rfl (Zg (Ze hg rfl) (Zg (Ze hg rfl) Z05)) (Ze4 (refRo (refG clsT memT p (fewR l) p.classes.length)) (refRo (refG clsT memT p (fewR m) p.classes.length)) (Z1z hp hgr (Z1q l)) (Z1z hp hgr (Z1q m))) List.nodup_nil)) ?_
  refine Zc (wT rfl rfl rfl rfl) rfl (fun hg => (Zc3 rfl (Ze hg rfl) (Ze hg rfl) rfl)) ?_
  refine ce (Zs rfl rfl rfl (fun h => h)) ?_
  refine cM2 ?_
  refine Z0m 1 (wT rfl rfl rfl rfl) rfl rfl (fun hg => rfl) rfl rfl (Zt (Nat.le_of_ble_eq_true rfl)) ?_
  refine Z0m 0 (wT rfl rfl rfl rfl) rfl rfl (fun hg => rfl) rfl rfl (Zt (Nat.le_of_ble_eq_true rfl)) ?_
  refine Zc (wT rfl rfl rfl rfl) rfl (fun hg => (Z8 [] rfl rfl (Zg (Ze hg rfl) (Zg (Ze hg rfl) Z05)) (Z5s (refRo (refG clsT memT p (fewR l) p.classes.length)) (refRo (refG clsT memT p (fewR m) p.classes.length)) (Z1z hp hgr (Z1q l)) (Z1z hp hgr (Z1q m))) List.nodup_nil)) ?_
  refine Z0m 1 (wT rfl rfl rfl rfl) rfl rfl (fun hg => rfl) rfl rfl (Zt (Nat.le_of_ble_eq_true rfl)) ?_
  refine Z0m 0 (wT rfl rfl rfl rfl) rfl rfl (fun hg => rfl) rfl rfl (Zt (Nat.le_of_ble_eq_true rfl)) ?_
  refine Zc (wT rfl rfl rfl rfl) rfl (fun hg => (Z8 [] rfl rfl (Zg (Ze hg rfl) (Zg (Ze hg rfl) Z05)) (Zap (refRo (refG clsT memT p (fewR l) p.classes.length)) (refRo (refG clsT memT p (fewR m) p.classes.length)) (Z1z hp hgr (Z1q l)) (Z1z hp hgr (Z1q m))) List.nodup_nil)) ?_
  refine Zc (wT rfl rfl rfl rfl) rfl (fun hg => (Zc3 rfl (Ze hg rfl) (Ze hg rfl) rfl)) ?_
  refine ce (Zs rfl rfl rfl (fun h => h)) ?_
  refine cM2 ?_
  refine Z0m 1 (wT rfl rfl rfl rfl) rfl rfl (fun hg => rfl) rfl rfl (Zt (Nat.le_of_ble_eq_true rfl)) ?_
  refine Z0m 1 (wT rfl rfl rfl rfl) rfl rfl (fun hg => rfl) rfl rfl (Zt (Nat.le_of_ble_eq_true rfl)) ?_
  refine Zc (wT rfl rfl rfl rfl) rfl (fun hg => (Z8 [] rfl rfl (Zg (Ze hg rfl) (Zg (Ze hg rfl) Z05)) (Z5s (refRo (refG clsT memT p (fewR l) p.classes.length)) (refRo (refG clsT memT p (fewR l) p.classes.length)) (Z1z hp hgr (Z1q l)) (Z1z hp hgr (Z1q l))) List.nodup_nil)) ?_
  refine ce (Zs rfl rfl rfl (fun h => h)) ?_
  refine ce (Z0y rfl rfl) ?_
  refine .done (qN (qE ?_))
  exact Z0p rfl (Z7 rfl Z4) (gb (Zci _ _ _))
end Go.Sx
