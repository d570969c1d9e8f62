/- YtmnbbhcdjgofeaaGreatRaB5: texts of this claim, one behind the other. -/
import Derived.Test.YtmnbbhcdjgofeaaGreatRaB4
set_option linter.unusedVariables false
set_option linter.unusedSimpArgs false
set_option linter.unusedSectionVars false
set_option linter.unnecessarySimpa false
namespace Go.Sx
open Go Go.Proofs
theorem Zep {es : List Edg} {m x : MRef} (h : Rch es m x) : x ∈ m :: es.map Edg.t := by
 cases h with
 | refl => exact List.mem_cons_self
 | step _ he hm => exact List.mem_cons_of_mem _ (List.mem_map.2 ⟨_, he, rfl⟩)
open Classical in
noncomputable def reachL (es : List Edg) (m : MRef) : List MRef := risM ((m :: es.map Edg.t).filter fun x => decide (Rch es m x))
open Classical in
theorem mem_reach {es : List Edg} {m x : MRef} : x ∈ reachL es m ↔ Rch es m x := by
 unfold reachL risM
 rw [Z40, List.mem_filter, decide_eq_true_eq]
 exact ⟨fun h => h.2, fun h => ⟨Zep h, h⟩⟩
theorem Z82 (es : List Edg) (m : MRef) : (reachL es m).length ≤ es.length + 1 := by
 unfold reachL
 refine Nat.le_trans (Z6v _) ?_
 have := List.length_filter_le (fun x => @decide (Rch es m x) (Classical.propDecidable _)) (m :: es.map Edg.t)
 simpa using this
open Classical in
theorem Z9h (es : List Edg) (hl : es.length ≤ 100) (m : MRef) : ACalls Tryz.prog 4 [solA es, m.av] [] (Gives (.lst ((reachL es m).map MRef.cells))) := by
 refine Z9t (g := fun l : List MRef => .lst (l.map MRef.cells)) (φ := fun l => l = reachL es m) (Z5y (el := 24) (n := 3) ((Zez es hl m).mono fun e H' hR => ?_)) (fun a h => h)
 obtain ⟨⟨q, had⟩, h1, h2, h3⟩ := hR
 refine ⟨(q, risM had), ?_, h2, h3⟩
 show risM had = reachL es m
 unfold reachL
 refine Zfo mLtT fun x => ?_
 rw [h1.1 x, List.mem_filter, decide_eq_true_eq]
 exact ⟨fun h => ⟨Zep h, h⟩, fun h => h.2⟩
theorem Zah (es : List Edg) (hl : es.length ≤ 1000) (m : MRef) : ACalls Tryz.prog 6 [solA es, m.av] [] (Gives (.lst ((calleesL es m).map MRef.cells))) := Z4q (Z79 es hl m)
theorem Zai (es : List Edg) (hl : es.length ≤ 1000) (m : MRef) : ACalls Tryz.prog 7 [solA es, m.av] [] (Gives (.lst ((callersL es m).map MRef.cells))) := Z4q (Zbc es hl m)
theorem Z9f (l : List MRef) (hl : l.length ≤ 1000) (s : MRef) (h : s ∈ l) : ACalls Tryz.prog 5 [.lst (l.map MRef.cells), s.av] [] (Gives (bA true)) := by
 have := Zdc l (by unfold small; omega) s
 rw [hasG_mem.2 h] at this
 exact this
set_option maxHeartbeats 4000000 in
theorem c_graphReach (es : List Edg) (hs : small es.length) (m : MRef) : ACalls Tryz.prog 3 [.lst (es.map Edg.cells), m.av] [] (Gives (bA true)) := by
 refine Zw (n := 86) Tryz.func3 rfl (by decide +kernel) rfl rfl ?_
 simp only [small] at hs
 refine qS ?_
 refine qR ?_
 refine Zb3 (fun id1 => ?_)
 refine zA ?_
 refine zN ?_
 refine tqN ?_
 refine Zd8 (α := Unit) (fun _ => ⟨[(0, .lst ((es.take 40).map Edg.cells)), (3, .ptr id1 3 0 0)], [(id1, .rows 24 3 [m.cells])], [], 86⟩) (fun _ => True) ?_ ?_
 ·refine wk ?_
  rw [List.length_map]
  by_cases h : es.length ≤ 40
  ·rw [show decide ((es.length : Int) > 40) = false from decide_eq_false (by omega)]
   refine wk ?_
   exact ⟨(), trivial, Z8 [0] ⟨(by show some (AV.lst _) = some (AV.lst _); rw [List.take_of_length_le h]), rfl, trivial⟩ rfl (by decide) rfl rfl⟩
  ·rw [show decide ((es.length : Int) > 40) = true from decide_eq_true (by omega)]
   refine wk ?_
   refine zE (Zz (y := .lst ((es.take 40).map Edg.cells)) (Z57 rfl rfl rfl (by decide) (by rw [List.length_map]; omega)) (by rw [List.map_take]; rfl)) ?_
   refine wk ?_
   exact ⟨(), trivial, Z8 [0] ⟨rfl, rfl, trivial⟩ rfl (by decide) rfl rfl⟩
 rintro - -
 have hl : (es.take 40).length ≤ 40 := by rw [List.length_take]; omega
 generalize es.take 40 = es at hl
 refine wk ?_
 refine Zhq (fun id5 => ?_)
 refine wk ?_
 refine zCG (Z9h es (by omega) m) ?_
 have hrl := Z82 es m
 refine wk ?_
 have hR : ∀ x, x ∈ reachL es m ↔ Rch es m x := fun x => mem_reach
 generalize reachL es m = R at hrl hR
 refine Z06 (α := Nat) (fun i => ⟨[(7, iA i), (6, .lst (R.map MRef.cells)), (5, .ptr id5 5 0 0), (3, .ptr id1 3 0 0)], [(id5, .rows 30 5 [solC es]), (id1, .rows 24 3 [m.cells])], [], 86⟩) (fun i => i ≤ R.length) (fun i => R.length - i) 0 (Nat.zero_le _) (Z8 [0, 1] ⟨rfl, rfl, rfl, rfl, trivial⟩ rfl (by decide) rfl rfl) ?_
 intro i hi
 refine wk ?_
 rw [List.length_map]
 refine Ze rfl (fun hc => ?_) (fun hc => ?_)
 rotate_left
 ·clear hc
  refine wk ?_
  refine zCG Zey ?_
  refine wk ?_
  refine zTE (Zq [] rfl rfl rfl (Z9f R (by omega) m ((hR m).2 .refl)) List.nodup_nil) ?_
  refine wk ?_
  exact Z69 rfl (Zy rfl Zu) (gvr rfl)
 have hi : i < R.length := by simpa using hc
 clear hc
 have hxr := (hR R[i]).1 (List.getElem_mem hi)
 refine wk ?_
 refine zcE (Zf6 (f := MRef.cells) (n := 3) (fun _ => rfl) i hi rfl rfl rfl rfl) ?_
 refine zcE (Zf7 (f := MRef.cells) (x := R[i].av) hi rfl rfl Z3a) ?_
 refine zcE (Zq [] rfl rfl rfl (Z9h es (by omega) R[i]) List.nodup_nil) ?_
 have hkl := Z82 es R[i]
 have hK : ∀ y, y ∈ reachL es R[i] → y ∈ R := fun y hy => (hR y).2 (hxr.trans (mem_reach.1 hy))
 generalize reachL es R[i] = K at hkl hK
 refine wk ?_
 refine Z06 (α := Nat) (fun j => ⟨[(9, iA j), (8, .lst (K.map MRef.cells)), (7, iA i), (6, .lst (R.map MRef.cells)), (5, .ptr id5 5 0 0), (3, .ptr id1 3 0 0)], [(id5, .rows 30 5 [solC es]), (id1, .rows 24 3 [m.cells])], [], 86⟩) (fun j => j ≤ K.length) (fun j => K.length - j) 0 (Nat.zero_le _) (Z8 [0, 1] ⟨rfl, rfl, rfl, rfl, rfl, rfl, trivial⟩ rfl (by decide) rfl rfl) ?_
 intro j hj
 refine wk ?_
 rw [List.length_map]
 refine Ze rfl (fun hc => ?_) (fun hc => ?_)
 ·have hj : j < K.length := by simpa using hc
  clear hc
  refine wk ?_
  refine zE (Zf6 (f := MRef.cells) (n := 3) (fun _ => rfl) j hj rfl rfl rfl rfl) ?_
  refine zE (Zf7 (f := MRef.cells) (x := K[j].av) hj rfl rfl Z3a) ?_
  refine zCG (Z9f R (by omega) K[j] (hK _ (List.getElem_mem hj))) ?_
  refine wk ?_
  exact ⟨j + 1, (by show j + 1 ≤ K.length; omega), (by show K.length - (j + 1) < K.length - j; omega), Z8 [0, 1] ⟨rfl, rfl, rfl, rfl, rfl, rfl, trivial⟩ rfl (by decide) rfl rfl⟩
 clear hc
 refine wk ?_
 refine zcE (Zf6 (f := MRef.cells) (n := 3) (fun _ => rfl) i hi rfl rfl rfl rfl) ?_
 refine zcE (Zf7 (f := MRef.cells) (x := R[i].av) hi rfl rfl Z3a) ?_
 refine zcE (Zq [] rfl rfl rfl (Zah es (by omega) R[i]) List.nodup_nil) ?_
 have hcl := Z36 es R[i]
 have hC : ∀ y, y ∈ calleesL es R[i] → y ∈ R ∧ R[i] ∈ callersL es y := fun y hy => by
  obtain ⟨e, h1, h2, rfl⟩ := mem_callees.1 hy
  exact ⟨(hR _).2 (hxr.step h1 h2), mem_callers.2 ⟨e, h1, rfl, h2⟩⟩
 generalize calleesL es R[i] = C at hcl hC
 refine wk ?_
 refine Z06 (α := Nat) (fun j => ⟨[(11, iA j), (10, .lst (C.map MRef.cells)), (7, iA i), (6, .lst (R.map MRef.cells)), (5, .ptr id5 5 0 0), (3, .ptr id1 3 0 0)], [(id5, .rows 30 5 [solC es]), (id1, .rows 24 3 [m.cells])], [], 86⟩) (fun j => j ≤ C.length) (fun j => C.length - j) 0 (Nat.zero_le _) (Z8 [0, 1] ⟨rfl, rfl, rfl, rfl, rfl, rfl, trivial⟩ rfl (by decide) rfl rfl) ?_
 intro j hj
 refine wk ?_
 rw [List.length_map]
 refine Ze rfl (fun hc => ?_) (fun hc => ?_)
 rotate_left
 ·clear hc
  refine wk ?_
  exact ⟨i + 1, (by show i + 1 ≤ R.length; omega), (by show R.length - (i + 1) < R.length - i; omega), Z8 [0, 1] ⟨rfl, rfl, rfl, rfl, trivial⟩ rfl (by decide) rfl rfl⟩
 have hj : j < C.length := by simpa using hc
 clear hc
 obtain ⟨hy1, hy2⟩ := hC C[j] (List.getElem_mem hj)
 refine wk ?_
 refine zcE (Zf6 (f := MRef.cells) (n := 3) (fun _ => rfl) j hj rfl rfl rfl rfl) ?_
 refine zcE (Zf7 (f := MRef.cells) (x := C[j].av) hj rfl rfl Z3a) ?_
 refine zcE (Zq [] rfl rfl rfl (Z9f R (by omega) C[j] hy1) List.nodup_nil) ?_
 refine wk ?_
 refine Zft (Zf6 (f := MRef.cells) (n := 3) (fun _ => rfl) j hj rfl rfl rfl rfl) ?_
 refine Zft (Zf7 (f := MRef.cells) (x := C[j].av) hj rfl rfl Z3a) ?_
 refine Zft (Zq [] rfl rfl rfl (Zai es (by omega) C[j]) List.nodup_nil) ?_
 have hll := Z8n es C[j]
 refine wk ?_
 refine Zft (Zf6 (f := MRef.cells) (n := 3) (fun _ => rfl) i hi rfl rfl rfl rfl) ?_
 refine Zft (Zf7 (f := MRef.cells) (x := R[i].av) hi rfl rfl Z3a) ?_
 refine Zft (Zq [] rfl rfl rfl (Z9f (callersL es C[j]) (by omega) R[i] hy2) List.nodup_nil) ?_
 refine wk ?_
 exact ⟨j + 1, (by show j + 1 ≤ C.length; omega), (by show C.length - (j + 1) < C.length - j; omega), Z8 [0, 1] ⟨rfl, rfl, rfl, rfl, rfl, rfl, trivial⟩ rfl (by decide) rfl rfl⟩
end Go.Sx
namespace Go.Sx
open Go Go.Proofs
structure Edg.ok (e : Edg) : Prop where
 m : e.m.ok
 t : e.t.ok
theorem Zf4 {P : Program} {t tr i : TypeId} (h : fts P t = some [tr, i, tr]) (hr : Dec P tr MRef.cells MRef.ok) (hi : P.underlying i = some (.int .i64)) : Dec P t Edg.cells Edg.ok := by
 intro xs hx
 obtain ⟨x0, ys, rfl, g0, h1⟩ := Z4d hr (Z88 h hx)
 obtain ⟨x1, ys, rfl, g1, h1⟩ := Z4d (Zf5 hi) h1
 obtain ⟨x2, ys, rfl, g2, h1⟩ := Z4d hr h1
 rw [Zeq h1]
 exact ⟨⟨x0, x1, x2⟩, rfl, ⟨g0, g2⟩⟩
theorem dec43 : Dec Tryz.prog 43 Edg.cells Edg.ok := Zf4 (tr := 24) (i := 3) (by kernel_rfl) dec24 (by kernel_rfl)
end Go.Sx
