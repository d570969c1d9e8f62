/- Slices and structs that are written out; parts of slices. -/
import Derived.Test.YtaphgfiboidpbaaBaSxMem3
set_option linter.unusedSimpArgs false
set_option linter.unusedVariables false
set_option linter.unnecessarySimpa false
namespace Go.Sx
open Go

theorem fold_set : ∀ (l : List Value) (k off : Nat) (cs : Array Value),
    ((l.zipIdx k).foldl (fun cs (x : Value × Nat) => cs.setIfInBounds (off + x.2) x.1) cs).size = cs.size ∧
    ∀ p, ((l.zipIdx k).foldl (fun cs (x : Value × Nat) => cs.setIfInBounds (off + x.2) x.1) cs)[p]? = if off + k ≤ p ∧ p < off + k + l.length ∧ p < cs.size then l[p - (off + k)]? else cs[p]?
  | [], k, off, cs => ⟨rfl, fun p => by rw [if_neg (by simp; omega)]; rfl⟩
  | x :: l, k, off, cs => by
    simp only [List.zipIdx_cons, List.foldl_cons]
    obtain ⟨h1, h2⟩ := fold_set l (k + 1) off (cs.setIfInBounds (off + k) x)
    refine ⟨by rw [h1]; simp, fun p => ?_⟩
    rw [h2]
    simp only [Array.size_setIfInBounds, List.length_cons]
    by_cases hp : p = off + k
    · subst hp
      rw [if_neg (by omega)]
      by_cases hs : off + k < cs.size
      · rw [if_pos (by omega)]
        simp [hs]
      · rw [if_neg (by omega)]
        rw [Array.getElem?_eq_none (by simp; omega), Array.getElem?_eq_none (by omega)]
    · rw [Array.getElem?_setIfInBounds_ne (Ne.symm hp)]
      by_cases hc : off + (k + 1) ≤ p ∧ p < off + (k + 1) + l.length ∧ p < cs.size
      · rw [if_pos hc, if_pos (by omega), show p - (off + k) = (p - (off + (k + 1))) + 1 from by omega, List.getElem?_cons_succ]
      · rw [if_neg hc, if_neg (by omega)]

theorem fold_set_arr (v : Value) (off : Nat) (cs : Array Value) :
    (v.cells.zipIdx.foldl (fun cs (x : Value × Nat) => cs.setIfInBounds (off + x.2) x.1) cs).size = cs.size ∧
    ∀ p, (v.cells.zipIdx.foldl (fun cs (x : Value × Nat) => cs.setIfInBounds (off + x.2) x.1) cs)[p]? = if off ≤ p ∧ p < off + v.cells.size ∧ p < cs.size then v.cells[p - off]? else cs[p]? := by
  rw [← Array.foldl_toList, Array.toList_zipIdx]
  obtain ⟨h1, h2⟩ := fold_set v.cells.toList 0 off cs
  refine ⟨h1, fun p => ?_⟩
  rw [h2]
  simp

/-- The parts of a slice that is written out, one behind the other. -/
def inOrder : Nat → List (Nat × Operand) → Bool
  | _, [] => true
  | k, (i, _) :: r => Nat.beq i k && inOrder (k + 1) r

theorem fill_rows {C : Ctx} {size n : Nat} {ρ : Operand → Value} {T : List (Nat × AV)} : ∀ (ps : List (Nat × Operand)) (k : Nat) (cells : Array Value) (xs : List AV), inOrder k ps = true → evs T (ps.map Prod.snd) = some xs →
    (∀ p, p ∈ ps.map Prod.snd → ∀ y, ev T p = some y → VR C y (ρ p)) → (∀ x, x ∈ xs → (cellsA x).length = size) → cells.size = n * size → k + ps.length ≤ n →
    ∃ cells', Instr.fill (fun i => some (i * size, size)) cells (ps.map fun x => (x.1, ρ x.2)) = some cells' ∧ cells'.size = cells.size ∧ (∀ p, p < k * size → cells'[p]? = cells[p]?) ∧
      ∀ (i : Nat) (x : AV) (j : Nat) (c : AV), xs[i]? = some x → (cellsA x)[j]? = some c → ∃ u, cells'[(k + i) * size + j]? = some u ∧ VR C c u ∧ (one c = true → u.oneCell' = true)
  | [], k, cells, xs, _, hx, _, _, _, _ => by
    simp only [List.map_nil, evs, Option.some.injEq] at hx
    subst hx
    exact ⟨cells, rfl, rfl, fun _ _ => rfl, by intro i x j c h; simp at h⟩
  | (i, p) :: r, k, cells, xs, ho, hx, hv, hl, hs, hn => by
    simp only [inOrder, Bool.and_eq_true] at ho
    have hi := Nat.eq_of_beq_eq_true ho.1
    subst hi
    simp only [List.map_cons, evs] at hx
    split at hx
    · rename_i x ys h1 h2
      simp only [Option.some.injEq] at hx
      subst hx
      have hpv := hv p (by simp) x h1
      obtain ⟨hc1, hc2⟩ := cellsA_spec hpv
      have hxs := hl x List.mem_cons_self
      rw [hc1] at hxs
      obtain ⟨f1, f2⟩ := fold_set_arr (ρ p) (i * size) cells
      simp only [List.length_cons] at hn
      have hbig : i * size + size ≤ cells.size := by
        rw [hs]
        have : (i + 1) * size ≤ n * size := Nat.mul_le_mul_right _ (by omega)
        rw [Nat.add_mul] at this; omega
      obtain ⟨cells', g1, g2, g3, g4⟩ := fill_rows (C := C) (size := size) (n := n) (ρ := ρ) (T := T) r (i + 1) ((ρ p).cells.zipIdx.foldl (fun cs (x : Value × Nat) => cs.setIfInBounds (i * size + x.2) x.1) cells) ys ho.2 h2
        (fun q hq => hv q (by simp only [List.map_cons, List.mem_cons]; exact .inr hq)) (fun y hy => hl y (List.mem_cons_of_mem _ hy)) (by rw [f1, hs]) (by omega)
      refine ⟨cells', ?_, by rw [g2, f1], ?_, ?_⟩
      · simp only [List.map_cons, Instr.fill]
        rw [if_neg (by simp; omega)]
        exact g1
      · intro q hq
        rw [g3 q (by rw [Nat.add_mul]; omega), f2, if_neg (by omega)]
      · intro i' y j c hy hc
        cases i' with
        | zero =>
          simp at hy; subst hy
          have hj : j < (ρ p).cells.size := by rw [← hc1]; exact lt_of_get hc
          have hg : (ρ p).cells[j]? = some (ρ p).cells[j] := Array.getElem?_eq_getElem hj
          have hcv := hc2 j c _ hc hg
          refine ⟨(ρ p).cells[j], ?_, hcv, fun h => one_spec hcv h⟩
          rw [Nat.add_zero, g3 _ (by rw [Nat.add_mul]; omega), f2, if_pos (by omega), Nat.add_sub_cancel_left]
          exact hg
        | succ i' =>
          obtain ⟨u, a, b⟩ := g4 i' y j c (by simpa using hy) hc
          exact ⟨u, by rw [show i + (i' + 1) = i + 1 + i' from by omega]; exact a, b⟩
    · cases hx

section
variable {P : Program} {T : List (Nat × AV)} {o : Oper}

/-- A slice that is written out. -/
theorem eff_buildSlice (id : Nat) {t e size bytes len : Nat} {ps : List (Nat × Operand)} {xs : List AV} {ys : List (List AV)} [hu : UD P t (.slice e)] [ha : AP P e size bytes] (ho : o.op = .buildSlice t len ps.toArray) (hin : inOrder 0 ps = true)
    (hlen : ps.length = len) (hxs : evs T (ps.map Prod.snd) = some xs) (hys : xs.map cellsA = ys) (hl : ys.all (fun l => Nat.beq l.length size) = true) (h1 : ys.all (fun l => l.all one) = true) (hbig : Nat.ble (len * size) 16777216 = true) :
    Eff P o T [] (.own id size 0 len) [(id, .rows e size ys)] :=
  eff_new (N := len * size) (by intro c; rw [ho]; nofun) fun C H a w hw _ hv hid => by
    obtain ⟨i, z, hi, hz, hsz, hby, hzs, hpos⟩ := AP.open ha.ap
    subst hys
    have hbig := Nat.le_of_ble_eq_true hbig
    have hops : ∀ p, p ∈ ps.map Prod.snd → p ∈ o.op.operands := by
      intro p hp
      rw [ho]; simpa [Op.operands] using hp
    have hxl : xs.length = len := by
      rw [← hlen]
      have : ∀ (qs : List Operand) (xs : List AV), evs T qs = some xs → xs.length = qs.length := by
        intro qs
        induction qs with
        | nil => intro xs h; simp only [evs, Option.some.injEq] at h; subst h; rfl
        | cons q qs ih =>
          intro xs h
          simp only [evs] at h
          split at h
          · rename_i x ys h1 h2; simp only [Option.some.injEq] at h; subst h; simp [ih _ h2]
          · cases h
      rw [this _ _ hxs, List.length_map]
    have hcl : ∀ x, x ∈ xs → (cellsA x).length = size := by
      intro x hx
      exact Nat.eq_of_beq_eq_true (List.all_eq_true.1 hl (cellsA x) (List.mem_map.2 ⟨x, hx, rfl⟩))
    let z0 : Array Value := if len * size = 0 then #[] else z.cells
    obtain ⟨cells', g1, g2, g3, g4⟩ := fill_rows (C := C) (size := size) (n := len) (ρ := a.eval) (T := T) ps 0 ((Array.range (len * size)).map (z0[· % z0.size]!)) xs hin hxs (fun p hp => hv p (hops p hp)) hcl (by simp) (by omega)
    have hle := Ctx.le_bind (C := C) (b := w.heap.size) (N := len * size) hid
    refine ⟨.slice (some ⟨w.heap.size, 0, none⟩) len len, .cells cells' e, ?_, ?_, ?_⟩
    · have e1 : (ps.toArray.map fun x => (x.1, a.eval x.2)).toList = ps.map fun x => (x.1, a.eval x.2) := by simp
      have hbig2 : ¬ (16777216 < len * size) := by omega
      by_cases h0 : len * size = 0
      · have hz0 : z0 = #[] := if_pos h0
        rw [hz0] at g1
        simp only [h0] at g1
        have hrun : (Instr.buildSlice t len (ps.toArray.map fun x => (x.1, a.eval x.2))).run P w = .ok (.slice (some ⟨w.heap.size, 0, none⟩) len len) (w.alloc (.cells cells' e)) := by
          unfold Instr.buildSlice
          simp only [e1]
          simp [Go.run_underlying hu.ud, sizeOf, typeInfo, hi, hsz, h0, newRow, run_newObj_alloc, Result.andThen, Sem.run_bind]
          simp at g1
          rw [g1]
          simp
        have e2 : execOp a.eval o = (do pure (.value (← Instr.buildSlice t len (ps.toArray.map fun x => (x.1, a.eval x.2))))) := by simp only [execOp, ho]
        rw [e2, Sem.run_bind, hrun]
        rfl
      · have hz0 : z0 = z.cells := if_neg h0
        rw [hz0] at g1
        have hrun : (Instr.buildSlice t len (ps.toArray.map fun x => (x.1, a.eval x.2))).run P w = .ok (.slice (some ⟨w.heap.size, 0, none⟩) len len) (w.alloc (.cells cells' e)) := by
          unfold Instr.buildSlice
          simp only [e1]
          simp [Go.run_underlying hu.ud, sizeOf, typeInfo, zeroValue, hi, hz, hsz, h0, hbig2, newRow, run_newObj_alloc, Result.andThen, Sem.run_bind, -getElem!_pos]
          rw [g1]
          simp
        have e2 : execOp a.eval o = (do pure (.value (← Instr.buildSlice t len (ps.toArray.map fun x => (x.1, a.eval x.2))))) := by simp only [execOp, ho]
        rw [e2, Sem.run_bind, hrun]
        rfl
    · have := VR.own (C := C.bind id w.heap.size (len * size)) id size 0 len w.heap.size (len * size) len (Ctx.bind_m ..) List.mem_cons_self (by simp) (Nat.le_refl _) (by
        have : len ≤ len * size := Nat.le_mul_of_pos_right _ hpos
        simp only [maxLen]; omega)
      simpa using this
    · refine ⟨?_, .inr ⟨w.heap.size, len * size, cells', Ctx.bind_m .., heap_alloc_new w _, by rw [g2]; simp, by simp [hxl], ?_⟩⟩
      · intro l hl'
        obtain ⟨x, hx, rfl⟩ := List.mem_map.1 hl'
        exact hcl x hx
      · intro i' l j c hl' hc
        rw [List.getElem?_map] at hl'
        cases hx : xs[i']? with
        | none => rw [hx] at hl'; cases hl'
        | some x =>
          rw [hx] at hl'
          simp only [Option.map_some, Option.some.injEq] at hl'
          subst hl'
          obtain ⟨u, a1, a2, a3⟩ := g4 i' x j c hx hc
          rw [Nat.zero_add] at a1
          have hone : one c = true := by
            have h2 := List.all_eq_true.1 h1 (cellsA x) (List.mem_map.2 ⟨x, List.mem_of_getElem? hx, rfl⟩)
            exact List.all_eq_true.1 h2 c (List.mem_of_getElem? hc)
          exact ⟨u, a1, a2.mono hle, a3 hone⟩

end
end Go.Sx
