/- append of a new slice's cells (slices.Grow), onto nothing. -/
import Derived.Test.YtdombpcfmjlnlaaFbSxBytes
set_option linter.unusedVariables false
set_option linter.unusedSimpArgs false
namespace Go.Sx
open Go
variable {P : Program} {ro : Option Nat} {Q : Exit → St → Prop} {s : St} {ops : Array Oper} {o : Oper} {rest : List Oper} {T : List (Nat × AV)}
theorem eff_capNil {t e : TypeId} {p : Operand} [h : UD P t (.slice e)] (ho : o.op = .call { callee := .builtin .cap, args := #[p], argTypes := #[t] }) (hp : ev T p = some (.v (.slice none 0 0))) : Eff P o T [] (.v (.int .i64 0)) [] :=
  eff_val (by intro c; rw [ho]; nofun) fun C H a w hw hn hv => by
    have h2 := VR.val (hv p (by rw [ho]; simp [Op.operands, Call.operands]) _ hp)
    refine ⟨_, ?_, .v _⟩
    simp [execOp, ho, resolve, invoke, builtin, Builtin.cap_, h2, run_underlying (d := .slice e), goInt, Sem.run_bind, Result.andThen]
theorem eff_sliceNil {t e n : Nat} {b : Bool} {p q : Operand} {kd : IntKind} [h : UD P t (.slice e)] [k1 : TK P e b n] (ho : o.op = .slice t p none (some q) none)
    (hp : ev T p = some (.v (.slice none 0 0))) (hq : ev T q = some (.v (.int kd 0))) : Eff P o T [] (.v (.slice none 0 0)) [] :=
  eff_val (by intro c; rw [ho]; nofun) fun C H a w hw hn hv => by
    have h2 := VR.val (hv p (by rw [ho]; simp [Op.operands]) _ hp)
    have h3 := VR.val (hv q (by rw [ho]; simp [Op.operands]) _ hq)
    refine ⟨_, ?_, .v _⟩
    have hb : ∀ code, (Instr.sliceBound (.int kd 0) 0 code).run P w = .ok 0 w := fun code => run_bound rfl (by omega) (by omega) w
    simp [execOp, ho, h2, h3, Instr.sliceAt, Instr.slice, Instr.sliceBounds, run_underlying (d := .slice e), run_sizeOf k1.tk, hb, Sem.run_bind, Result.andThen, Sem.run_pure]
theorem zeroCells_get (zs : Array Value) (n j : Nat) (h : j < n * zs.size) : (Builtin.zeroCells zs n)[j]? = zs[j % zs.size]? := by
  unfold Builtin.zeroCells
  have hpos : 0 < zs.size := by rcases Nat.eq_zero_or_pos zs.size with h0 | h0; (rw [h0] at h; simp at h); exact h0
  have hm : j % zs.size < zs.size := Nat.mod_lt _ hpos
  simp [h, getElem!_pos, hm]
/-- The rows of a new slice: n times the zero value. -/
theorem aops_appendZ {t ti e bytes n : Nat} {p q : Operand} {zv : Value} {kd : IntKind} [hu : UD P t (.slice e)] [hi' : UD P ti (.int kd)] [ha : AP P e 1 bytes] [hz' : ZC P e [zv]] (hw : Wanted ops s.T o true) (hd : dok o.dst s.n = true)
    (ho : o.op = .call { callee := .builtin .append, args := #[p, q], argTypes := #[t, ti] }) (hp : ev s.T p = some (.v (.slice none 0 0))) (hq : ev s.T q = some (.v (.int .i64 n))) (h0 : 0 < n)
    (hml : n * bytes ≤ 140737488355328) (hm : n ≤ maxLen) (hone : one (.v zv) = true)
    (h : ∀ id, AOps P ro ops rest Q { s with T := put s.T o.dst (.own id 1 0 n), H := (id, .rows e 1 (List.replicate n [.v zv])) :: s.H }) : AOps P ro ops (o :: rest) Q s := by
  refine aops_step hw ?_
  intro Z C0 H0 w0 C a w hx0 hs
  obtain ⟨i, z, hi, hz, hsz, hby, hzs, hpos⟩ := AP.open ha.ap
  have hpv := VR.val (hs.ev hp)
  have hqv := VR.val (hs.ev hq)
  have hz2 : z.cells = #[zv] := by
    have := hz'.zc
    unfold Program.zc at this
    rw [hi] at this
    simp only [hz, Option.map_some, Option.some.injEq] at this
    apply Array.ext'
    rw [this]
  have hm' : n ≤ 9223372036854775807 := hm
  have hw2 : IntKind.i64.wrap (n : Int) = n := i64_wrap (by omega)
  have hn0 : ((n : Int)).toNat = n := by omega
  have h00 : ¬ ((n : Int) < 0) := by omega
  have hne : n ≠ 0 := by omega
  have h63' : ¬ (9223372036854775807 < (n : Int)) := by omega
  have hb1 : ¬ (281474976710656 < (n : Int) * bytes) := by
    have : ((n * bytes : Nat) : Int) ≤ 140737488355328 := Int.ofNat_le.2 hml
    rw [Int.natCast_mul] at this; omega
  have h48' : ¬ (281474976710656 < Builtin.nextslicecap n 0 * bytes) := by rw [nextslicecap_zero h0]; omega
  have hcap := grownCap_ge w n 0 e
  have hcapm := grownCap_le_maxLen w n 0 e hm
  have hrun : (Builtin.append_ #[t, ti] o.type #[.slice none 0 0, .int .i64 n]).run P w =
      .ok (.slice (some ⟨w.heap.size, 0, none⟩) n (grownCap w n 0 e)) (w.drew.alloc (.cells (Builtin.zeroCells z.cells n ++ Builtin.zeroCells z.cells (grownCap w n 0 e - n)) e)) := by
    simp [Builtin.append_, Go.run_underlying hu.ud, Go.run_underlying hi'.ud, sizeOf, typeInfo, zeroValue, asInt, asIntOf, hi, hz, hsz, hby, hw2, hn0, h00, hb1, hne, h63', h48', Question.forced, run_firstCells_none, newRow, grownCap]
  obtain ⟨id, hid⟩ := fresh (C.U ++ Z)
  rw [List.mem_append, not_or] at hid
  have e0 : (Builtin.zeroCells z.cells n ++ Builtin.zeroCells z.cells (grownCap w n 0 e - n)) = ([] ++ (Builtin.zeroCells z.cells n).toList ++ (Builtin.zeroCells z.cells (grownCap w n 0 e - n)).toList).toArray := by simp
  have hzl : (Builtin.zeroCells z.cells n).toList.length = n := by rw [Array.length_toList, size_zeroCells, hzs, Nat.mul_one]
  have hN : ([] ++ (Builtin.zeroCells z.cells n).toList ++ (Builtin.zeroCells z.cells (grownCap w n 0 e - n)).toList).length = grownCap w n 0 e := by
    rw [List.nil_append, List.length_append, hzl, Array.length_toList, size_zeroCells, hzs]; omega
  have hget : ∀ j, j < n → (Builtin.zeroCells z.cells n).toList[j]? = some zv := by
    intro j hj
    rw [Array.getElem?_toList, zeroCells_get _ _ _ (by rw [hzs]; omega), hz2]
    simp [Nat.mod_one]
  obtain ⟨hw1, he1⟩ := new_block (Z := Z) (N := grownCap w n 0 e) (id := id) (o := .cells (Builtin.zeroCells z.cells n ++ Builtin.zeroCells z.cells (grownCap w n 0 e - n)) e) (ob := .rows e 1 ([] ++ List.replicate n [.v zv]))
    (w := w.drew) (C := C) (H := s.H) ⟨hs.wr.hp, hs.wr.nd, fun i o hi => ⟨(hs.wr.ids i o hi).1, (hs.wr.ids i o hi).2.keep (.refl C) (hs.wr.ids i o hi).1 (fun _ _ _ => rfl)⟩, hs.wr.inj, hs.wr.dis⟩ hid.1 hid.2
    (or_new (w := w.drew) (olds := []) (news := (Builtin.zeroCells z.cells n).toList) (Ctx.bind_m ..) (by rw [← e0]; exact heap_alloc_new _ _) hN nofun (by intro e he; rw [List.eq_of_mem_replicate he]; rfl) (by simp) (by rw [hzl]; simp) (by intro i e j cc h; simp at h)
      (fun i e' j cc h1 h2 => by
        have hlt := lt_of_get h1
        rw [List.length_replicate] at hlt
        have hl2 : e' = [.v zv] := List.eq_of_mem_replicate (List.mem_of_getElem? h1)
        subst hl2
        have hj := lt_of_get h2
        simp only [List.length_singleton] at hj
        have : j = 0 := by omega
        subst this
        simp at h2; subst h2
        exact ⟨zv, by rw [Nat.mul_one, Nat.add_zero]; exact hget i hlt, .v zv⟩) nofun (by
        intro u hu
        obtain ⟨j, hj⟩ := List.mem_iff_getElem?.1 hu
        have hlt := lt_of_get hj
        rw [hzl] at hlt
        rw [hget j hlt] at hj
        cases hj
        exact one_spec (C := C) (.v zv) hone))
  rw [List.nil_append] at hw1 he1
  have hr : (o.semAt ro a.eval).run P w = .ok (.value (.slice (some ⟨w.heap.size, 0, none⟩) n (grownCap w n 0 e))) (w.drew.alloc (.cells (Builtin.zeroCells z.cells n ++ Builtin.zeroCells z.cells (grownCap w n 0 e - n)) e)) := by
    rw [Oper.semAt_eq _ _ _ (by intro c; rw [ho]; nofun)]
    simp [execOp, ho, resolve, invoke, builtin, hpv, hqv, hrun, Result.andThen, Sem.run_bind]
  rw [hr]
  have hv : VR (C.bind id w.drew.heap.size (grownCap w n 0 e)) (.own id 1 0 n) (.slice (some ⟨w.heap.size, 0, none⟩) n (grownCap w n 0 e)) := by
    have := VR.own (C := C.bind id w.drew.heap.size (grownCap w n 0 e)) id 1 0 n w.heap.size (grownCap w n 0 e) (grownCap w n 0 e) (Ctx.bind_m ..) List.mem_cons_self (by simp) hcap hcapm
    simpa using this
  have he2 : Ext Z C s.H w (C.bind id w.drew.heap.size (grownCap w n 0 e)) ((id, .rows e 1 (List.replicate n [.v zv])) :: s.H) (w.drew.alloc (.cells (Builtin.zeroCells z.cells n ++ Builtin.zeroCells z.cells (grownCap w n 0 e - n)) e)) :=
    ⟨he1.le, he1.av, he1.os, he1.tape, he1.output, he1.size, he1.fr, he1.nhp, he1.nbl, he1.nid⟩
  exact ⟨_, _, h id, hs.put he2.le hw1 (dok_spec hd) hv, hx0.trans he2⟩
end Go.Sx
