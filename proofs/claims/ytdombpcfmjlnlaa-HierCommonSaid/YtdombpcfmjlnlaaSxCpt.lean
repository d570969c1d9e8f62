/- An owned row's end, cut off and cleared. -/
import Derived.Test.YtdombpcfmjlnlaaSxBytes
import Derived.Laws.CopyRow
set_option linter.unusedVariables false
set_option linter.unusedSimpArgs false
namespace Go.Sx
open Go
variable {P : Program} {ro : Option Nat} {Q : Exit → St → Prop} {s : St} {ops : Array Oper} {o : Oper} {rest : List Oper} {T : List (Nat × AV)}

theorem eff_sliceFrom_own {t e n : Nat} {b : Bool} {p q : Operand} {id off len : Nat} {kd : IntKind} {k : Int} [h : UD P t (.slice e)] [k1 : TK P e b n] (ho : o.op = .slice t p (some q) none none)
    (hp : ev T p = some (.own id n off len)) (hq : ev T q = some (.v (.int kd k))) (h0 : 0 ≤ k) (h1 : k < len) : Eff P o T [] (.own id n (off + k.toNat) (len - k.toNat)) [] :=
  eff_val (by intro c; rw [ho]; nofun) fun C H a w hw hn hv => by
    have h2 := hv p (by rw [ho]; simp [Op.operands]) _ hp
    have h3 := VR.val (hv q (by rw [ho]; simp [Op.operands]) _ hq)
    generalize hpv : a.eval p = u at h2
    cases h2 with
    | own _ _ _ _ bb N cap hid hu hcap hlen hml =>
      have hkc : k ≤ (len : Int) := by omega
      have hne : ¬ cap = k.toNat := by omega
      have hmul : (off + k.toNat) * n = off * n + k.toNat * n := Nat.add_mul ..
      have hv := VR.own (C := C) id n (off + k.toNat) (len - k.toNat) bb N (cap - k.toNat) hid hu (by rw [← hcap]; congr 1; omega) (by omega) (by omega)
      rw [hmul] at hv
      refine ⟨_, ?_, hv⟩
      simp [execOp, ho, hpv, h3, Instr.sliceAt, Instr.slice, Instr.sliceBounds, run_underlying (d := .slice e), run_sizeOf k1.tk, run_bound rfl h0 hkc, Sem.run_bind, Result.andThen, Sem.run_pure, Addr.add, hne]
    | ownNil => omega

/-- The end of an owned row is cleared: what lies ahead of it stays, and no more is known of. -/
theorem aops_clearOwn {t e id el off len : Nat} {p : Operand} {z : Value} {es : List (List AV)} (k : Nat) [hu : UD P t (.slice e)] [hz : ZV P e z] (hzc : z.cells = #[z]) (hz1 : z.oneCell' = true) (hw : Wanted ops s.T o true) (hd : dok o.dst s.n = true)
    (ho : o.op = .call { callee := .builtin .clear, args := #[p], argTypes := #[t] }) (hp : ev s.T p = some (.own id 1 off len)) (hH : s.H[k]? = some (id, .rows el 1 es))
    (h : AOps P ro ops rest Q { s with T := put s.T o.dst (.tup []), H := s.H.set k (id, .rows el 1 (es.take off)) }) : AOps P ro ops (o :: rest) Q s := by
  refine aops_step hw ?_
  intro Z C0 H0 w0 C a w hx0 hs
  obtain ⟨hu', hlenx, hor⟩ := hs.wr.ids _ _ (List.mem_of_getElem? hH)
  have htup : ∀ C' : Ctx, VR C' (.tup []) (.tuple #[]) := fun C' => .tup _ _ rfl (fun i c x hc => by simp at hc)
  have hle1 : ∀ e' : List AV, e' ∈ es.take off → e'.length = 1 := fun e' he => hlenx e' (List.mem_of_mem_take he)
  have hsem : ∀ (v : Value) (w' : World), (Builtin.clear_ #[t] o.type #[a.eval p]).run P w = .ok v w' → (o.semAt ro a.eval).run P w = .ok (.value v) w' := fun v w' hv => by
    rw [Oper.semAt_eq _ _ _ (by intro c; rw [ho]; nofun)]
    simp [execOp, ho, resolve, invoke, builtin, hv, Result.andThen, Sem.run_bind]
  have stay : (∀ b N cells, C.m id = some (b, N) → w.heap[b]? = some (.cells cells el (0, 0)) → True) → (o.semAt ro a.eval).run P w = .ok (.value (.tuple #[])) w →
      o.uponIn (Wd ro) 0 P a (Sat Z C0 H0 w0 (AOps P ro ops rest Q)) (fun e a' w' => match e with | .panic ch => Sat Z C0 H0 w0 ((fun ch => Q (.panic ch)) ch) a' w' | _ => False) ((o.semAt ro a.eval).run P w) := by
    intro _ hr
    rw [hr]
    obtain ⟨hw1, he1⟩ := repl_at (Z := Z) (C' := C) (id' := id) (o' := .rows el 1 (es.take off)) (w' := w) hs.wr hH (.refl C) rfl (.inl rfl) hu' (fun _ _ h => h) rfl rfl rfl (Nat.le_refl _) (fun b N' hm' => .inl ⟨N', hm'⟩) (fun _ _ _ => rfl) (by
      refine ⟨hle1, ?_⟩
      rcases hor with ⟨hm0, rfl⟩ | ⟨b', N', cells, hmb', hh, hsN, hfit, hrow⟩
      · exact .inl ⟨hm0, by simp⟩
      · refine .inr ⟨b', N', cells, hmb', hh, hsN, ?_, ?_⟩
        · rw [List.length_take]; omega
        · intro i e' j c he' hc
          rw [List.getElem?_take] at he'
          split at he'
          · exact hrow i e' j c he' hc
          · cases he')
    exact ⟨C, _, h, hs.put he1.le hw1 (dok_spec hd) (htup C), hx0.trans he1⟩
  have hpv := hs.ev hp
  generalize hav : a.eval p = u at hpv hsem
  cases hpv with
  | ownNil _ _ hid hiu =>
    exact stay (fun _ _ _ _ _ => trivial) (hsem _ _ (by simp [Builtin.clear_, Go.run_underlying hu.ud]))
  | own _ _ _ _ b N cap hid _ hcap hlc hcm =>
    cases len with
    | zero => exact stay (fun _ _ _ _ _ => trivial) (hsem _ _ (by simp [Builtin.clear_, Go.run_underlying hu.ud]))
    | succ m =>
      rcases hor with ⟨hm0, _⟩ | ⟨b', N', cells, hmb', hh, hsN, hfit, hrow⟩
      · rw [hid] at hm0; cases hm0
      · rw [hid] at hmb'; cases hmb'
        have hzl : (Builtin.zeroCells z.cells (m + 1)).toList = List.replicate (m + 1) z := by
          rw [hzc]
          simp [Builtin.zeroCells]
          apply List.ext_getElem
          · simp
          · intro i h1 h2
            simp [Nat.mod_one]
        have hst := run_storeCells_at (P := P) b off el (List.replicate (m + 1) z) 0 cells w hh (by simp; omega) (by intro v hv'; rw [List.eq_of_mem_replicate hv']; exact hz1)
        simp only [Nat.add_zero, List.length_replicate] at hst
        have hr := hsem (.tuple #[]) (w.setRow b (cells.toList.take off ++ List.replicate (m + 1) z ++ cells.toList.drop (off + (m + 1))).toArray) (by
          simp only [Nat.mul_one]
          simp [Builtin.clear_, Go.run_underlying hu.ud, run_zero hz.zv, hzl, hst, Sem.run_bind, Result.andThen])
        rw [hr]
        obtain ⟨hw1, he1⟩ := repl_at (Z := Z) (C' := C) (id' := id) (o' := .rows el 1 (es.take off)) (w' := w.setRow b (cells.toList.take off ++ List.replicate (m + 1) z ++ cells.toList.drop (off + (m + 1))).toArray) hs.wr hH (.refl C) rfl (.inl rfl) hu' (fun _ _ h => h) rfl rfl rfl (by simp [World.setRow])
          (fun b N' hm' => .inl ⟨N', hm'⟩) (fun b2 hb2 hne => setRow_other w b b2 _ (by rintro rfl; exact hne _ hid)) (by
            refine ⟨hle1, .inr ⟨b, N, _, hid, setRow_heap w b cells _ el (0, 0) hh, ?_, ?_, ?_⟩⟩
            · simp only [List.size_toArray, List.length_append, List.length_take, List.length_drop, List.length_replicate, Array.length_toList]
              omega
            · rw [List.length_take]; omega
            · intro i e' j c he' hc
              rw [List.getElem?_take] at he'
              split at he'
              · rename_i hio
                obtain ⟨x, h3, h4⟩ := hrow i e' j c he' hc
                have hj : j = 0 := by have := hlenx e' (List.mem_of_getElem? he'); have := lt_of_get hc; omega
                subst hj
                refine ⟨x, ?_, h4⟩
                have hlt := (Array.getElem?_eq_some_iff.1 h3).1
                rw [List.getElem?_toArray, List.append_assoc, List.getElem?_append_left (by simp only [List.length_take, Array.length_toList]; omega), List.getElem?_take, if_pos (by omega), Array.getElem?_toList]
                exact h3
              · cases he')
        exact ⟨C, _, h, hs.put he1.le hw1 (dok_spec hd) (htup C), hx0.trans he1⟩
end Go.Sx
