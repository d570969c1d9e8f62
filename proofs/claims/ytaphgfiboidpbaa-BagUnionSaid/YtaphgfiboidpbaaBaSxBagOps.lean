/- Lists from a place on; is a list nil; the end of a row cleared; a row handed back for good. -/
import Derived.Test.YtaphgfiboidpbaaBaSxCpt
import Derived.Test.YtaphgfiboidpbaaBaSxCells
import Derived.WalkSpells
import Derived.Lib.Strings
set_option linter.unusedSimpArgs false
set_option linter.unusedVariables false
namespace Go.Sx
open Go

theorem adB (a : Addr) (n : Nat) : (a.add n).block = a.block := by unfold Addr.add; split <;> rfl
theorem adO (a : Addr) (n : Nat) : (a.add n).off = a.off + n := by unfold Addr.add; split; omega; rfl
theorem adS (a : Addr) (n : Nat) (h : a.spot = none) : (a.add n).spot = none := by unfold Addr.add; split; exact h; rfl
section
variable {P : Program} {T : List (Nat × AV)} {o : Oper}
theorem eff_sliceFrom_lst {t e n : Nat} {b : Bool} {p q : Operand} {es : List (List AV)} {kd : IntKind} {k : Int} [h : UD P t (.slice e)] [k1 : TK P e b n] (ho : o.op = .slice t p (some q) none none)
    (hp : ev T p = some (.lst es)) (hq : ev T q = some (.v (.int kd k))) (hes : ∀ e : List AV, e ∈ es → e.length = n) (h0 : 0 ≤ k) (h1 : k ≤ es.length) : Eff P o T [] (.lst (es.drop k.toNat)) [] :=
  eff_val (by intro c; rw [ho]; nofun) fun C H a w hw hn hv => by
    have h2 := hv p (by rw [ho]; simp [Op.operands]) _ hp
    have h3 := VR.val (hv q (by rw [ho]; simp [Op.operands]) _ hq)
    generalize hpv : a.eval p = u at h2
    cases h2 with
    | lstNil =>
      have hk : k = 0 := by simp at h1; omega
      subst hk
      refine ⟨.slice none 0 0, ?_, by simpa using VR.lstNil⟩
      have hb : ∀ code, (Instr.sliceBound (.int kd 0) 0 code).run P w = .ok 0 w := fun code => run_bound rfl (by omega) (by omega) w
      simp [execOp, ho, hpv, h3, Instr.sliceAt, Instr.slice, Instr.sliceBounds, run_underlying (d := .slice e), run_sizeOf k1.tk, hb, Sem.run_bind, Result.andThen, Sem.run_pure]
    | lst _ ad sz cap cells elem fz xs hs hb hz hc hvv ho' hcap =>
      have hkc : k ≤ (es.length : Int) := h1
      refine ⟨.slice (some (if cap = k.toNat then ad else ad.add (k.toNat * n))) (es.length - k.toNat) (cap - k.toNat), ?_, ?_⟩
      · by_cases hck : cap = k.toNat <;>
          simp [hck, execOp, ho, hpv, h3, Instr.sliceAt, Instr.slice, Instr.sliceBounds, run_underlying (d := .slice e), run_sizeOf k1.tk, run_bound rfl h0 hkc, Sem.run_bind, Result.andThen, Sem.run_pure]
      · have hl : (es.drop k.toNat).length = es.length - k.toNat := by rw [List.length_drop]
        have hne : es.drop k.toNat ≠ [] → es ≠ [] := fun h e => h (by rw [e]; simp)
        have hne2 : es.drop k.toNat ≠ [] → ¬ cap = k.toNat := fun h e => h (by rw [List.drop_of_length_le (by omega)])
        have hget : ∀ (i : Nat) (e : List AV), (es.drop k.toNat)[i]? = some e → es[k.toNat + i]? = some e := fun i e h => by
          rw [List.getElem?_drop] at h; exact h
        have hsz : es ≠ [] → sz = n := fun h => by
          cases es with
          | nil => exact absurd rfl h
          | cons x r => rw [← hz x List.mem_cons_self, hes x List.mem_cons_self]
        have hfin := VR.lst (C := C) (es.drop k.toNat) (if cap = k.toNat then ad else ad.add (k.toNat * n)) sz (cap - k.toNat) cells elem fz (fun i j => xs (k.toNat + i) j)
          (fun h => by rw [if_neg (hne2 h)]; exact adS _ _ (hs (hne h))) (fun h => by rw [if_neg (hne2 h)]; rw [adB]; exact hb (hne h)) (fun e he => hz e (List.mem_of_mem_drop he))
          (fun i e j c g1 g2 => by
            have hm : es.drop k.toNat ≠ [] := fun e => by rw [e] at g1; simp at g1
            rw [if_neg (hne2 hm), ← hc (k.toNat + i) e j c (hget i e g1) g2]
            congr 1
            have := hsz (hne hm)
            subst this
            rw [adO, Nat.add_mul]; omega)
          (fun i e j c g1 g2 => hvv _ e j c (hget i e g1) g2) (fun i e j c g1 g2 => ho' _ e j c (hget i e g1) g2) (by omega)
        rw [hl] at hfin
        exact hfin
end
section
variable {P : Program} {ro : Option Nat} {Q : Exit → St → Prop} {s : St} {ops : Array Oper} {o : Oper} {rest : List Oper}
/-- A list beside nil: an empty one may be. -/
theorem aops_isNil {t e : Nat} {p : Operand} {es : List (List AV)} [hu : UD P t (.slice e)] (hw : Wanted ops s.T o true) (hd : dok o.dst s.n = true)
    (ho : o.op = .binOp .eql t p (.const (.slice none 0 0)) t) (hp : ev s.T p = some (.lst es))
    (h : ∀ b, (b = true → es = []) → AOps P ro ops rest Q { s with T := put s.T o.dst (.v (.bool b)) }) : AOps P ro ops (o :: rest) Q s := by
  refine aops_step hw ?_
  intro Z C0 H0 w0 C a w hx0 hs
  have hpv := hs.ev hp
  have key : ∀ b, (o.semAt ro a.eval).run P w = .ok (.value (.bool b)) w → (b = true → es = []) →
      o.uponIn (Wd ro) 0 P a (Sat Z C0 H0 w0 (AOps P ro ops rest Q)) (fun e a' w' => match e with | .panic ch => Sat Z C0 H0 w0 ((fun ch => Q (.panic ch)) ch) a' w' | _ => False) ((o.semAt ro a.eval).run P w) := by
    intro b hr hb
    rw [hr]
    exact ⟨C, _, h b hb, hs.put (Ctx.Le.refl C) hs.wr (dok_spec hd) (.v _), hx0⟩
  generalize hav : a.eval p = u at hpv
  have run : ∀ (x : Option Addr) (n c : Nat), u = .slice x n c → (o.semAt ro a.eval).run P w = .ok (.value (.bool x.isNone)) w := by
    rintro x n c rfl
    rw [Oper.semAt_eq _ _ _ (by intro c; rw [ho]; nofun)]
    have hc0 : a.eval (.const (.slice none 0 0)) = .slice none 0 0 := rfl
    simp [execOp, ho, hav, hc0, eqGuard, binOp, Op.equal, Op.maxDepth, Lib.run_equalIn_slice_nil w 9999 t e x n c 0 0 hu.ud, Sem.run_bind, Result.andThen]
  cases hpv with
  | lstNil => exact key _ (run _ _ _ rfl) (fun _ => rfl)
  | lst _ ad sz cap cells elem fz xs hs' => exact key _ (run _ _ _ rfl) (fun h => by cases h)
/-- The end of an owned row is cleared: what lies ahead of it stays, and no more is known of. -/
theorem aops_clearC {t e id el off len n : Nat} {p : Operand} {z : Value} {es : List (List AV)} (k : Nat) [hu : UD P t (.slice e)] [hz : ZV P e z] (hzc : z.cells.size = n) (hz1 : ∀ v, v ∈ z.cells.toList → v.oneCell' = true) (hw : Wanted ops s.T o true) (hd : dok o.dst s.n = true)
    (ho : o.op = .call { callee := .builtin .clear, args := #[p], argTypes := #[t] }) (hp : ev s.T p = some (.own id n off len)) (hH : s.H[k]? = some (id, .rows el n es))
    (h : AOps P ro ops rest Q { s with T := put s.T o.dst (.tup []), H := s.H.set k (id, .rows el n (es.take off)) }) : AOps P ro ops (o :: rest) Q s := by
  refine aops_step hw ?_
  intro Z C0 H0 w0 C a w hx0 hs
  obtain ⟨hu', hlenx, hor⟩ := hs.wr.ids _ _ (List.mem_of_getElem? hH)
  have htup : ∀ C' : Ctx, VR C' (.tup []) (.tuple #[]) := fun C' => .tup _ _ rfl (fun i c x hc => by simp at hc)
  have hle1 : ∀ e' : List AV, e' ∈ es.take off → e'.length = n := fun e' he => hlenx e' (List.mem_of_mem_take he)
  have hsem : ∀ (v : Value) (w' : World), (Builtin.clear_ #[t] o.type #[a.eval p]).run P w = .ok v w' → (o.semAt ro a.eval).run P w = .ok (.value v) w' := fun v w' hv => by
    rw [Oper.semAt_eq _ _ _ (by intro c; rw [ho]; nofun)]
    simp [execOp, ho, resolve, invoke, builtin, hv, Result.andThen, Sem.run_bind]
  have stay : (∀ b N cells, C.m id = some (b, N) → w.heap[b]? = some (.cells cells el (0, 0)) → True) → (o.semAt ro a.eval).run P w = .ok (.value (.tuple #[])) w →
      o.uponIn (Wd ro) 0 P a (Sat Z C0 H0 w0 (AOps P ro ops rest Q)) (fun e a' w' => match e with | .panic ch => Sat Z C0 H0 w0 ((fun ch => Q (.panic ch)) ch) a' w' | _ => False) ((o.semAt ro a.eval).run P w) := by
    intro _ hr
    rw [hr]
    obtain ⟨hw1, he1⟩ := repl_at (Z := Z) (C' := C) (id' := id) (o' := .rows el n (es.take off)) (w' := w) hs.wr hH (.refl C) rfl (.inl rfl) hu' (fun _ _ h => h) rfl rfl rfl (Nat.le_refl _) (fun b N' hm' => .inl ⟨N', hm'⟩) (fun _ _ _ => rfl) (by
      refine ⟨hle1, ?_⟩
      rcases hor with ⟨hm0, rfl⟩ | ⟨b', N', cells, hmb', hh, hsN, hfit, hrow⟩
      · exact .inl ⟨hm0, by simp⟩
      · refine .inr ⟨b', N', cells, hmb', hh, hsN, ?_, ?_⟩
        · rw [List.length_take]
          exact Nat.le_trans (Nat.mul_le_mul_right _ (Nat.min_le_right _ _)) hfit
        · intro i e' j c he' hc
          rw [List.getElem?_take] at he'
          split at he'
          · exact hrow i e' j c he' hc
          · cases he')
    exact ⟨C, _, h, hs.put he1.le hw1 (dok_spec hd) (htup C), hx0.trans he1⟩
  have hpv := hs.ev hp
  generalize hav : a.eval p = u at hpv hsem
  cases hpv with
  | ownNil _ _ hid hiu =>
    exact stay (fun _ _ _ _ _ => trivial) (hsem _ _ (by simp [Builtin.clear_, Go.run_underlying hu.ud]))
  | own _ _ _ _ b N cap hid _ hcap hlc hcm =>
    cases len with
    | zero => exact stay (fun _ _ _ _ _ => trivial) (hsem _ _ (by simp [Builtin.clear_, Go.run_underlying hu.ud]))
    | succ m =>
      rcases hor with ⟨hm0, _⟩ | ⟨b', N', cells, hmb', hh, hsN, hfit, hrow⟩
      · rw [hid] at hm0; cases hm0
      · rw [hid] at hmb'; cases hmb'
        have hL1 : (Builtin.zeroCells z.cells (m + 1)).toList.length = (m + 1) * n := by simp [Builtin.zeroCells, hzc]
        have hL2 : ∀ v, v ∈ (Builtin.zeroCells z.cells (m + 1)).toList → v.oneCell' = true := by
          intro v hv'
          simp only [Builtin.zeroCells, Array.toList_map, Array.toList_range, List.mem_map, List.mem_range] at hv'
          obtain ⟨i, hi, rfl⟩ := hv'
          have hn0 : 0 < z.cells.size := by
            rcases Nat.eq_zero_or_pos z.cells.size with h0 | h0
            · rw [h0] at hi; omega
            · exact h0
          have hm := Nat.mod_lt i hn0
          rw [getElem!_pos z.cells (i % z.cells.size) hm]
          exact hz1 _ (Array.getElem_mem_toList hm)
        generalize hLL : (Builtin.zeroCells z.cells (m + 1)).toList = L at hL1 hL2
        have hfit' : off * n + (m + 1) * n ≤ N := by
          rw [← hcap, ← Nat.add_mul]; exact Nat.mul_le_mul_right _ (by omega)
        have hst := run_storeCells_at (P := P) b (off * n) el L 0 cells w hh (by omega) hL2
        simp only [Nat.add_zero] at hst
        have hr := hsem (.tuple #[]) (w.setRow b (cells.toList.take (off * n) ++ L ++ cells.toList.drop (off * n + L.length)).toArray) (by
          simp [Builtin.clear_, Go.run_underlying hu.ud, run_zero hz.zv, hLL, hst, Sem.run_bind, Result.andThen])
        rw [hr]
        obtain ⟨hw1, he1⟩ := repl_at (Z := Z) (C' := C) (id' := id) (o' := .rows el n (es.take off)) (w' := w.setRow b (cells.toList.take (off * n) ++ L ++ cells.toList.drop (off * n + L.length)).toArray) hs.wr hH (.refl C) rfl (.inl rfl) hu' (fun _ _ h => h) rfl rfl rfl (by simp [World.setRow])
          (fun b N' hm' => .inl ⟨N', hm'⟩) (fun b2 hb2 hne => setRow_other w b b2 _ (by rintro rfl; exact hne _ hid)) (by
            refine ⟨hle1, .inr ⟨b, N, _, hid, setRow_heap w b cells _ el (0, 0) hh, ?_, ?_, ?_⟩⟩
            · simp only [List.size_toArray, List.length_append, List.length_take, List.length_drop, Array.length_toList]
              omega
            · rw [List.length_take]
              exact Nat.le_trans (Nat.mul_le_mul_right _ (Nat.min_le_right _ _)) hfit
            · intro i e' j c he' hc
              rw [List.getElem?_take] at he'
              split at he'
              · rename_i hio
                obtain ⟨x, h3, h4⟩ := hrow i e' j c he' hc
                have hj : j < n := by have := hlenx e' (List.mem_of_getElem? he'); have := lt_of_get hc; omega
                have hij : i * n + j < off * n := by
                  have : (i + 1) * n ≤ off * n := Nat.mul_le_mul_right _ (by omega)
                  rw [Nat.add_mul] at this; omega
                refine ⟨x, ?_, h4⟩
                have hlt := (Array.getElem?_eq_some_iff.1 h3).1
                rw [List.getElem?_toArray, List.append_assoc, List.getElem?_append_left (by simp only [List.length_take, Array.length_toList]; omega), List.getElem?_take, if_pos (by omega), Array.getElem?_toList]
                exact h3
              · cases he')
        exact ⟨C, _, h, hs.put he1.le hw1 (dok_spec hd) (htup C), hx0.trans he1⟩
end
/-- A row that is handed back is handed back for good. -/
theorem acalls_frz {P : Program} {f : Nat} {xs : List AV} {el n : Nat} {α : Type} {g : α → List AV} {φ : List α → Prop}
    (h : ACalls P f xs [] (GP (fun r : Nat × List α => .own r.1 n 0 r.2.length) (fun r => [(r.1, .rows el n (r.2.map g))]) (fun r => φ r.2))) : ACalls P f xs [] (GSome (fun l : List α => .lst (l.map g)) φ) := by
  refine ⟨h.ok, fun Z C w vs hw hv => (h.run Z C w vs hw hv).mono ?_⟩
  rintro e w' ⟨C', H', x, ⟨⟨q, l⟩, hφ, rfl, rfl⟩, hw', he', hx⟩
  cases e with
  | panicked ch => exact hx.elim
  | outgrown => exact hx.elim
  | returned v =>
    obtain ⟨b, ob, h1, h2, h3, h4, h5, h6⟩ := frz hw'
    refine ⟨C'.hpSet b ob, [], _, ⟨l, hφ, rfl, rfl⟩, h4, he'.trans ⟨h5, fun _ _ h => h, rfl, rfl, rfl, Nat.le_refl _, fun _ _ _ => rfl, ?_, ?_, ?_⟩, h6 v _ (by simp) hx⟩
    · intro x o hx
      simp only [Ctx.hpSet] at hx
      split at hx
      · rename_i e
        obtain ⟨_, N, hm⟩ := h2 x e
        exact .inr (.inr ⟨q, _, N, List.mem_cons_self, hm⟩)
      · exact .inl ⟨o, hx⟩
    · rintro x ⟨i, o, N, hi, hm⟩
      cases hi
    · intro i o hi
      cases hi
theorem gs_gives {P : Program} {f : Nat} {xs : List AV} {α : Type} {g : α → AV} {φ : α → Prop} {v : α} (h : ACalls P f xs [] (GSome g φ)) (he : ∀ a, φ a → a = v) : ACalls P f xs [] (Gives (g v)) :=
  h.mono fun e H' ⟨a, h1, h2, h3⟩ => ⟨by rw [h2, he a h1], h3⟩
theorem acalls_frzD {P : Program} {f : Nat} {xs : List AV} {el n : Nat} {α : Type} {g : α → List AV} {l : List α}
    (h : ACalls P f xs [] (GP (fun q : Nat => .own q n 0 l.length) (fun q => [(q, .rows el n (l.map g))]) (fun _ => True))) : ACalls P f xs [] (Gives (.lst (l.map g))) := by
  refine gs_gives (g := fun l : List α => .lst (l.map g)) (φ := fun m => m = l) (acalls_frz (el := el) (n := n) (h.mono fun e H' hR => ?_)) (fun a h => h)
  obtain ⟨q, _, h1, h2⟩ := hR
  exact ⟨(q, l), rfl, h1, h2⟩
theorem perm_get3 {H : AHeap} {k j i : Nat} {p q r : Nat × AObj} (h : H[k]? = some p) (h2 : (H.eraseIdx k)[j]? = some q) (h3 : ((H.eraseIdx k).eraseIdx j)[i]? = some r) : H.Perm ([p, q, r] ++ ((H.eraseIdx k).eraseIdx j).eraseIdx i) :=
  (perm_get h).trans (((perm_get h2).trans ((perm_get h3).cons q)).cons p)
end Go.Sx
