/- Stores, slices that are made and grown, structs that are built; seeing a state as a simpler one. -/
import Derived.Test.YtaphgfiboidpbaaBaSxDraw
set_option linter.unusedSimpArgs false
set_option linter.unusedVariables false
set_option linter.unnecessarySimpa false
namespace Go.Sx
open Go

section
variable {P : Program} {ro : Option Nat} {Q : Exit → St → Prop} {s : St} {ops : Array Oper} {o : Oper} {rest : List Oper}

/-! ### One step of a region, by the shapes in which it is met -/

theorem aops_e {x : AV} (hw : Wanted ops s.T o true) (hd : dok o.dst s.n = true)
    (he : Eff P o s.T [] x []) (h : AOps P ro ops rest Q { s with T := put s.T o.dst x }) : AOps P ro ops (o :: rest) Q s :=
  aops_eff [] x hw hd he nofun h
theorem aops_n {x : Nat → AV} {ob : Nat → AObj} (hw : Wanted ops s.T o true) (hd : dok o.dst s.n = true)
    (he : ∀ id, Eff P o s.T [] (x id) [(id, ob id)]) (h : ∀ id, AOps P ro ops rest Q { s with T := put s.T o.dst (x id), H := (id, ob id) :: s.H }) : AOps P ro ops (o :: rest) Q s :=
  aops_eff1 [] x ob hw hd he nofun h
theorem aops_load_ptr {t : TypeId} {p : Operand} {id sz i c el : Nat} {es : List (List AV)} {e : List AV} {x : AV} (k : Nat) (hw : Wanted ops s.T o true) (hd : dok o.dst s.n = true)
    (ho : o.op = .load t p) (hp : ev s.T p = some (.ptr id sz i c)) (hH : s.H[k]? = some (id, .rows el sz es)) (he : es[i]? = some e) (hl : Ld P t (e.drop c) x)
    (h : AOps P ro ops rest Q { s with T := put s.T o.dst x }) : AOps P ro ops (o :: rest) Q s :=
  aops_eff [(id, .rows el sz es)] x hw hd (eff_load ho hp ⟨el, es, e, List.mem_cons_self, he, rfl⟩ hl) (fun p hp => by rw [List.mem_singleton.1 hp]; exact List.mem_of_getElem? hH) h
variable {H0 : AHeap} {K : St → Prop} {k : Nat} {M : List (Nat × (Nat × AObj))}
theorem calm_e {x : AV} (hw : Wanted ops s.T o true) (hd : dok o.dst s.n = true)
    (he : Eff P o s.T [] x []) (h : Calm P ops H0 K (k + 1) rest M { s with T := put s.T o.dst x }) : Calm P ops H0 K k (o :: rest) M s :=
  .eff [] x hw hd he nofun h
theorem calm_n {x : Nat → AV} {ob : Nat → AObj} (hw : Wanted ops s.T o true) (hd : dok o.dst s.n = true)
    (he : ∀ id, Eff P o s.T [] (x id) [(id, ob id)]) (h : ∀ id, Calm P ops H0 K (k + 1) rest ((k, (id, ob id)) :: M) { s with T := put s.T o.dst (x id), H := (id, ob id) :: s.H }) : Calm P ops H0 K k (o :: rest) M s :=
  .eff1 [] x ob hw hd he nofun h
theorem calm_load_ptr {t : TypeId} {p : Operand} {id sz i c el : Nat} {es : List (List AV)} {e : List AV} {x : AV} (j : Nat) (hw : Wanted ops s.T o true) (hd : dok o.dst s.n = true)
    (ho : o.op = .load t p) (hp : ev s.T p = some (.ptr id sz i c)) (hH : H0[j]? = some (id, .rows el sz es)) (he : es[i]? = some e) (hl : Ld P t (e.drop c) x)
    (h : Calm P ops H0 K (k + 1) rest M { s with T := put s.T o.dst x }) : Calm P ops H0 K k (o :: rest) M s :=
  .eff [(id, .rows el sz es)] x hw hd (eff_load ho hp ⟨el, es, e, List.mem_cons_self, he, rfl⟩ hl) (fun p hp => .inl (by rw [List.mem_singleton.1 hp]; exact List.mem_of_getElem? hH)) h
/-! ### A state seen as a simpler one -/

def SubT (T : List (Nat × AV)) : List (Nat × AV) → Prop
  | [] => True
  | (t, x) :: r => lk T t = some x ∧ SubT T r

theorem SubT.lk {T : List (Nat × AV)} : ∀ {T' : List (Nat × AV)}, SubT T T' → ∀ t x, lk T' t = some x → lk T t = some x
  | [], _, t, x, h => by simp [Sx.lk] at h
  | (u, y) :: r, hs, t, x, h => by
    simp only [Sx.lk] at h
    cases hb : Nat.beq u t with
    | true =>
      have e := Nat.eq_of_beq_eq_true hb
      subst e
      simp only [hb, cond_true, Option.some.injEq] at h
      subst h; exact hs.1
    | false =>
      simp only [hb, cond_false] at h
      exact hs.2.lk t x h

/-- Some of a heap, by their places. -/
def pick (H : AHeap) : List Nat → Option AHeap
  | [] => some []
  | k :: r => match H[k]?, pick H r with
    | some p, some q => some (p :: q)
    | _, _ => none

theorem pick_spec {H : AHeap} : ∀ {ks : List Nat} {H' : AHeap}, pick H ks = some H' → (∀ p, p ∈ H' → ∃ k, k ∈ ks ∧ H[k]? = some p)
  | [], H', h => by simp only [pick, Option.some.injEq] at h; subst h; intro p hp; cases hp
  | k :: r, H', h => by
    simp only [pick] at h
    split at h
    · rename_i p q h1 h2
      simp only [Option.some.injEq] at h
      subst h
      intro x hx
      rcases List.mem_cons.1 hx with rfl | hx
      · exact ⟨k, List.mem_cons_self, h1⟩
      · obtain ⟨j, a, b⟩ := pick_spec h2 x hx
        exact ⟨j, List.mem_cons_of_mem _ a, b⟩
    · cases h

theorem pick_nodup {H : AHeap} (hn : (H.map Prod.fst).Nodup) : ∀ {ks : List Nat} {H' : AHeap}, pick H ks = some H' → ks.Nodup → (H'.map Prod.fst).Nodup
  | [], H', h, _ => by simp only [pick, Option.some.injEq] at h; subst h; exact List.nodup_nil
  | k :: r, H', h, hk => by
    simp only [pick] at h
    split at h
    · rename_i p q h1 h2
      simp only [Option.some.injEq] at h
      subst h
      rw [List.nodup_cons] at hk
      rw [List.map_cons, List.nodup_cons]
      refine ⟨?_, pick_nodup hn h2 hk.2⟩
      intro hm
      obtain ⟨x, hx, he⟩ := List.mem_map.1 hm
      obtain ⟨j, hj, hj2⟩ := pick_spec h2 x hx
      have e1 : (H.map Prod.fst)[k]? = some p.1 := by rw [List.getElem?_map, h1]; rfl
      have e2 : (H.map Prod.fst)[j]? = some p.1 := by rw [List.getElem?_map, hj2]; simp [he]
      have hkl : k < (H.map Prod.fst).length := (List.getElem?_eq_some_iff.1 e1).1
      have := (List.getElem?_inj hkl hn).1 (e1.trans e2.symm)
      subst this
      exact hk.1 hj
    · cases h

/-- Less is known, less is owned. -/
theorem weak_pick {s' : St} (ks : List Nat) (hT : SubT s.T s'.T) (hH : pick s.H ks = some s'.H) (hk : ks.Nodup) (hD : s'.D = s.D) (hn : s'.n = s.n) : Weak s s' := by
  intro Z C a w hs
  have hsub : ∀ p, p ∈ s'.H → p ∈ s.H := fun p hp => by obtain ⟨k, _, h⟩ := pick_spec hH p hp; exact List.mem_of_getElem? h
  exact ⟨C, ⟨hs.wr.sub hsub (pick_nodup hs.wr.nd hH hk), fun t x hx => hs.sl t x (hT.lk t x hx), by rw [hs.df, hD], by rw [hD]; exact hs.du, by rw [hs.sz, hn]⟩, Ext.sub hsub⟩

/-! ### Stores -/

theorem splice_get {α : Type} (l m : List α) (o p : Nat) (h : o + m.length ≤ l.length) : (l.take o ++ m ++ l.drop (o + m.length))[p]? = if p < o then l[p]? else if p < o + m.length then m[p - o]? else l[p]? := by
  have ho : (l.take o).length = o := by rw [List.length_take]; omega
  rw [List.getElem?_append]
  rw [List.length_append, ho]
  split
  · rename_i h1
    rw [List.getElem?_append, ho]
    split
    · rename_i h2; rw [List.getElem?_take, if_pos h2]
    · rfl
  · rename_i h1
    rw [if_neg (by omega), List.getElem?_drop]
    congr 1; omega

theorem mul_lt_row {i j sz k : Nat} (h : i < j) (hk : k < sz) : i * sz + k < j * sz := by
  have : (i + 1) * sz ≤ j * sz := Nat.mul_le_mul_right _ h
  rw [Nat.add_mul] at this
  omega

/-- A store into what is owned. k: its place in the heap. -/
theorem aops_store {t n id sz i c el : Nat} {b : Bool} {p q : Operand} {es : List (List AV)} {e : List AV} {x : AV} (k : Nat) [kt : TK P t b n] (hw : Wanted ops s.T o true) (hd : dok o.dst s.n = true)
    (ho : o.op = .store t p q) (hp : ev s.T p = some (.ptr id sz i c)) (hH : s.H[k]? = some (id, .rows el sz es)) (he : es[i]? = some e) (hq : ev s.T q = some x)
    (hx : (cellsA x).length = n) (h1 : (cellsA x).all one = true) (hc : Nat.ble (c + n) sz = true)
    (h : AOps P ro ops rest Q { s with T := put s.T o.dst (.v undef), H := s.H.set k (id, .rows el sz (es.set i (e.take c ++ cellsA x ++ e.drop (c + (cellsA x).length)))) }) : AOps P ro ops (o :: rest) Q s := by
  refine aops_step hw ?_
  intro Z C0 H0 w0 C a w hx0 hs
  have hc := Nat.le_of_ble_eq_true hc
  have hmem := List.mem_of_getElem? hH
  obtain ⟨hu, hlen, hor⟩ := hs.wr.ids _ _ hmem
  have hpv := hs.ev hp
  have hqv := hs.ev hq
  obtain ⟨hcl, hcr⟩ := cellsA_spec hqv
  have hone := ones hcl hcr h1
  have hel : e.length = sz := hlen e (List.mem_of_getElem? he)
  have hie : i < es.length := (List.getElem?_eq_some_iff.1 he).1
  rcases hor with ⟨hm, _⟩ | ⟨b', N, cells, hm, hh, hsz, hfit, hrow⟩
  · generalize a.eval p = u at hpv
    cases hpv with
    | ptr _ _ _ _ b2 N2 hid _ => rw [hm] at hid; cases hid
  · have hpe : a.eval p = .pointer (some ⟨b', i * sz + c, none⟩) := by
      generalize a.eval p = u at hpv
      cases hpv with
      | ptr _ _ _ _ b2 N2 hid _ => rw [hm] at hid; cases hid; rfl
    have hrowfit : i * sz + sz ≤ es.length * sz := by
      have : (i + 1) * sz ≤ es.length * sz := Nat.mul_le_mul_right _ hie
      rw [Nat.add_mul] at this; omega
    have hvs : (a.eval q).cells.toList.length = n := by rw [Array.length_toList, ← hcl, hx]
    have hst := run_storeCells_at P b' (i * sz + c) el (a.eval q).cells.toList 0 cells w hh (by rw [hvs]; omega) (by
      intro v hv
      obtain ⟨j, hj⟩ := List.mem_iff_getElem?.1 hv
      exact hone j v (by rw [← Array.getElem?_toList]; exact hj))
    simp only [Nat.add_zero] at hst
    have hrun : (o.semAt ro a.eval).run P w = .ok .skip (w.setRow b' (cells.toList.take (i * sz + c) ++ (a.eval q).cells.toList ++ cells.toList.drop (i * sz + c + (a.eval q).cells.toList.length)).toArray) := by
      rw [Oper.semAt_eq _ _ _ (by intro c; rw [ho]; nofun)]
      have hsz1 : (a.eval q).cells.size = n := by rw [← hcl, hx]
      simp [execOp, ho, Instr.storeAt, hpe, Instr.sureAddr, storeVar, run_sizeOf kt.tk, hsz1, Sem.run_bind, Result.andThen]
      rw [hst]
      simp [hsz1]
    rw [hrun]
    obtain ⟨hw1, he1⟩ := repl_at (Z := Z) (C' := C) (id' := id) (o' := .rows el sz (es.set i (e.take c ++ cellsA x ++ e.drop (c + (cellsA x).length))))
      (w' := w.setRow b' (cells.toList.take (i * sz + c) ++ (a.eval q).cells.toList ++ cells.toList.drop (i * sz + c + (a.eval q).cells.toList.length)).toArray) hs.wr hH (.refl C) rfl (.inl rfl) hu (fun _ _ h => h) rfl rfl rfl (by simp)
      (fun b N' hm' => .inl ⟨N', hm'⟩) (fun b hb hne => setRow_other w b' b _ (by rintro rfl; exact hne N hm)) (by
        refine ⟨?_, .inr ⟨b', N, _, hm, setRow_heap w b' cells _ el (0, 0) hh, ?_, by simpa using hfit, ?_⟩⟩
        · intro e' he'
          rcases List.mem_or_eq_of_mem_set he' with h2 | h2
          · exact hlen e' h2
          · subst h2
            simp only [List.length_append, List.length_take, List.length_drop]
            omega
        · simp only [List.size_toArray, List.length_append, List.length_take, List.length_drop, Array.length_toList]
          have := hvs
          rw [Array.length_toList] at this
          omega
        · intro i' e' j cc he' hcc
          rw [List.getElem?_toArray, splice_get _ _ _ _ (by rw [hvs, Array.length_toList]; omega), hvs]
          rw [List.getElem?_set] at he'
          by_cases hi : i = i'
          · subst hi
            rw [if_pos rfl, if_pos hie] at he'
            simp only [Option.some.injEq] at he'
            subst he'
            rw [splice_get _ _ _ _ (by omega), hx] at hcc
            have hjlt : j < sz := by
              rcases Nat.lt_or_ge j sz with h2 | h2
              · exact h2
              · rw [if_neg (by omega), if_neg (by omega), List.getElem?_eq_none (by omega)] at hcc; cases hcc
            by_cases hj1 : j < c
            · rw [if_pos hj1] at hcc
              rw [if_pos (by omega)]
              rw [Array.getElem?_toList]
              exact hrow i e j cc he hcc
            · rw [if_neg hj1] at hcc
              rw [if_neg (by omega)]
              by_cases hj2 : j < c + n
              · rw [if_pos hj2] at hcc
                rw [if_pos (by omega), show i * sz + j - (i * sz + c) = j - c from by omega]
                have hlt : j - c < (a.eval q).cells.size := by rw [← hcl]; exact (List.getElem?_eq_some_iff.1 hcc).1
                have hg : (a.eval q).cells[j - c]? = some (a.eval q).cells[j - c] := Array.getElem?_eq_getElem hlt
                exact ⟨_, by rw [Array.getElem?_toList]; exact hg, hcr _ _ _ hcc hg, hone _ _ hg⟩
              · rw [if_neg hj2] at hcc
                rw [if_neg (by omega), Array.getElem?_toList]
                exact hrow i e j cc he hcc
          · rw [if_neg hi] at he'
            have hel' : e'.length = sz := hlen e' (List.mem_of_getElem? he')
            have hj : j < sz := by rw [← hel']; exact (List.getElem?_eq_some_iff.1 hcc).1
            have hout : ¬ (i * sz + c ≤ i' * sz + j ∧ i' * sz + j < i * sz + c + n) := by
              rintro ⟨h2, h3⟩
              rcases Nat.lt_or_ge i i' with h4 | h4
              · have := mul_lt_row (k := c + n - 1) (sz := sz) h4 (by omega)
                omega
              · have h5 : i' < i := by omega
                have := mul_lt_row (k := j) (sz := sz) h5 hj
                omega
            have hg := hrow i' e' j cc he' hcc
            rw [← Array.getElem?_toList] at hg
            split
            · exact hg
            · split
              · exact (hout ⟨by omega, by omega⟩).elim
              · exact hg)
    exact ⟨C, _, h, hs.put he1.le hw1 (dok_spec hd) (.v undef), hx0.trans he1⟩

end
end Go.Sx
