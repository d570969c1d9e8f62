/- Out of a reading of the arguments: abstract values, typed. -/
import Derived.Test.YtaphgfiboidpbaaBaSxRange
import Derived.SizedLaws
import Derived.DataReads
set_option linter.unusedSimpArgs false
set_option linter.unusedVariables false
namespace Go.Sx
open Go

/-- Cells that are, one by one, what these abstract values say. -/
def Cov (C : Ctx) (xs : List AV) (cs : List Value) : Prop := xs.length = cs.length ∧ ∀ (i : Nat) (x : AV) (c : Value), xs[i]? = some x → cs[i]? = some c → VR C x c ∧ c.oneCell' = true

theorem Cov.nil {C : Ctx} : Cov C [] [] := ⟨rfl, by intro i x c h; simp at h⟩
theorem Cov.one {C : Ctx} {x : AV} {c : Value} (h : VR C x c) (h1 : c.oneCell' = true) : Cov C [x] [c] :=
  ⟨rfl, fun i y d hy hd => by
    cases i with
    | zero => simp at hy hd; subst hy; subst hd; exact ⟨h, h1⟩
    | succ i => simp at hy⟩
theorem Cov.append {C : Ctx} {xs ys : List AV} {cs ds : List Value} (h : Cov C xs cs) (k : Cov C ys ds) : Cov C (xs ++ ys) (cs ++ ds) := by
  refine ⟨by simp [h.1, k.1], fun i x c hx hc => ?_⟩
  rcases Nat.lt_or_ge i xs.length with hlt | hge
  · rw [List.getElem?_append_left hlt] at hx
    rw [List.getElem?_append_left (by rw [← h.1]; exact hlt)] at hc
    exact h.2 i x c hx hc
  · rw [List.getElem?_append_right hge] at hx
    rw [List.getElem?_append_right (by rw [← h.1]; exact hge), ← h.1] at hc
    exact k.2 _ x c hx hc

inductive TV (P : Program) : TypeId → List AV → Prop
  | bool {t : TypeId} (b : Bool) (h : P.underlying t = some .bool) : TV P t [.v (.bool b)]
  | int {t : TypeId} {k : IntKind} (n : Int) (h : P.underlying t = some (.int k)) (hn : (Lit.int k n).wf = true) : TV P t [.v (.int k n)]
  | string {t : TypeId} (s : ByteArray) (h : P.underlying t = some .string) (hs : s.size ≤ reachBytes) : TV P t [.v (.string s)]
  | slice {t e : TypeId} (es : List (List AV)) (h : P.underlying t = some (.slice e)) (hl : es.length * P.bytesOf e ≤ reachBytes) (hm : es.length ≤ maxLen) (he : ∀ x : List AV, x ∈ es → TV P e x) : TV P t [.lst es]
  | struct {t : TypeId} {fs : Array Field} (parts : List (List AV)) (h : P.underlying t = some (.struct fs)) (hl : parts.length = fs.size) (hp : ∀ (i : Nat) (f : Field) (x : List AV), fs[i]? = some f → parts[i]? = some x → TV P f.type x) : TV P t parts.flatten
  | array {t e : TypeId} {n : Nat} (parts : List (List AV)) (h : P.underlying t = some (.array n e)) (hl : parts.length = n) (hp : ∀ x : List AV, x ∈ parts → TV P e x) : TV P t parts.flatten

def tight (P : Program) : List Field → Nat → Nat → Bool
  | [], off, to => off == to
  | f :: fs, off, to => f.offset == off && tight P fs (off + P.cellsOf f.type) to

/-- A type that is read whole: numbers, texts, lists, structs, arrays. -/
def okT (P : Program) : Nat → TypeId → Bool
  | 0, _ => false
  | n + 1, t => match P.underlying t with
    | some .bool => true
    | some (.int _) => true
    | some .string => true
    | some (.slice e) => Nat.blt 0 (P.cellsOf e) && okT P n e
    | some (.struct fs) => tight P fs.toList 0 (P.cellsOf t) && fs.toList.all fun f => okT P n f.type
    | some (.array k e) => Nat.beq (P.cellsOf t) (k * P.cellsOf e) && okT P n e
    | _ => false

section
variable {H : Type} {P : Program}
theorem weights_all {e : TypeId} {M : Nat} : ∀ {l : List (DataW H)}, (∀ n ∈ DataW.weightsAll P e l, n ≤ M) → ∀ d ∈ l, ∀ n ∈ d.weights P e, n ≤ M
  | [], _, d, hd, _, _ => by cases hd
  | x :: l, h, d, hd, n, hn => by
    simp only [DataW.weightsAll, List.mem_append] at h
    rcases List.mem_cons.1 hd with rfl | hd
    · exact h n (.inl hn)
    · exact weights_all (fun n hn => h n (.inr hn)) d hd n hn
end

def baseC (w : World) : Ctx := ⟨fun b => w.heap[b]?, fun _ => none, []⟩

theorem baseC_wr (w : World) : WR (baseC w) [] w := ⟨fun _ _ h => h, List.nodup_nil, nofun, nofun, fun b ⟨i, o, N, h, _⟩ => by cases h⟩

theorem cells?_get {w : World} {a : Addr} {n : Nat} {cs : List Value} (h : w.cells? 0 a n = some cs) : cs.length = n ∧ ∀ (j : Nat) (c : Value), cs[j]? = some c → w.cell? (a.add j) = some c := by
  unfold World.cells? at h
  rw [if_pos (Nat.zero_le _)] at h
  have hl := mapM_some_length h
  rw [List.length_range] at hl
  refine ⟨hl, fun j c hc => ?_⟩
  have hj : j < n := by rw [← hl]; exact (List.getElem?_eq_some_iff.1 hc).1
  have := mapM_some_get h j j (by rw [List.getElem?_range hj])
  rw [this]; exact hc

theorem add_off (a : Addr) (k : Nat) : (a.add k).block = a.block ∧ (a.add k).off = a.off + k ∧ (a.spot = none → (a.add k).spot = none) := by
  unfold Addr.add
  split
  · rename_i h; subst h; exact ⟨rfl, rfl, id⟩
  · exact ⟨rfl, rfl, fun _ => rfl⟩

theorem cell?_at {w : World} {a : Addr} {c : Value} (h : w.cell? a = some c) : ∃ cells el fz, w.heap[a.block]? = some (.cells cells el fz) ∧ a.spot = none ∧ cells[a.off]? = some c := by
  unfold World.cell? at h
  split at h
  · rename_i cells el fz hh
    split at h
    · cases h
    · rename_i hs
      exact ⟨cells, el, fz, hh, by simpa using hs, h⟩
  · cases h

section
variable {H : Type} {enc : TypeId × Value → H} {P : Program} {w : World}

theorem open_all (M : Nat) (hM : M = reachBytes) : ∀ (n : Nat) (t : TypeId), okT P n t = true → ∀ (fuel : Nat) (cs : List Value) (d : DataW H) (ps : List MemPlace),
    DataW.trod enc P w 0 (fun _ => true) true fuel t cs = some (d, ps) → (∀ k ∈ d.weights P t, k ≤ M) → ∃ xs, Cov (baseC w) xs cs ∧ TV P t xs := by
  intro n
  induction n with
  | zero => intro t h; cases h
  | succ n ih =>
    intro t hok fuel cs d ps h hw
    cases fuel with
    | zero => simp [DataW.trod] at h
    | succ fuel =>
    unfold okT at hok
    cases hu : P.underlying t with
    | none => rw [hu] at hok; cases hok
    | some u =>
    rw [hu] at hok
    cases u with
    | bool =>
      unfold DataW.trod at h
      rw [hu] at h
      split at h <;> simp_all
      exact ⟨_, .one (.v _) rfl, .bool _ hu⟩
    | int k =>
      unfold DataW.trod at h
      rw [hu] at h
      split at h <;> simp_all
      exact ⟨_, .one (.v _) rfl, .int _ hu h.1.2⟩
    | string =>
      unfold DataW.trod at h
      rw [hu] at h
      split at h
      all_goals try (rename_i h1; simp at h1; done)
      all_goals try (simp at h; done)
      rename_i s h1
      split at h
      · simp only [Option.some.injEq, Prod.mk.injEq] at h
        obtain ⟨rfl, rfl⟩ := h
        refine ⟨_, .one (.v _) rfl, .string _ hu ?_⟩
        have := hw s.data.toList.length (by simp [DataW.weights])
        rw [hM] at this
        simpa using this
      · cases h
    | slice e =>
      simp only [Bool.and_eq_true] at hok
      obtain ⟨hpos, hoke⟩ := hok
      have hpos : 0 < P.cellsOf e := Nat.blt_eq ▸ hpos
      unfold DataW.trod at h
      rw [hu] at h
      split at h
      all_goals try (rename_i h1; simp at h1; done)
      all_goals try (simp at h; done)
      · simp only [Option.some.injEq, Prod.mk.injEq] at h
        exact ⟨[.lst []], .one .lstNil rfl, .slice [] hu (by simp) (by simp) nofun⟩
      · rename_i e' a len cap h1
        simp only [Option.some.injEq, TypeDesc.slice.injEq] at h1
        subst h1
        split at h
        · rename_i hb
          obtain ⟨elems, hel, h⟩ := Option.bind_eq_some_iff.1 h
          rw [if_pos rfl] at h
          obtain ⟨rest, hrest, h⟩ := Option.map_eq_some_iff.1 h
          simp only [Prod.mk.injEq] at h
          obtain ⟨rfl, rfl⟩ := h
          have hlen : elems.length = len := by rw [mapM_some_length hel, List.length_range]
          simp only [DataW.weights, hu, List.mem_cons, List.mem_append, forall_eq_or_imp] at hw
          obtain ⟨hw1, hw2⟩ := hw
          have each : ∀ i, i < len → ∃ cs' xs, w.cells? 0 (a.add (i * P.cellsOf e)) (P.cellsOf e) = some cs' ∧ Cov (baseC w) xs cs' ∧ TV P e xs := by
            intro i hi
            have hg := mapM_some_get hel i i (by rw [List.getElem?_range hi])
            have hi' : i < elems.length := by omega
            rw [List.getElem?_eq_getElem hi'] at hg
            obtain ⟨cs', hc, hd⟩ := Option.bind_eq_some_iff.1 hg
            obtain ⟨xs, hx, ht⟩ := ih e hoke fuel cs' elems[i].1 elems[i].2 hd (weights_all (fun n hn => hw2 n (.inl hn)) elems[i].1 (List.mem_map.2 ⟨elems[i], List.getElem_mem hi', rfl⟩))
            exact ⟨cs', xs, hc, hx, ht⟩
          classical
          let f : Nat → List Value := fun i => if hi : i < len then (each i hi).choose else []
          let g : Nat → List AV := fun i => if hi : i < len then (each i hi).choose_spec.choose else []
          have hfg : ∀ i, i < len → w.cells? 0 (a.add (i * P.cellsOf e)) (P.cellsOf e) = some (f i) ∧ Cov (baseC w) (g i) (f i) ∧ TV P e (g i) := by
            intro i hi
            simp only [f, g, dif_pos hi]
            exact (each i hi).choose_spec.choose_spec
          let es := (List.range len).map g
          have hes : es.length = len := by simp [es]
          have hget : ∀ (i : Nat) (x : List AV), es[i]? = some x → i < len ∧ x = g i := by
            intro i x hx
            have hi : i < len := by rw [← hes]; exact (List.getElem?_eq_some_iff.1 hx).1
            refine ⟨hi, ?_⟩
            simp only [es, List.getElem?_map, List.getElem?_range hi, Option.map_some, Option.some.injEq] at hx
            exact hx.symm
          have hz : ∀ x : List AV, x ∈ es → x.length = P.cellsOf e := by
            intro x hx
            obtain ⟨i, hi, rfl⟩ := List.mem_map.1 hx
            have hi := List.mem_range.1 hi
            rw [(hfg i hi).2.1.1, (cells?_get (hfg i hi).1).1]
          refine ⟨[.lst es], .one ?_ rfl, .slice es hu ?_ (by omega) ?_⟩
          · have hcell : ∀ (i j : Nat) (c : Value), i < len → (f i)[j]? = some c → w.cell? ((a.add (i * P.cellsOf e)).add j) = some c := fun i j c hi hc => (cells?_get (hfg i hi).1).2 j c hc
            have first : ∀ i j c, i < len → (f i)[j]? = some c → ∃ cells el fz, w.heap[a.block]? = some (.cells cells el fz) ∧ (a.spot = none ∨ i * P.cellsOf e + j ≠ 0) ∧ cells[a.off + i * P.cellsOf e + j]? = some c := by
              intro i j c hi hc
              obtain ⟨cells, el, fz, hh, hs, hcc⟩ := cell?_at (hcell i j c hi hc)
              obtain ⟨b1, o1, s1⟩ := add_off a (i * P.cellsOf e)
              obtain ⟨b2, o2, s2⟩ := add_off (a.add (i * P.cellsOf e)) j
              rw [b2, b1] at hh
              rw [o2, o1] at hcc
              refine ⟨cells, el, fz, hh, ?_, hcc⟩
              rcases Nat.eq_zero_or_pos (i * P.cellsOf e + j) with h0 | h0
              · have e1 : i * P.cellsOf e = 0 := by omega
                have e2 : j = 0 := by omega
                rw [e1, e2] at hs
                left
                simpa [Addr.add] using hs
              · right; omega
            have start : es ≠ [] → a.spot = none ∧ ∃ cells el fz, w.heap[a.block]? = some (.cells cells el fz) := by
              intro hne
              have hl : 0 < len := by
                rcases Nat.eq_zero_or_pos len with h0 | h0
                · exact absurd (List.eq_nil_of_length_eq_zero (by rw [hes, h0])) hne
                · exact h0
              have hf0 : 0 < (f 0).length := by rw [(cells?_get (hfg 0 hl).1).1]; exact hpos
              obtain ⟨cells, el, fz, hh, hs, _⟩ := first 0 0 _ hl (List.getElem?_eq_getElem hf0)
              refine ⟨?_, cells, el, fz, hh⟩
              rcases hs with hs | hs
              · exact hs
              · simp at hs
            have hcells : ∃ cells el fz, (es ≠ [] → w.heap[a.block]? = some (.cells cells el fz)) := by
              by_cases hne : es = []
              · exact ⟨#[], 0, (0, 0), fun h => absurd hne h⟩
              · obtain ⟨_, c, el, fz, hh⟩ := start hne
                exact ⟨c, el, fz, fun _ => hh⟩
            obtain ⟨cells, el, fz, hh⟩ := hcells
            rw [← hes]
            have key : ∀ (i : Nat) (x : List AV) (j : Nat) (c : AV), es[i]? = some x → x[j]? = some c → ∃ v, (f i)[j]? = some v ∧ cells[a.off + i * P.cellsOf e + j]? = some v ∧ VR (baseC w) c v ∧ v.oneCell' = true := by
              intro i x j c hx hc
              obtain ⟨hi, rfl⟩ := hget i x hx
              have hj : j < (f i).length := by rw [← (hfg i hi).2.1.1]; exact (List.getElem?_eq_some_iff.1 hc).1
              have hv := List.getElem?_eq_getElem hj
              obtain ⟨cells', el', fz', h1, _, h2⟩ := first i j _ hi hv
              have hne : es ≠ [] := by intro h0; rw [h0] at hx; simp at hx
              rw [hh hne] at h1
              cases h1
              obtain ⟨h3, h4⟩ := (hfg i hi).2.1.2 j c _ hc hv
              exact ⟨_, hv, h2, h3, h4⟩
            refine .lst es a (P.cellsOf e) cap cells el fz (fun i j => ((f i)[j]?).getD default) (fun hne => (start hne).1) hh hz ?_ ?_ ?_ (by omega)
            · intro i x j c hx hc
              obtain ⟨v, h1, h2, _⟩ := key i x j c hx hc
              rw [h2, h1]; rfl
            · intro i x j c hx hc
              obtain ⟨v, h1, _, h3, _⟩ := key i x j c hx hc
              rw [h1]; exact h3
            · intro i x j c hx hc
              obtain ⟨v, h1, _, _, h4⟩ := key i x j c hx hc
              rw [h1]; exact h4
          · rw [hes]
            have : len * P.bytesOf e ≤ ((elems.map (·.1)).length + (rest.map (·.1)).length) * P.bytesOf e := Nat.mul_le_mul_right _ (by simp; omega)
            omega
          · intro x hx
            obtain ⟨i, hi, rfl⟩ := List.mem_map.1 hx
            exact (hfg i (List.mem_range.1 hi)).2.2
        · cases h
    | struct fs =>
      simp only [Bool.and_eq_true] at hok
      obtain ⟨htight, hall⟩ := hok
      simp only [DataW.trod, hu] at h
      split at h
      · rename_i hlen
        obtain ⟨ys, hys, h⟩ := Option.map_eq_some_iff.1 h
        simp only [Prod.mk.injEq] at h
        obtain ⟨rfl, rfl⟩ := h
        simp only [DataW.weights, hu] at hw
        have claim : ∀ (fl : List Field) (off : Nat) (ys : List (DataW H × List MemPlace)), tight P fl off cs.length = true → (fl.all fun f => okT P n f.type) = true →
            fl.mapM (fun f => DataW.trod enc P w 0 (fun _ => true) true fuel f.type ((cs.drop f.offset).take (P.cellsOf f.type))) = some ys →
            (∀ k ∈ DataW.weightsEach P (fl.map (·.type)) (ys.map (·.1)), k ≤ M) →
            ∃ parts : List (List AV), parts.length = fl.length ∧ Cov (baseC w) parts.flatten (cs.drop off) ∧ ∀ (i : Nat) (f : Field) (x : List AV), fl[i]? = some f → parts[i]? = some x → TV P f.type x := by
          intro fl
          induction fl with
          | nil =>
            intro off ys ht _ _ _
            simp only [tight, beq_iff_eq] at ht
            refine ⟨[], rfl, ?_, by intro i f x h; simp at h⟩
            subst ht
            simpa using (Cov.nil (C := baseC w))
          | cons f fl ihf =>
            intro off ys ht ha hm hwt
            simp only [tight, Bool.and_eq_true, beq_iff_eq] at ht
            simp only [List.all_cons, Bool.and_eq_true] at ha
            simp only [List.mapM_cons, Option.pure_def, Option.bind_eq_bind] at hm
            obtain ⟨y, hy, hm⟩ := Option.bind_eq_some_iff.1 hm
            obtain ⟨yr, hyr, hm⟩ := Option.bind_eq_some_iff.1 hm
            cases hm
            simp only [List.map_cons, DataW.weightsEach, List.mem_append] at hwt
            obtain ⟨xs, hx, hxt⟩ := ih f.type ha.1 fuel _ y.1 y.2 hy (fun k hk => hwt k (.inl hk))
            obtain ⟨parts, hpl, hpc, hpt⟩ := ihf _ yr ht.2 ha.2 hyr (fun k hk => hwt k (.inr hk))
            refine ⟨xs :: parts, by simp [hpl], ?_, ?_⟩
            · rw [List.flatten_cons]
              have e1 : cs.drop off = (cs.drop f.offset).take (P.cellsOf f.type) ++ cs.drop (off + P.cellsOf f.type) := by
                rw [ht.1, ← List.drop_drop, List.take_append_drop]
              rw [e1]
              exact hx.append hpc
            · intro i g x hg hxx
              cases i with
              | zero => simp at hg hxx; subst hg; subst hxx; exact hxt
              | succ i => simp at hg hxx; exact hpt i g x hg hxx
        obtain ⟨parts, hpl, hpc, hpt⟩ := claim fs.toList 0 ys (by rw [hlen]; exact htight) hall hys hw
        rw [List.drop_zero] at hpc
        exact ⟨_, hpc, .struct parts hu (by simpa using hpl) (fun i f x hf hx => hpt i f x (by simpa using hf) hx)⟩
      · cases h
    | array k' e' =>
      simp only [Bool.and_eq_true] at hok
      obtain ⟨hsz, hoke⟩ := hok
      have hsz := Nat.eq_of_beq_eq_true hsz
      simp only [DataW.trod, hu] at h
      split at h
      · rename_i hlen
        obtain ⟨ys, hys, h⟩ := Option.map_eq_some_iff.1 h
        simp only [Prod.mk.injEq] at h
        obtain ⟨rfl, rfl⟩ := h
        simp only [DataW.weights, hu] at hw
        have hyl : ys.length = k' := by rw [mapM_some_length hys, List.length_range]
        have claim : ∀ m, m ≤ k' → ∃ parts : List (List AV), parts.length = m ∧ Cov (baseC w) parts.flatten (cs.drop ((k' - m) * P.cellsOf e')) ∧ ∀ x : List AV, x ∈ parts → TV P e' x := by
          intro m
          induction m with
          | zero =>
            intro _
            refine ⟨[], rfl, ?_, nofun⟩
            have : cs.drop ((k' - 0) * P.cellsOf e') = [] := by rw [Nat.sub_zero, ← hsz, ← hlen]; simp
            rw [this]; exact .nil
          | succ m ihm =>
            intro hm
            obtain ⟨parts, hpl, hpc, hpt⟩ := ihm (by omega)
            have hi : k' - (m + 1) < k' := by omega
            have hg := mapM_some_get hys (k' - (m + 1)) (k' - (m + 1)) (by rw [List.getElem?_range hi])
            have hi' : k' - (m + 1) < ys.length := by omega
            rw [List.getElem?_eq_getElem hi'] at hg
            obtain ⟨xs, hx, hxt⟩ := ih e' hoke fuel _ ys[k' - (m + 1)].1 ys[k' - (m + 1)].2 hg (weights_all hw _ (List.mem_map.2 ⟨_, List.getElem_mem hi', rfl⟩))
            refine ⟨xs :: parts, by simp [hpl], ?_, ?_⟩
            · rw [List.flatten_cons]
              have e1 : cs.drop ((k' - (m + 1)) * P.cellsOf e') = (cs.drop ((k' - (m + 1)) * P.cellsOf e')).take (P.cellsOf e') ++ cs.drop ((k' - m) * P.cellsOf e') := by
                have : (k' - m) * P.cellsOf e' = (k' - (m + 1)) * P.cellsOf e' + P.cellsOf e' := by
                  rw [show k' - m = (k' - (m + 1)) + 1 from by omega, Nat.succ_mul]
                rw [this, ← List.drop_drop, List.take_append_drop]
              rw [e1]
              exact hx.append hpc
            · intro x hx
              rcases List.mem_cons.1 hx with rfl | hx
              · exact hxt
              · exact hpt x hx
        obtain ⟨parts, hpl, hpc, hpt⟩ := claim k' (Nat.le_refl _)
        rw [Nat.sub_self, Nat.zero_mul, List.drop_zero] at hpc
        exact ⟨_, hpc, .array parts hu hpl hpt⟩
      · cases h
    | _ => cases hok
end
end Go.Sx
