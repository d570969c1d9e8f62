/- A law of data, out of a contract over typed abstract values. -/
import Derived.Test.YtaphgfiboidpbaaBaSxOpen
import Derived.ProofKit
import Derived.OpenShut
import Derived.Below
import Derived.Carry
set_option linter.unusedSimpArgs false
set_option linter.unusedVariables false
namespace Go.Sx
open Go Go.ChangeShapes Go.RowKit

/-- One argument, typed. -/
inductive TX (P : Program) (t : TypeId) : AV → Prop
  | one {x : AV} (h : TV P t [x]) : TX P t x
  | agg {xs : List AV} (h : TV P t xs) : TX P t (.agg xs)

def isAggT (P : Program) (t : TypeId) : Bool := match P.underlying t with
  | some (.struct _) => true
  | some (.array _ _) => true
  | _ => false

inductive TXs (P : Program) : List TypeId → List AV → Prop
  | nil : TXs P [] []
  | one {t : TypeId} {ts : List TypeId} {x : AV} {xs : List AV} (hn : isAggT P t = false) (h : TV P t [x]) (r : TXs P ts xs) : TXs P (t :: ts) (x :: xs)
  | agg {t : TypeId} {ts : List TypeId} {cs : List AV} {xs : List AV} (hn : isAggT P t = true) (h : TV P t cs) (r : TXs P ts xs) : TXs P (t :: ts) (.agg cs :: xs)

section
variable {H : Type} {enc : TypeId × Value → H} {P : Program} {W : World}

theorem open_arg {n : Nat} {t : TypeId} {v : Value} {d : DataW H} {ps : List MemPlace} {base : Nat} (hok : okT P n t = true) (h : DataW.Trod enc P W 0 (fun _ => true) true t v d ps) (hv : Value.okWide P W .any base t v)
    (hw : ∀ k ∈ d.weights P t, k ≤ reachBytes) : (isAggT P t = false ∧ ∃ x, VR (baseC W) x v ∧ TV P t [x]) ∨ (isAggT P t = true ∧ ∃ cs, VR (baseC W) (.agg cs) v ∧ TV P t cs) := by
  obtain ⟨fuel, hf⟩ := h
  obtain ⟨xs, hc, ht⟩ := open_all reachBytes rfl n t hok fuel _ d ps hf hw
  cases n with
  | zero => cases hok
  | succ n =>
  unfold okT at hok
  have one : v.cells.toList = [v] → isAggT P t = false → (isAggT P t = false ∧ ∃ x, VR (baseC W) x v ∧ TV P t [x]) ∨ (isAggT P t = true ∧ ∃ cs, VR (baseC W) (.agg cs) v ∧ TV P t cs) := by
    intro h1 h2
    rw [h1] at hc
    left
    refine ⟨h2, ?_⟩
    have hl := hc.1
    match xs, hl, hc, ht with
    | [x], _, hc, ht => exact ⟨x, (hc.2 0 x v rfl rfl).1, ht⟩
  have agg : (∃ cs, v = .agg cs) → isAggT P t = true → (isAggT P t = false ∧ ∃ x, VR (baseC W) x v ∧ TV P t [x]) ∨ (isAggT P t = true ∧ ∃ cs, VR (baseC W) (.agg cs) v ∧ TV P t cs) := by
    rintro ⟨cs, rfl⟩ h2
    right
    refine ⟨h2, xs, .agg xs cs ?_ ?_, ht⟩
    · simpa [Value.cells] using hc.1
    · intro i x c hx hcc
      exact (hc.2 i x c hx (by simpa [Value.cells] using hcc)).1
  cases hu : P.underlying t with
  | none => rw [hu] at hok; cases hok
  | some u =>
    rw [hu] at hok
    simp only [Value.okWide, hu, Cell.okWide, Cell.ok] at hv
    cases u with
    | bool => exact one (by clear hc hf one agg; cases v with | agg cs => simp at hv | _ => rfl) (by simp [isAggT, hu])
    | int k => exact one (by clear hc hf one agg; cases v with | agg cs => simp at hv | _ => rfl) (by simp [isAggT, hu])
    | string => exact one (by clear hc hf one agg; cases v with | agg cs => simp at hv | _ => rfl) (by simp [isAggT, hu])
    | slice e => exact one (by clear hc hf one agg; cases v with | agg cs => simp at hv | _ => rfl) (by simp [isAggT, hu])
    | struct fs => exact agg (by obtain ⟨cs, h1, _⟩ := hv; exact ⟨cs, h1⟩) (by simp [isAggT, hu])
    | array k e => exact agg (by obtain ⟨cs, h1, _⟩ := hv; exact ⟨cs, h1⟩) (by simp [isAggT, hu])
    | _ => cases hok

theorem open_args {n : Nat} {base : Nat} : ∀ {ts : List TypeId} {vs : List Value} {ds : List (DataW H)} {ps : List MemPlace}, ts.all (okT P n) = true → DataW.TrodAll enc P W 0 (fun _ => true) true ts vs ds ps →
    (∀ (j : Nat) t v, ts[j]? = some t → vs[j]? = some v → Value.okWide P W .any base t v) → (∀ k ∈ DataW.weightsEach P ts ds, k ≤ reachBytes) →
    ∃ xs, TXs P ts xs ∧ xs.length = vs.length ∧ ∀ (i : Nat) (x : AV) (v : Value), xs[i]? = some x → vs[i]? = some v → VR (baseC W) x v
  | [], vs, ds, ps, _, h, _, _ => by
    obtain ⟨rfl, rfl, rfl⟩ := trodAll_nil h
    exact ⟨[], .nil, rfl, by intro i x v h; simp at h⟩
  | t :: ts, vs, ds, ps, hok, h, hv, hw => by
    obtain ⟨v, vs', d, ds', p, q, rfl, rfl, rfl, h1, h2⟩ := trodAll_cons h
    simp only [List.all_cons, Bool.and_eq_true] at hok
    simp only [DataW.weightsEach, List.mem_append] at hw
    obtain ⟨xs, g1, g2, g3⟩ := open_args (ts := ts) hok.2 h2 (fun j t v ht hx => hv (j + 1) t v (by simpa using ht) (by simpa using hx)) (fun k hk => hw k (.inr hk))
    have cons : ∀ x, VR (baseC W) x v → (x :: xs).length = (v :: vs').length ∧ ∀ (i : Nat) (y : AV) (u : Value), (x :: xs)[i]? = some y → (v :: vs')[i]? = some u → VR (baseC W) y u := by
      intro x hx
      refine ⟨by simp [g2], fun i y u hy hu => ?_⟩
      cases i with
      | zero => simp at hy hu; subst hy; subst hu; exact hx
      | succ i => exact g3 i y u (by simpa using hy) (by simpa using hu)
    rcases open_arg hok.1 h1 (hv 0 t v rfl rfl) (fun k hk => hw k (.inl hk)) with ⟨hn, x, hx, ht⟩ | ⟨hn, cs, hx, ht⟩
    · exact ⟨x :: xs, .one hn ht g1, cons x hx⟩
    · exact ⟨.agg cs :: xs, .agg hn ht g1, cons _ hx⟩

theorem back_args (hl : laidOutB P = true) {W' : World} (hb : Below W.heap.size W W') : ∀ {ts : List TypeId} {vs : List Value} {ds : List (DataW H)} {ps : List MemPlace}, (ts.all fun t => P.readableRec t && Nat.blt t P.types.size) = true →
    DataW.TrodAll enc P W 0 (fun _ => true) true ts vs ds ps → DataW.TrodAll enc P W' 0 (fun b => decide (b < W.heap.size)) true ts vs ds ps
  | [], vs, ds, ps, _, h => by
    obtain ⟨rfl, rfl, rfl⟩ := trodAll_nil h
    exact trodAll_mk0
  | t :: ts, vs, ds, ps, hok, h => by
    obtain ⟨v, vs', d, ds', p, q, rfl, rfl, rfl, h1, h2⟩ := trodAll_cons h
    simp only [List.all_cons, Bool.and_eq_true] at hok
    have hlt : t < P.types.size := Nat.blt_eq ▸ hok.1.2
    refine trodAll_cons_mk (Below.trod hl hok.1.1 hlt h1 hb ?_) (back_args hl hb hok.2 h2)
    obtain ⟨m, hm⟩ := h1
    exact DataW.trod_lt m _ _ _ hm

/-- A contract, called. -/
theorem law_calls {f : Nat} {xs : List AV} {args : Array Value} (hx : xs.length = args.toList.length) (hr : ∀ (i : Nat) (x : AV) (v : Value), xs[i]? = some x → args.toList[i]? = some v → VR (baseC W) x v)
    (hc : ACalls P f xs [] (fun e _ => e = .ret (.v (.bool true)))) : Calls P f args W fun e W' => e = .returned (.bool true) ∧ Below W.heap.size W W' := by
  refine (callsIn_wide (n := 0)).1 ?_
  refine (hc.run [] (baseC W) W args (baseC_wr W) ⟨by simpa using hx, fun i x v h1 h2 => hr i x v h1 (by simpa using h2)⟩).mono ?_
  rintro e W' ⟨C', H', x, rfl, hw', he, hx⟩
  cases e with
  | returned v =>
    cases hx
    refine ⟨rfl, he.os, he.tape, he.output, he.size, fun k hk => he.fr k hk ?_⟩
    rintro ⟨i, o, N, h, _⟩
    cases h
  | panicked ch => exact hx.elim
  | outgrown => exact hx.elim
end

theorem trodAll_len {H : Type} {enc : TypeId × Value → H} {P : Program} {W : World} : ∀ {ts : List TypeId} {vs : List Value} {ds : List (DataW H)} {ps : List MemPlace}, DataW.TrodAll enc P W 0 (fun _ => true) true ts vs ds ps → ds.length = ts.length
  | [], vs, ds, ps, h => by obtain ⟨_, rfl, _⟩ := trodAll_nil h; rfl
  | t :: ts, vs, ds, ps, h => by
    obtain ⟨v, vs', d, ds', p, q, rfl, rfl, rfl, h1, h2⟩ := trodAll_cons h
    simp [trodAll_len h2]

/-- What a law's row asks of its call. -/
theorem law_post {H : Type} {enc : TypeId × Value → H} {P : Program} {f : Nat} {fn : Func} {s : ChangeSpec} {W : World} {base : Nat} {args : Array Value} {ds gs : List (DataW H)} {before : List MemPlace} {tb : TypeId}
    (n : Nat) (ts : List TypeId) (hts : fn.params.toList = ts) (hrt : fn.resultTypes = #[tb]) (hub : P.underlying tb = some .bool) (hvars : s.vars = [])
    (hl : laidOutB P = true) (hok : ts.all (okT P n) = true) (hrd : (ts.all fun t => P.readableRec t && Nat.blt t P.types.size) = true)
    (hs : ∀ ds : List (DataW H), ds.length = ts.length → (s.fn H ds).results = [.lit (.bool true)] ∧ (s.fn H ds).args = ds ∧ (s.fn H ds).vars = [])
    (hval : ∀ (j : Nat) t v, fn.params[j]? = some t → args[j]? = some v → Value.okWide P W .any base t v)
    (hW : DataW.Whole enc P fn.params.toList s.vars false W args.toList ds gs before)
    (hsz : (DataW.weightsEach P (fn.params.toList ++ s.plain.varTypes P) (ds ++ gs)).all (· ≤ reachBytes) = true)
    (contract : ∀ xs, TXs P ts xs → ACalls P f xs [] (fun e _ => e = .ret (.v (.bool true)))) :
    Calls P f args W fun e W' => ∃ v, e = .returned v ∧ s.post enc P fn false true false false W args v W' := by
  subst hts
  have hW' := hW
  obtain ⟨p, q, hA, hV, rfl, hfz, hnd⟩ := hW
  rw [hvars] at hV
  obtain ⟨rfl, rfl⟩ := trodVars_none hV
  have hvt : s.plain.varTypes P = [] := by
    have : s.plain.vars = [] := hvars
    simp [DataSpec.varTypes, this]
  rw [hvt, List.append_nil, List.append_nil] at hsz
  have hsz' : ∀ k ∈ DataW.weightsEach P fn.params.toList ds, k ≤ reachBytes := fun k hk => by
    simpa using List.all_eq_true.1 hsz k hk
  obtain ⟨xs, h1, h2, h3⟩ := open_args (n := n) hok hA (fun j t v ht hv => hval j t v (by simpa using ht) (by simpa using hv)) hsz'
  refine (law_calls h2 h3 (contract xs h1)).mono ?_
  rintro e W' ⟨rfl, bel⟩
  have hlen : ds.length = fn.params.toList.length := by
    exact trodAll_len hA
  obtain ⟨e1, e2, e3⟩ := hs ds hlen
  refine ⟨_, rfl, ds, [], _, [], p, [], hW', ?_, ?_, ?_⟩
  · rw [hrt, List.append_nil, e1]
    exact trodAll_mk1 (shut_bool hub _)
  · rw [List.append_nil, e2]
    exact back_args hl bel hrd hA
  · rw [List.append_nil, e3, hvars]
    exact ⟨rfl, bel.frame _, fun h => by cases h⟩

end Go.Sx
