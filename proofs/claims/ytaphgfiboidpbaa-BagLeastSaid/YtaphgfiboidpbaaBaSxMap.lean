/- Maps whose keys are strings. -/
import Derived.Test.YtaphgfiboidpbaaBaSxEq
set_option linter.unusedSimpArgs false
set_option linter.unusedVariables false
set_option linter.unnecessarySimpa false
namespace Go.Sx
open Go

/-- Are two strings one? -/
def beqS (a b : ByteArray) : Bool := a.toList == b.toList
theorem beqS_iff {a b : ByteArray} : beqS a b = true ↔ a = b := by
  unfold beqS
  rw [ByteArray.toList_eq, ByteArray.toList_eq]
  constructor
  · intro h
    have h : a.data.toList = b.data.toList := by simpa using h
    cases a; cases b
    simp only [ByteArray.mk.injEq]
    exact Array.ext' h
  · rintro rfl; simp
theorem beqS_self (a : ByteArray) : beqS a a = true := beqS_iff.2 rfl
theorem beq_beqS (a b : ByteArray) : (a == b) = beqS a b := beq_toListBytes a b
def skey (s : ByteArray) (v : Value) : Bool := match v with | .string t => beqS s t | _ => false

/-- A type's zero value. -/
def _root_.Go.Program.zv (P : Program) (t : TypeId) : Option Value := (P.info? t).bind (·.zero)
class ZV (P : Program) (t : TypeId) (v : outParam Value) : Prop where
  zv : P.zv t = some v
theorem run_zero {P : Program} {t : TypeId} {v : Value} (h : P.zv t = some v) (w : World) : (zeroValue t).run P w = .ok v w := by
  unfold Program.zv at h
  cases hi : P.info? t with
  | none => rw [hi] at h; cases h
  | some i =>
    rw [hi] at h
    simp only [Option.bind_some] at h
    simp [zeroValue, typeInfo, hi, h]
/-- The entry of a key. -/
def mget : List (Value × AV) → ByteArray → Option AV
  | [], _ => none
  | (k, x) :: r, s => bif skey s k then some x else mget r s
/-- The entries with one set. -/
def mput : List (Value × AV) → ByteArray → AV → List (Value × AV)
  | [], s, x => [(.string s, x)]
  | (k, y) :: r, s, x => bif skey s k then (.string s, x) :: r else (k, y) :: mput r s x

def strKeys (es : List (Value × AV)) : Prop := ∀ k x, (k, x) ∈ es → ∃ s, k = .string s

section
variable {P : Program} {ro : Option Nat} {Q : Exit → St → Prop} {s : St} {ops : Array Oper} {o : Oper} {rest : List Oper} {T : List (Nat × AV)}

theorem findNow_spec {C : Ctx} (k : ByteArray) : ∀ (es : List (Value × AV)) (ents : List MapEntry) (n : Nat), es.length = ents.length → strKeys es →
    (∀ (i : Nat) (kk : Value) (x : AV), es[i]? = some (kk, x) → ∃ e : MapEntry, ents[i]? = some e ∧ e.key = kk ∧ VR C x e.val) →
    (mget es k = none ∧ Instr.findNow .string (.string k) ents n = some none) ∨
    (∃ i x v, mget es k = some x ∧ Instr.findNow .string (.string k) ents n = some (some (n + i, v)) ∧ VR C x v ∧ i < es.length ∧ es[i]? = some (.string k, x) ∧ ∀ y, mput es k y = es.set i (.string k, y))
  | [], [], n, _, _, _ => .inl ⟨rfl, rfl⟩
  | [], _ :: _, _, h, _, _ => by simp at h
  | _ :: _, [], _, h, _, _ => by simp at h
  | (kk, x) :: es, e :: ents, n, hl, hs, h => by
    obtain ⟨t, rfl⟩ := hs kk x List.mem_cons_self
    obtain ⟨e', he, hk, hv⟩ := h 0 (.string t) x rfl
    simp only [List.getElem?_cons_zero, Option.some.injEq] at he
    subst he
    simp only [Instr.findNow, hk, Instr.sameNow]
    rw [beq_beqS]
    cases hb : beqS k t with
    | true =>
      have ht : k = t := beqS_iff.1 hb
      subst ht
      refine .inr ⟨0, x, e.val, ?_, rfl, hv, by simp, rfl, ?_⟩
      · simp [mget, skey, beqS_self]
      · intro y; simp [mput, skey, beqS_self]
    | false =>
      rcases findNow_spec (C := C) k es ents (n + 1) (by simpa using hl) (fun a b c => hs a b (List.mem_cons_of_mem _ c)) (fun i a b c => h (i + 1) a b (by simpa using c)) with ⟨h1, h2⟩ | ⟨i, y, v, h1, h2, h3, h4, h5, h6⟩
      · refine .inl ⟨?_, h2⟩
        simp [mget, skey, hb, h1]
      · refine .inr ⟨i + 1, y, v, ?_, by rw [show n + (i + 1) = n + 1 + i from by omega]; exact h2, h3, by simp; omega, by simpa using h5, ?_⟩
        · simp [mget, skey, hb, h1]
        · intro z; simp [mput, skey, hb, h6 z]

theorem mput_none : ∀ (es : List (Value × AV)) (k : ByteArray) (x : AV), mget es k = none → mput es k x = es ++ [(.string k, x)]
  | [], k, x, _ => rfl
  | (kk, y) :: es, k, x, h => by
    simp only [mget] at h
    cases hb : skey k kk with
    | true => rw [hb] at h; cases h
    | false => rw [hb, cond_false] at h; simp [mput, hb, mput_none es k x h]

theorem run_checkKey_str {t : TypeId} (h : P.underlying t = some .string) (b : Bool) (k : ByteArray) (w : World) : (Instr.checkKey b 10000 t (.string k)).run P w = .ok () w := by
  rw [show (10000 : Nat) = 9999 + 1 from rfl, Instr.checkKey]
  simp only [Sem.run_bind, Go.run_underlying h, Result.andThen, Sem.run_pure]

theorem eff_makeMap (id : Nat) {t : TypeId} (ho : o.op = .makeMap t none) : Eff P o T [] (.map id) [(id, .mp [])] :=
  eff_new (N := 0) (by intro c; rw [ho]; nofun) fun C H a w hw _ hv hid => by
    refine ⟨.map (some w.heap.size), .map #[] 0, ?_, .map id _ 0 (Ctx.bind_m ..) List.mem_cons_self, ?_⟩
    · simp [execOp, ho, Instr.makeMap, run_newObj_alloc, Result.andThen, Sem.run_bind]
    · refine ⟨w.heap.size, 0, #[], 0, Ctx.bind_m .., heap_alloc_new w _, rfl, ?_, ?_, ?_⟩
      · intro i e h; simp at h
      · intro i j e e' h; simp at h
      · intro i k x h; simp at h

/-- The entry's value, or the zero value. -/
theorem eff_lookup_str {t kt et id : Nat} {p q : Operand} {k : ByteArray} {es : List (Value × AV)} {z : Value} [hu : UD P t (.map kt et)] [hk : UD P kt .string] [hz : ZV P et z] (ho : o.op = .lookup t p q false)
    (hp : ev T p = some (.map id)) (hq : ev T q = some (.v (.string k))) (hs : strKeys es) : Eff P o T [(id, .mp es)] ((mget es k).getD (.v z)) [] :=
  eff_val (by intro c; rw [ho]; nofun) fun C H a w hw hn hv => by
    have hpv := hv p (by rw [ho]; simp [Op.operands]) _ hp
    have hqv := VR.val (hv q (by rw [ho]; simp [Op.operands]) _ hq)
    obtain ⟨_, b, N, ents, clock, hm, hh, hl, _, _, hrow⟩ := hw.ids _ _ (hn _ List.mem_cons_self)
    have hpe : a.eval p = .map (some b) := by
      generalize a.eval p = u at hpv
      cases hpv with
      | map _ b' N' hid _ => rw [hm] at hid; cases hid; rfl
    have hget : (getObj b).run P w = .ok (.map ents clock) w := by simp [getObj, Sem.run, hh]
    rcases findNow_spec (C := C) k es ents.toList 0 (by simpa using hl.symm) hs (fun i a b c => by rw [Array.getElem?_toList]; exact hrow i a b c) with ⟨h1, h2⟩ | ⟨i', x, v, h1, h2, h3, _⟩
    · refine ⟨z, ?_, by rw [h1]; exact .v z⟩
      simp [execOp, ho, Instr.lookup, hpe, hqv, Go.run_underlying hu.ud, Go.run_underlying hk.ud, hget, run_checkKey_str hk.ud, Instr.findKey, h2, run_zero hz.zv, Result.andThen, Sem.run_bind]
    · refine ⟨v, ?_, by rw [h1]; exact h3⟩
      simp [execOp, ho, Instr.lookup, hpe, hqv, Go.run_underlying hu.ud, Go.run_underlying hk.ud, hget, run_checkKey_str hk.ud, Instr.findKey, h2, Result.andThen, Sem.run_bind]

theorem sameBits_str (s : ByteArray) : Instr.sameBits 10000 (.string s) (.string s) = true := by simp [Instr.sameBits, beq_beqS, beqS_self]

/-- A store into a map. k: its place in the heap. -/
theorem aops_mapUpdate_str {t kt et id : Nat} {p q r : Operand} {key : ByteArray} {es : List (Value × AV)} {x : AV} (k : Nat) [hu : UD P t (.map kt et)] [hk : UD P kt .string] (hw : Wanted ops s.T o true) (hd : dok o.dst s.n = true)
    (ho : o.op = .mapUpdate t p q r) (hp : ev s.T p = some (.map id)) (hH : s.H[k]? = some (id, .mp es)) (hq : ev s.T q = some (.v (.string key))) (hr : ev s.T r = some x) (hs' : strKeys es)
    (h : AOps P ro ops rest Q { s with T := put s.T o.dst (.v undef), H := s.H.set k (id, .mp (mput es key x)) }) : AOps P ro ops (o :: rest) Q s := by
  refine aops_step hw ?_
  intro Z C0 H0 w0 C a w hx0 hs
  have hmem := List.mem_of_getElem? hH
  obtain ⟨hu', b, N, ents, clock, hm, hh, hl, hborn, hinj, hrow⟩ := hs.wr.ids _ _ hmem
  have hpv := hs.ev hp
  have hqv := VR.val (hs.ev hq)
  have hrv := hs.ev hr
  have hpe : a.eval p = .map (some b) := by
    generalize a.eval p = u at hpv
    cases hpv with
    | map _ b' N' hid _ => rw [hm] at hid; cases hid; rfl
  have hget : (getObj b).run P w = .ok (.map ents clock) w := by simp [getObj, Sem.run, hh]
  have hsetr : ∀ o', (setObj b o').run P w = .ok () (w.putObj b o') := fun o' => by simp [setObj, Sem.run, hh, World.putObj]
  have hlt : b < w.heap.size := (Array.getElem?_eq_some_iff.1 hh).1
  -- behind the store
  have fin : ∀ (ents' : Array MapEntry) (clock' : Nat), (o.semAt ro a.eval).run P w = .ok .skip (w.putObj b (.map ents' clock')) →
      OR C id (w.putObj b (.map ents' clock')) (.mp (mput es key x)) →
      o.uponIn (Wd ro) 0 P a (Sat Z C0 H0 w0 (AOps P ro ops rest Q)) (fun e a' w' => match e with | .panic ch => Sat Z C0 H0 w0 ((fun ch => Q (.panic ch)) ch) a' w' | _ => False) ((o.semAt ro a.eval).run P w) := by
    intro ents' clock' hrun hor
    rw [hrun]
    obtain ⟨hw1, he1⟩ := repl_at (Z := Z) (C' := C) (id' := id) (o' := .mp (mput es key x)) (w' := w.putObj b (.map ents' clock')) hs.wr hH (.refl C) rfl (.inl rfl) hu' (fun _ _ h => h) rfl rfl rfl (by simp)
      (fun b N' hm' => .inl ⟨N', hm'⟩) (fun b2 hb2 hne => World.putObj_heap_other (by rintro rfl; exact hne N hm)) hor
    exact ⟨C, _, h, hs.put he1.le hw1 (dok_spec hd) (.v undef), hx0.trans he1⟩
  have hnew : ∀ o', (w.putObj b o').heap[b]? = some o' := fun o' => World.putObj_heap_same hlt
  rcases findNow_spec (C := C) key es ents.toList 0 (by simpa using hl.symm) hs' (fun i a b c => by rw [Array.getElem?_toList]; exact hrow i a b c) with ⟨h1, h2⟩ | ⟨i, y, v, h1, h2, h3, h4, h5, h6⟩
  · refine fin (ents.push { key := .string key, val := a.eval r, born := clock }) (clock + 1) ?_ ?_
    · rw [Oper.semAt_eq _ _ _ (by intro c; rw [ho]; nofun)]
      simp [execOp, ho, Instr.mapUpdate, hpe, hqv, Go.run_underlying hu.ud, Go.run_underlying hk.ud, hget, run_checkKey_str hk.ud, Instr.findKey, h2, hsetr, Result.andThen, Sem.run_bind]
    · rw [mput_none es key x h1]
      refine ⟨b, N, _, _, hm, hnew _, by simp [hl], ?_, ?_, ?_⟩
      · intro i e he
        rw [Array.getElem?_push] at he
        split at he
        · cases he; simp
        · have := hborn i e he; omega
      · intro i j e e' he he' hb
        rw [Array.getElem?_push] at he he'
        split at he <;> split at he'
        · omega
        · cases he
          have := hborn j e' he'
          simp only at hb; omega
        · cases he'
          have := hborn i e he
          simp only at hb; omega
        · exact hinj i j e e' he he' hb
      · intro i kk z hz
        rw [List.getElem?_append] at hz
        split at hz
        · rename_i hlt2
          obtain ⟨e, h7, h8⟩ := hrow i kk z hz
          exact ⟨e, by rw [Array.getElem?_push, if_neg (by omega)]; exact h7, h8⟩
        · rename_i hge
          have hi : i = es.length := by
            have := lt_of_get hz; simp at this; omega
          subst hi
          simp at hz
          obtain ⟨rfl, rfl⟩ := hz
          exact ⟨{ key := .string key, val := a.eval r, born := clock }, by rw [Array.getElem?_push, if_pos hl.symm], rfl, hrv⟩
  · obtain ⟨e0, he0, hk0, _⟩ := hrow i _ _ h5
    rw [Nat.zero_add] at h2
    have hki : (((ents[i]?).map (·.key)).getD (.string key)) = .string key := by rw [he0]; simp [hk0]
    refine fin (ents.modify i fun e => { e with key := .string key, val := a.eval r }) clock ?_ ?_
    · rw [Oper.semAt_eq _ _ _ (by intro c; rw [ho]; nofun)]
      have hks : ∀ w, (Instr.keyThatStays (.string key) (.string key)).run P w = .ok (.string key) w := by
        intro w; simp [Instr.keyThatStays, sameBits_str]
      simp only [execOp, ho, Instr.mapUpdate, hpe, hqv, Sem.run_bind, Go.run_underlying hu.ud, Go.run_underlying hk.ud, hget, run_checkKey_str hk.ud, Instr.findKey, h2, Result.andThen, Sem.run_pure, hki, hks, hsetr]
    · rw [h6]
      have hmod : ∀ (j : Nat) (e : MapEntry), (ents.modify i fun e => { e with key := .string key, val := a.eval r })[j]? = some e → ∃ e' : MapEntry, ents[j]? = some e' ∧ e.born = e'.born := by
        intro j e he
        rw [Array.getElem?_modify] at he
        split at he
        · cases hj : ents[j]? with
          | none => rw [hj] at he; cases he
          | some e' => rw [hj] at he; simp at he; subst he; exact ⟨e', rfl, rfl⟩
        · exact ⟨e, he, rfl⟩
      refine ⟨b, N, _, _, hm, hnew _, by simp [hl], ?_, ?_, ?_⟩
      · intro j e he
        obtain ⟨e', h7, h8⟩ := hmod j e he
        rw [h8]; exact hborn j e' h7
      · intro j1 j2 e e' he he' hb
        obtain ⟨e1, h7, h8⟩ := hmod j1 e he
        obtain ⟨e2, h9, h10⟩ := hmod j2 e' he'
        exact hinj j1 j2 e1 e2 h7 h9 (by rw [← h8, ← h10]; exact hb)
      · intro j kk z hz
        rw [List.getElem?_set] at hz
        split at hz
        · rename_i hij
          subst hij
          simp at hz
          obtain ⟨rfl, rfl⟩ := hz
          exact ⟨{ e0 with key := .string key, val := a.eval r }, by rw [Array.getElem?_modify, if_pos rfl, he0]; rfl, rfl, hrv⟩
        · rename_i hij
          obtain ⟨e, h7, h8⟩ := hrow j kk z hz
          exact ⟨e, by rw [Array.getElem?_modify, if_neg hij]; exact h7, h8⟩

end
end Go.Sx
