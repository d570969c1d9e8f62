/- A range over a map that is owned: code from one fixed point on, the operations that step through a map, what they hand out. -/
import Derived.Test.YtaphgfiboidpbaaBaSxSeqG
import Derived.Test.YtaphgfiboidpbaaBaSxMore
import Derived.Test.YtaphgfiboidpbaaBaSxSpec
import Derived.Maps.RangeRun
set_option linter.unusedSimpArgs false
set_option linter.unusedVariables false
set_option linter.unnecessarySimpa false
namespace Go.Sx
open Go
open Go.ChangeMaps (setBlock)

/-- The same as AWp, from one point on. -/
def AWpO (Z : List Nat) (C0 : Ctx) (H0 : AHeap) (w0 : World) (P : Program) (ro : Option Nat) (c : Code) (Q : Exit → St → Prop) (s : St) : Prop :=
  ∀ C a w, Ext Z C0 H0 w0 C s.H w → SR C s a w → c.wpIn (Wd ro) 0 P (Post Z C0 H0 w0 Q) a w
def AOpsO (Z : List Nat) (C0 : Ctx) (H0 : AHeap) (w0 : World) (P : Program) (ro : Option Nat) (ops : Array Oper) (l : List Oper) (Q : Exit → St → Prop) (s : St) : Prop :=
  ∀ k, ops.toList.drop k = l → ∀ C a w, Ext Z C0 H0 w0 C s.H w → SR C s a w → wpOpsIn (Wd ro) 0 P ops (Post Z C0 H0 w0 Q) (List.range' k l.length) a w
section
variable {Z : List Nat} {C0 : Ctx} {H0 : AHeap} {w0 : World} {P : Program} {ro : Option Nat} {Q : Exit → St → Prop} {s : St}

def StepO (Z : List Nat) (C0 : Ctx) (H0 : AHeap) (w0 : World) (P : Program) (ro : Option Nat) (o : Oper) (K : St → Prop) (KP : List PanicEntry → St → Prop) (s : St) : Prop :=
  ∀ C a w, Ext Z C0 H0 w0 C s.H w → SR C s a w →
    o.uponIn (Wd ro) 0 P a (Sat Z C0 H0 w0 K) (fun e a' w' => match e with | .panic ch => Sat Z C0 H0 w0 (KP ch) a' w' | _ => False) ((o.semAt ro a.eval).run P w)
/-! ### Stepping through a map -/

end

/-! ### What a map that is a set hands out -/
def keyS (e : MapEntry) : Str := match e.key with | .string s => s | _ => default
def bornsA (x : List MapEntry) : Array Nat := (x.map (·.born)).toArray
theorem bornsA_has {x : List MapEntry} {b : Nat} : (bornsA x).contains b = true ↔ b ∈ x.map (·.born) := by simp [bornsA]

/-- A map's entries, as a set of texts. -/
structure SetE (out : List Str) (ents : Array MapEntry) (clock : Nat) : Prop where
  key : ents.toList.map (·.key) = out.map Value.string
  born : ∀ e ∈ ents.toList, e.born < clock
  nd : (ents.toList.map (·.born)).Nodup
theorem SetE.keyS {out : List Str} {ents : Array MapEntry} {clock : Nat} (h : SetE out ents clock) {e : MapEntry} (he : e ∈ ents.toList) : e.key = .string (Sx.keyS e) ∧ Sx.keyS e ∈ out := by
  have h1 : e.key ∈ out.map Value.string := h.key ▸ List.mem_map.2 ⟨e, he, rfl⟩
  obtain ⟨s, hs, hk⟩ := List.mem_map.1 h1
  unfold Sx.keyS
  rw [← hk]
  exact ⟨rfl, hs⟩
theorem SetE.all {out : List Str} {ents : Array MapEntry} {clock : Nat} (h : SetE out ents clock) {s : Str} (hs : s ∈ out) : ∃ e ∈ ents.toList, Sx.keyS e = s := by
  have h1 : Value.string s ∈ ents.toList.map (·.key) := h.key ▸ List.mem_map.2 ⟨s, hs, rfl⟩
  obtain ⟨e, he, hk⟩ := List.mem_map.1 h1
  refine ⟨e, he, ?_⟩
  unfold Sx.keyS
  rw [hk]
theorem SetE.keys {out : List Str} {ents : Array MapEntry} {clock : Nat} (h : SetE out ents clock) : ents.toList.map Sx.keyS = out := by
  have h1 : ents.toList.map Sx.keyS = (ents.toList.map (·.key)).map (fun v => match v with | .string s => s | _ => default) := by rw [List.map_map]; rfl
  rw [h1, h.key, List.map_map]
  exact (List.map_congr_left fun s _ => rfl).trans (List.map_id _)

/-- What has come out. -/
structure Got (out : List Str) (ents : Array MapEntry) (x : List MapEntry) : Prop where
  sub : ∀ e ∈ x, e ∈ ents.toList
  nd : (x.map (·.born)).Nodup
theorem Got.start (out : List Str) (ents : Array MapEntry) : Got out ents [] := ⟨nofun, List.nodup_nil⟩
theorem Got.step {out : List Str} {ents : Array MapEntry} {x : List MapEntry} {e : MapEntry} (h : Got out ents x) (he : e ∈ (leftOf ents (bornsA x)).toList) : Got out ents (x ++ [e]) := by
  obtain ⟨h1, h2⟩ := mem_left he
  refine ⟨fun z hz => ?_, ?_⟩
  · rcases List.mem_append.1 hz with hz | hz
    · exact h.sub z hz
    · rw [List.mem_singleton.1 hz]; exact h1
  · rw [List.map_append, List.nodup_append]
    refine ⟨h.nd, by simp, ?_⟩
    rintro a ha b hb rfl
    rw [List.map_singleton, List.mem_singleton] at hb
    subst hb
    rw [bornsA_has.2 ha] at h2; cases h2
theorem Got.keys {out : List Str} {ents : Array MapEntry} {clock : Nat} (hs : SetE out ents clock) (ho : out.Nodup) {x : List MapEntry} (h : Got out ents x) : (x.map keyS).Nodup ∧ ∀ s, s ∈ x.map keyS → s ∈ out := by
  refine ⟨?_, fun s hsx => ?_⟩
  · have hk : ∀ a b : MapEntry, a ∈ ents.toList → b ∈ ents.toList → keyS a = keyS b → a.born = b.born := by
      intro a b ha hb hab
      obtain ⟨i, hi, rfl⟩ := List.mem_iff_getElem.1 ha
      obtain ⟨j, hj, rfl⟩ := List.mem_iff_getElem.1 hb
      have e1 := hs.keys
      have hnd : (ents.toList.map keyS).Nodup := by rw [e1]; exact ho
      have hi' : i < (ents.toList.map keyS).length := by simpa using hi
      have hj' : j < (ents.toList.map keyS).length := by simpa using hj
      have : i = j := (List.getElem_inj (h₀ := hi') (h₁ := hj') hnd).1 (by simpa using hab)
      subst this; rfl
    have hx := h.nd
    unfold List.Nodup at hx ⊢
    rw [List.pairwise_map] at hx ⊢
    refine List.Pairwise.imp_of_mem ?_ hx
    intro a b ha hb hne hab
    exact hne (hk a b (h.sub a ha) (h.sub b hb) hab)
  · obtain ⟨e, he, rfl⟩ := List.mem_map.1 hsx
    exact (hs.keyS (h.sub e he)).2
theorem Got.fin {out : List Str} {ents : Array MapEntry} {clock : Nat} (hs : SetE out ents clock) (ho : out.Nodup) {x : List MapEntry} (h : Got out ents x) (hz : (leftOf ents (bornsA x)).size = 0) : (x.map keyS).Perm out := by
  obtain ⟨h1, h2⟩ := h.keys hs ho
  refine (List.perm_ext_iff_of_nodup h1 ho).2 fun s => ⟨h2 s, fun hso => ?_⟩
  obtain ⟨e, he, rfl⟩ := hs.all hso
  have h3 := bornsA_has.1 (all_seen _ _ hz e he)
  obtain ⟨e', he', hb⟩ := List.mem_map.1 h3
  rw [← born_inj hs.nd (h.sub e' he') he hb]
  exact List.mem_map.2 ⟨e', he', rfl⟩
def AdmS (out : List Str) (l : List Str) : Prop := l.Nodup ∧ ∀ s, s ∈ l → s ∈ out
def FinS (out : List Str) (l : List Str) : Prop := l.Perm out
theorem AdmS.len {out l : List Str} (h : AdmS out l) : l.length ≤ out.length := nodup_len h.1 h.2
/-- As MapR, and each name once. -/
def MapN (p : Prog) (nm : Str) : AEnd → AHeap → Prop := fun e H => ∃ q out, e = .ret (.map q) ∧ H = [(q, .mp (setM out))] ∧ out.Nodup ∧ out.length ≤ p.classes.length ∧ ∀ s, s ∈ out ↔ Anc p nm s
end Go.Sx
