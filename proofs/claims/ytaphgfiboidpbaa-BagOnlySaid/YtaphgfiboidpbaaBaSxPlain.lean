/- Plain laws, with no program in sight: texts in order, all that is above a class, what is known of one of two. -/
import Derived.Test.YtaphgfiboidpbaaBaSxSpec
set_option linter.unusedVariables false
set_option linter.unusedSimpArgs false
namespace Go.Sx
open Go

/-! ### Texts in order, each once -/
def ltS (a b : Str) : Bool := Op.bytesLess a.toList b.toList
def ddS (o : List Str) (s : Str) : List Str := if inL o s then o else o ++ [s]
def dd (l : List Str) : List Str := l.foldl ddS []
theorem dd_take {l : List Str} {i : Nat} (h : i < l.length) : dd (l.take (i + 1)) = ddS (dd (l.take i)) l[i] := by
  rw [List.take_succ_eq_append_getElem h, dd, List.foldl_append]; rfl
theorem dd_len (l : List Str) : (dd l).length ≤ l.length := by
  have key : ∀ (l o : List Str), (l.foldl ddS o).length ≤ o.length + l.length := by
    intro l
    induction l with
    | nil => intro o; simp
    | cons x l ih =>
      intro o
      have h := ih (ddS o x)
      have h2 : (ddS o x).length ≤ o.length + 1 := by unfold ddS; split <;> simp
      simp only [List.foldl_cons, List.length_cons]; omega
  simpa [dd] using key l []
theorem dd_mem (l : List Str) (s : Str) : s ∈ dd l ↔ s ∈ l := by
  have key : ∀ (l o : List Str), s ∈ l.foldl ddS o ↔ s ∈ o ∨ s ∈ l := by
    intro l
    induction l with
    | nil => intro o; simp
    | cons x l ih =>
      intro o
      rw [List.foldl_cons, ih]
      unfold ddS
      split
      · rename_i h
        have h := inL_mem.1 h
        constructor
        · rintro (h1 | h1); exact .inl h1; exact .inr (List.mem_cons_of_mem _ h1)
        · rintro (h1 | h1); exact .inl h1; rcases List.mem_cons.1 h1 with rfl | h1; exact .inl h; exact .inr h1
      · simp [or_assoc]
  simpa [dd] using key l []
def swapS (l : List Str) (i j : Nat) : List Str := (l.set i (l.getD j default)).set j (l.getD i default)
/-- What stands at k moves down as long as it is ahead of the one below it. -/
def insK : Nat → List Str → List Str
  | 0, l => l
  | k + 1, l => if ltS (l.getD (k + 1) default) (l.getD k default) then insK k (swapS l (k + 1) k) else l
def outF : Nat → Nat → List Str → List Str
  | 0, _, l => l
  | f + 1, i, l => outF f (i + 1) (insK i l)
def risF (l : List Str) : List Str := outF ((dd l).length - 1) 1 (dd l)
theorem swapS_len (l : List Str) (i j : Nat) : (swapS l i j).length = l.length := by simp [swapS]
theorem insK_len : ∀ (k : Nat) (l : List Str), (insK k l).length = l.length
  | 0, _ => rfl
  | k + 1, l => by unfold insK; split; rw [insK_len, swapS_len]; rfl
theorem getD_eq {l : List Str} {i : Nat} (h : i < l.length) : l.getD i default = l[i] := by simp [List.getD, h]
theorem swapS_perm {l : List Str} {i j : Nat} (hi : i < l.length) (hj : j < l.length) : (swapS l i j).Perm l := by
  unfold swapS
  rw [getD_eq hi, getD_eq hj]
  exact List.set_set_perm hi hj
theorem insK_perm : ∀ (k : Nat) (l : List Str), k < l.length → (insK k l).Perm l
  | 0, _, _ => .refl _
  | k + 1, l, h => by
    unfold insK
    split
    · exact (insK_perm k _ (by rw [swapS_len]; omega)).trans (swapS_perm h (by omega))
    · exact .refl _
theorem outF_perm : ∀ (f i : Nat) (l : List Str), i + f ≤ l.length → (outF f i l).Perm l
  | 0, _, _, _ => .refl _
  | f + 1, i, l, h => by
    unfold outF
    exact (outF_perm f (i + 1) _ (by rw [insK_len]; omega)).trans (insK_perm i l (by omega))
theorem risF_perm (l : List Str) : (risF l).Perm (dd l) := by
  unfold risF
  cases h : (dd l).length with
  | zero => exact .refl _
  | succ n => exact outF_perm _ _ _ (by omega)
theorem risF_mem (l : List Str) (s : Str) : s ∈ risF l ↔ s ∈ l := ((risF_perm l).mem_iff).trans (dd_mem l s)
theorem risF_len (l : List Str) : (risF l).length ≤ l.length := by rw [(risF_perm l).length_eq]; exact dd_len l

/-! ### All above a class, layer by layer -/
def hasC (p : Prog) (s : Str) : Bool := (clsFind p s).isSome
theorem classAt_nn (p : Prog) (s : Str) : decide (classAt p s ≥ 0) = hasC p s := by
  rcases classAt_cases p s with ⟨h1, h2⟩ | ⟨j, hj, h1, h2⟩ <;> simp [h1, hasC, h2]
def addS (p : Prog) (o : List Str) (u : Str) : List Str := if hasC p u && !inL o u then o ++ [u] else o
def addU (p : Prog) (l o : List Str) : List Str := l.foldl (addS p) o
theorem addU_take {p : Prog} {l o : List Str} {i : Nat} (h : i < l.length) : addU p (l.take (i + 1)) o = addS p (addU p (l.take i) o) l[i] := by
  rw [List.take_succ_eq_append_getElem h, addU, List.foldl_append]; rfl
theorem addU_pre (p : Prog) : ∀ (l o : List Str), ∃ r, addU p l o = o ++ r
  | [], o => ⟨[], by simp [addU]⟩
  | x :: l, o => by
    obtain ⟨r, h⟩ := addU_pre p l (addS p o x)
    have h2 : ∃ r2, addS p o x = o ++ r2 := by unfold addS; split; exact ⟨[x], rfl⟩; exact ⟨[], by simp⟩
    obtain ⟨r2, h2⟩ := h2
    exact ⟨r2 ++ r, by rw [show addU p (x :: l) o = addU p l (addS p o x) from rfl, h, h2]; simp⟩
theorem addU_mem (p : Prog) (s : Str) : ∀ (l o : List Str), s ∈ addU p l o ↔ s ∈ o ∨ (s ∈ l ∧ hasC p s = true)
  | [], o => by simp [addU]
  | x :: l, o => by
    rw [show addU p (x :: l) o = addU p l (addS p o x) from rfl, addU_mem p s l]
    unfold addS
    cases hx : hasC p x with
    | false =>
      simp only [Bool.false_and, Bool.false_eq_true, if_false, List.mem_cons]
      constructor
      · rintro (h | ⟨h, h2⟩); exact .inl h; exact .inr ⟨.inr h, h2⟩
      · rintro (h | ⟨rfl | h, h2⟩); exact .inl h; rw [hx] at h2; cases h2; exact .inr ⟨h, h2⟩
    | true =>
      cases hi : inL o x with
      | true =>
        have hi := inL_mem.1 hi
        simp only [Bool.not_true, Bool.and_false, Bool.false_eq_true, if_false, List.mem_cons]
        constructor
        · rintro (h | ⟨h, h2⟩); exact .inl h; exact .inr ⟨.inr h, h2⟩
        · rintro (h | ⟨rfl | h, h2⟩); exact .inl h; exact .inl hi; exact .inr ⟨h, h2⟩
      | false =>
        simp only [Bool.not_false, Bool.and_true, if_true, List.mem_append, List.mem_cons, List.not_mem_nil, or_false]
        constructor
        · rintro ((h | rfl) | ⟨h, h2⟩); exact .inl h; exact .inr ⟨.inl rfl, hx⟩; exact .inr ⟨.inr h, h2⟩
        · rintro (h | ⟨rfl | h, h2⟩); exact .inl (.inl h); exact .inl (.inr rfl); exact .inr ⟨h, h2⟩
theorem addU_nodup (p : Prog) : ∀ (l o : List Str), o.Nodup → (addU p l o).Nodup
  | [], o, h => h
  | x :: l, o, h => by
    refine addU_nodup p l _ ?_
    unfold addS
    split
    · rename_i h1
      rw [List.nodup_append]
      refine ⟨h, by simp, fun a ha b hb => ?_⟩
      rw [List.mem_singleton] at hb; subst hb
      rintro rfl
      rw [inL_mem.2 ha] at h1; simp at h1
    · exact h

theorem hasC_find {p : Prog} {s : Str} (h : hasC p s = true) : ∃ c, clsFind p s = some c := Option.isSome_iff_exists.1 h
theorem hasC_mem {p : Prog} {s : Str} (h : hasC p s = true) : s ∈ p.classes.map Cls.name := by
  obtain ⟨c, h⟩ := hasC_find h
  obtain ⟨h1, h2⟩ := clsFind_name h
  exact List.mem_map.2 ⟨c, h2, h1⟩

structure AncB (p : Prog) (nm : Str) (out : List Str) (i : Nat) : Prop where
  nd : out.Nodup
  has : ∀ x, x ∈ out → hasC p x = true
  snd : ∀ x, x ∈ out → Anc p nm x
  st : hasC p nm = true → nm ∈ out
  cl : ∀ j, j < i → ∀ s, out[j]? = some s → ∀ c, clsFind p s = some c → ∀ u, u ∈ upC c → hasC p u = true → u ∈ out
  le : i ≤ out.length
theorem AncB.len {p : Prog} {nm : Str} {out : List Str} {i : Nat} (h : AncB p nm out i) : out.length ≤ p.classes.length := by
  have := nodup_len h.nd (fun x hx => hasC_mem (h.has x hx))
  simpa using this
theorem AncB.start0 {p : Prog} {nm : Str} (h : hasC p nm = false) : AncB p nm [] 0 :=
  ⟨List.nodup_nil, nofun, nofun, fun h2 => (by rw [h] at h2; cases h2), nofun, Nat.le_refl _⟩
theorem AncB.start1 {p : Prog} {nm : Str} (h : hasC p nm = true) : AncB p nm [nm] 0 :=
  ⟨by simp, fun x hx => (by rw [List.mem_singleton.1 hx]; exact h), fun x hx => (by rw [List.mem_singleton.1 hx]; obtain ⟨c, hc⟩ := hasC_find h; exact .base hc), fun _ => List.mem_cons_self, nofun, Nat.zero_le _⟩
theorem AncB.step {p : Prog} {nm : Str} {out : List Str} {i : Nat} (h : AncB p nm out i) (hi : i < out.length) {c : Cls} (hc : clsFind p out[i] = some c) : AncB p nm (addU p (upC c) out) (i + 1) := by
  obtain ⟨r, hr⟩ := addU_pre p (upC c) out
  have ha := h.snd _ (List.getElem_mem hi)
  refine ⟨addU_nodup p _ _ h.nd, ?_, ?_, fun h2 => (addU_mem ..).2 (.inl (h.st h2)), ?_, ?_⟩
  · intro x hx
    rcases (addU_mem ..).1 hx with h1 | h1
    · exact h.has x h1
    · exact h1.2
  · intro x hx
    rcases (addU_mem ..).1 hx with h1 | h1
    · exact h.snd x h1
    · obtain ⟨d, hd⟩ := hasC_find h1.2
      exact .step ha hc h1.1 hd
  · intro j hj s hs d hd u hu hh
    have hjl : j < out.length := by omega
    have hs' : out[j]? = some s := by rw [hr, List.getElem?_append_left hjl] at hs; exact hs
    rcases Nat.lt_succ_iff_lt_or_eq.1 hj with h1 | h1
    · exact (addU_mem ..).2 (.inl (h.cl j h1 s hs' d hd u hu hh))
    · subst h1
      rw [List.getElem?_eq_getElem hjl] at hs'; cases hs'
      rw [hc] at hd; cases hd
      exact (addU_mem ..).2 (.inr ⟨hu, hh⟩)
  · rw [hr, List.length_append]; omega
theorem AncB.fin {p : Prog} {nm : Str} {out : List Str} {i : Nat} (h : AncB p nm out i) (hi : ¬ i < out.length) (s : Str) : s ∈ out ↔ Anc p nm s := by
  refine ⟨h.snd s, fun ha => ?_⟩
  induction ha with
  | base hc => exact h.st (by simp [hasC, hc])
  | step _ hc hu hd ih =>
    obtain ⟨j, hj, e⟩ := List.getElem_of_mem ih
    exact h.cl j (by omega) _ (by rw [List.getElem?_eq_getElem hj, e]) _ hc _ hu (by simp [hasC, hd])
theorem AncB.inner {p : Prog} {nm : Str} {out : List Str} {i : Nat} (h : AncB p nm out i) (l : List Str) : (addU p l out).length ≤ p.classes.length := by
  have := nodup_len (addU_nodup p l _ h.nd) (fun x hx => hasC_mem (by rcases (addU_mem ..).1 hx with h1 | h1; exact h.has x h1; exact h1.2))
  simpa using this

/-! ### What is wrong with a program's classes -/
noncomputable def chk1 (p : Prog) (c : Cls) : Int :=
  if !beqS c.super zS && !hasC p c.super then 7 else if c.ifaces.any fun s => !hasC p s then 7 else if !beqS c.super zS && ifaceP p c.super then 9 else if c.ifaces.any fun s => !ifaceP p s then 9 else 0
noncomputable def chk2 (p : Prog) (c : Cls) : Bool := (!beqS c.super zS && subP p c.super c.name) || c.ifaces.any fun s => subP p s c.name
noncomputable def checkP (p : Prog) : Int × Str := match p.classes.find? fun c => chk1 p c != 0 with
  | some c => (chk1 p c, c.name)
  | none => match p.classes.find? fun c => chk2 p c with
    | some c => (8, c.name)
    | none => (0, zS)
structure SoundP (p : Prog) : Prop where
  one : ∀ c, c ∈ p.classes → chk1 p c = 0
  two : ∀ c, c ∈ p.classes → chk2 p c = false
theorem outF_step {n y : Nat} {l : List Str} (h : y < n) : outF (n - y) y l = outF (n - (y + 1)) (y + 1) (insK y l) := by
  rw [show n - y = (n - (y + 1)) + 1 from by omega]; rfl
theorem insK_swap {k : Nat} {l : List Str} (h0 : 0 < k) (h : ltS (l.getD k default) (l.getD (k - 1) default) = true) : insK k l = insK (k - 1) (swapS l k (k - 1)) := by
  obtain ⟨j, rfl⟩ : ∃ j, k = j + 1 := ⟨k - 1, by omega⟩
  simp only [Nat.add_sub_cancel] at h ⊢
  conv => lhs; unfold insK
  rw [if_pos h]
theorem insK_stop {k : Nat} {l : List Str} (h : (decide ((k : Int) > 0) && ltS (l.getD k default) (l.getD (k - 1) default)) = false) : insK k l = l := by
  cases k with
  | zero => rfl
  | succ j =>
    have h1 : ltS (l.getD (j + 1) default) (l.getD j default) = false := by
      have : decide (((j + 1 : Nat) : Int) > 0) = true := decide_eq_true (by omega)
      rw [this] at h; simpa using h
    unfold insK
    rw [h1]; rfl
theorem AncB.idx {p : Prog} {nm : Str} {out : List Str} {i : Nat} (h : AncB p nm out i) (hi : i < out.length) : ∃ (j : Nat) (hj : j < p.classes.length), classAt p (out.getD i default) = (j : Int) ∧ clsFind p (out.getD i default) = some p.classes[j] := by
  rw [getD_eq hi]
  have hh := h.has _ (List.getElem_mem hi)
  rcases classAt_cases p out[i] with ⟨h1, h2⟩ | h2
  · unfold hasC at hh; rw [h2] at hh; cases hh
  · exact h2
theorem AncB.stepD {p : Prog} {nm : Str} {out : List Str} {i : Nat} (h : AncB p nm out i) (hi : i < out.length) {c : Cls} (hc : clsFind p (out.getD i default) = some c) : AncB p nm (addU p (upC c) out) (i + 1) := h.step hi (by rw [← getD_eq hi]; exact hc)
noncomputable def f1 (p : Prog) (c : Cls) : Bool := chk1 p c != 0
def nNo : Str := ⟨#[78, 111]⟩
def nearK (k : Int) : Int := (k.tmod 7 + 7).tmod 7
def nearF (p : Prog) (f : Fact) (k : Int) : Fact :=
  ⟨nearK f.kind, if nearK f.kind = 3 ∨ nearK f.kind = 5 then (if 0 < p.classes.length ∧ k < 250 then (p.classes.getD (k.tmod p.classes.length).toNat default).name else nNo) else zS⟩

theorem near_lt {n : Nat} {k : Int} (hn : 0 < n) (h0 : 0 ≤ k) : (k.tmod n).toNat < n := by
  have h1 := Int.tmod_lt_of_pos k (show (0 : Int) < n by omega)
  have h2 := Int.tmod_nonneg (n : Int) h0
  omega
end Go.Sx
