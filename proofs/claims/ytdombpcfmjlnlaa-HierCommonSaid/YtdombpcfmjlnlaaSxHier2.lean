/- Layer 11's laws in plain words. -/
import Derived.Test.YtdombpcfmjlnlaaSxHier
set_option linter.unusedSimpArgs false
set_option linter.unusedVariables false
namespace Go.Sx
open Go

theorem mem_upC {c : Cls} {u : Str} : u ∈ upC c ↔ (u = c.super ∧ c.super ≠ zS) ∨ u ∈ c.ifaces := by
  unfold upC
  cases h : beqS c.super zS with
  | true =>
    rw [if_pos rfl]
    have h1 := beqS_iff.1 h
    exact ⟨.inr, fun k => k.elim (fun k => absurd h1 k.2) id⟩
  | false =>
    rw [if_neg (by simp), List.mem_cons]
    have h1 := beqS_no.1 h
    exact ⟨fun k => k.elim (fun k => .inl ⟨k, h1⟩) .inr, fun k => k.elim (fun k => .inl k.1) .inr⟩
theorem anc_head {p : Prog} {a b : Str} (h : Anc p a b) : a = b ∨ ∃ c u, clsFind p a = some c ∧ u ∈ upC c ∧ Anc p u b := by
  induction h with
  | base hc => exact .inl rfl
  | step h hc hu hd ih =>
    rcases ih with rfl | ⟨c', u', h1, h2, h3⟩
    · exact .inr ⟨_, _, hc, hu, .base hd⟩
    · exact .inr ⟨c', u', h1, h2, h3.step hc hu hd⟩
theorem up_no {p : Prog} (hs : SoundP p) {c : Cls} {u : Str} (hc : c ∈ p.classes) (hu : u ∈ upC c) : ¬ Anc p u c.name := by
  have hk := hs.ok hc
  rcases mem_upC.1 hu with ⟨rfl, hn⟩ | hi
  · exact (hk.sup hn).2.2
  · exact (hk.ifs u hi).2.2
theorem anc_anti {p : Prog} (hs : SoundP p) {a b : Str} (h : Anc p a b) (k : Anc p b a) : a = b := by
  rcases anc_head h with rfl | ⟨c, u, h1, h2, h3⟩
  · rfl
  · obtain ⟨hn, hm⟩ := clsFind_name h1
    exact absurd (hn ▸ h3.trans k) (up_no hs hm h2)
theorem law_order11 {p : Prog} (a b c : Str) : ((true && ((!subP p a b || !subP p b c) || subP p a c)) && ((((checkP p).1 != 0 || beqS a b) || !subP p a b) || !subP p b a)) = true := by
  have h1 : ((!subP p a b || !subP p b c) || subP p a c) = true := by
    cases h : subP p a b with
    | false => rfl
    | true => cases h2 : subP p b c with
      | false => rfl
      | true => simp [subP_iff.2 ((subP_iff.1 h).trans (subP_iff.1 h2))]
  have h2 : ((((checkP p).1 != 0 || beqS a b) || !subP p a b) || !subP p b a) = true := by
    cases h : subP p a b with
    | false => simp
    | true => cases h2 : subP p b a with
      | false => simp
      | true =>
        by_cases he : (checkP p).1 = 0
        · rw [anc_anti (checkP_sound he) (subP_iff.1 h) (subP_iff.1 h2), beqS_refl]; simp
        · simp [he]
  rw [h1, h2]; rfl

/-- Is a class as it must be for HierCommon? -/
def okU (p : Prog) (i : Nat) : Bool := !((p.classes.getD i default).iface && !beqS (p.classes.getD i default).super zS) && !(beqS (p.classes.getD i default).name zS || classAt p (p.classes.getD i default).name != (i : Int))
def unlikeB (p : Prog) : Bool := (List.range p.classes.length).all (okU p)
theorem unlike_yes {p : Prog} {n : Nat} (h : ¬ n < p.classes.length) (hn : n ≤ p.classes.length) (hJ : ∀ k, k < n → okU p k = true) : unlikeB p = true := by
  unfold unlikeB
  rw [List.all_eq_true]
  intro k hk
  rw [List.mem_range] at hk
  exact hJ k (by omega)
theorem unlike_no {p : Prog} {n : Nat} (h : n < p.classes.length) (hn : okU p n = false) : unlikeB p = false := by
  cases hb : unlikeB p with
  | false => rfl
  | true =>
    unfold unlikeB at hb
    rw [List.all_eq_true] at hb
    rw [hb n (List.mem_range.2 h)] at hn; cases hn
theorem clsD {l : List Cls} {i : Nat} (h : i < l.length) : l.getD i default = l[i] := by simp [List.getD, h]
theorem okU_no1 {p : Prog} {i : Nat} (hi : i < p.classes.length) (h : (p.classes[i].iface && !beqS (p.classes.getD i default).super zS) = true) : okU p i = false := by
  unfold okU
  rw [clsD hi] at h ⊢
  rw [h]; rfl
theorem okU_no2 {p : Prog} {i : Nat} (hi : i < p.classes.length) (h : (beqS p.classes[i].name zS || classAt p (p.classes.getD i default).name != (i : Int)) = true) : okU p i = false := by
  unfold okU
  rw [clsD hi] at h ⊢
  rw [h, Bool.not_true, Bool.and_false]
theorem okU_yes {p : Prog} {i : Nat} (hi : i < p.classes.length) (h : (p.classes[i].iface && !beqS (p.classes.getD i default).super zS) = false) (k : (beqS p.classes[i].name zS || classAt p (p.classes.getD i default).name != (i : Int)) = false) : okU p i = true := by
  unfold okU
  rw [clsD hi] at h k ⊢
  rw [h, k]; rfl
structure UnlikeP (p : Prog) : Prop where
  top : ∀ c, c ∈ p.classes → c.iface = true → c.super = zS
  nm : ∀ c, c ∈ p.classes → c.name ≠ zS
theorem unlike_ok {p : Prog} (h : unlikeB p = true) : UnlikeP p := by
  have key : ∀ c, c ∈ p.classes → (c.iface = true → c.super = zS) ∧ c.name ≠ zS := by
    intro c hc
    obtain ⟨i, hi, rfl⟩ := List.mem_iff_getElem.1 hc
    unfold unlikeB at h
    rw [List.all_eq_true] at h
    have h1 := h i (List.mem_range.2 hi)
    unfold okU at h1
    simp only [List.getD, List.getElem?_eq_getElem hi, Option.getD_some, Bool.and_eq_true, Bool.not_eq_true', Bool.or_eq_false_iff, Bool.and_eq_false_iff, Bool.not_eq_false'] at h1
    refine ⟨fun h2 => ?_, beqS_no.1 h1.2.1⟩
    rcases h1.1 with h3 | h3
    · rw [h2] at h3; cases h3
    · exact beqS_iff.1 h3
  exact ⟨fun c hc => (key c hc).1, fun c hc => (key c hc).2⟩
theorem name_known {p : Prog} {k : Int} (h0 : 0 ≤ k) (h : beqS (nameP p k) nno = false) : ∃ c, c ∈ p.classes ∧ nameP p k = c.name := by
  unfold nameP at h ⊢
  split at h
  · rw [beqS_refl] at h; cases h
  · rename_i hq
    rw [if_neg hq]
    have hn : 0 < p.classes.length := by omega
    exact ⟨_, List.getElem_mem (near_lt hn h0), by rw [near_get hn h0]⟩
theorem hasC_of {p : Prog} {c : Cls} (h : c ∈ p.classes) : hasC p c.name = true := by
  unfold hasC clsFind
  rw [List.find?_isSome]
  exact ⟨c, h, beqS_refl _⟩
theorem classAt_elim {G : Prop} (p : Prog) (nm : Str) (h0 : classAt p nm = -1 → clsFind p nm = none → G) (h1 : ∀ (j : Nat) (hj : j < p.classes.length), classAt p nm = (j : Int) → clsFind p nm = some p.classes[j] → G) : G := by
  rcases classAt_cases p nm with ⟨a, b⟩ | ⟨j, hj, a, b⟩
  · exact h0 a b
  · exact h1 j hj a b
theorem name_has {p : Prog} {k : Int} (hu : UnlikeP p) (h0 : 0 ≤ k) (h : beqS (nameP p k) nno = false) : hasC p (nameP p k) = true ∧ nameP p k ≠ zS := by
  obtain ⟨c, hc, e⟩ := name_known h0 h
  rw [e]
  exact ⟨hasC_of hc, hu.nm c hc⟩
theorem iface_up {p : Prog} (hs : SoundP p) (hu : UnlikeP p) {a s : Str} (h : Anc p a s) (hi : ifaceP p a = true) : ifaceP p s = true := by
  induction h with
  | base hc => exact hi
  | @step s u c d h hc hm hd ih =>
    obtain ⟨hn, hcm⟩ := clsFind_name hc
    have hci : c.iface = true := by have := ih; unfold ifaceP at this; rw [hc] at this; exact this
    rcases mem_upC.1 hm with ⟨_, h2⟩ | h2
    · exact absurd (hu.top c hcm hci) h2
    · exact ((hs.ok hcm).ifs u h2).2.1
theorem cls_up {p : Prog} (hs : SoundP p) (hu : UnlikeP p) {a s : Str} (h : Anc p a s) (hi : ifaceP p s = false) : s ∈ supers p a ∧ ifaceP p a = false := by
  have hia : ifaceP p a = false := by
    cases hx : ifaceP p a with
    | false => rfl
    | true => rw [iface_up hs hu h hx] at hi; cases hi
  refine ⟨?_, hia⟩
  induction h with
  | base hc => exact supers_self hs (by unfold hasC; rw [hc]; rfl)
  | @step s u c d h hc hm hd ih =>
    obtain ⟨hn, hcm⟩ := clsFind_name hc
    rcases mem_upC.1 hm with ⟨h1, h2⟩ | h2
    · subst h1
      have hsi : ifaceP p s = false := by
        unfold ifaceP; rw [hc]
        show c.iface = false
        cases hx : c.iface with
        | false => rfl
        | true => exact absurd (hu.top c hcm hx) h2
      refine supers_trans hs (ih hsi) ?_
      rw [supers_cons hs hc, if_neg (by rw [beqS_no.2 h2]; simp)]
      exact List.mem_cons_of_mem _ (supers_self hs (by unfold hasC; rw [hd]; rfl))
    · rw [((hs.ok hcm).ifs u h2).2.1] at hi; cases hi
theorem com_comm {p : Prog} (hs : SoundP p) (a b : Str) : com p a b = com p b a := by
  by_cases h : a = b
  · subst h; rfl
  · rcases com_spec hs h with ⟨h1, h2⟩ | ⟨h1, h2, h3, h4⟩ <;> rcases com_spec hs (Ne.symm h) with ⟨k1, k2⟩ | ⟨k1, k2, k3, k4⟩
    · rw [h1, k1]
    · exact (h2 _ k3 k2).elim
    · exact (k2 _ h3 h2).elim
    · exact upS_anti hs (h4 _ k3 k2) (k4 _ h3 h2)
theorem com_self {p : Prog} (hs : SoundP p) {a : Str} (h : hasC p a = true) : com p a a = a := by
  unfold com
  rw [beqS_refl]
  simp only [Bool.not_true, Bool.false_and, Bool.false_eq_true, if_false]
  obtain ⟨r, e⟩ := supers_head hs h
  rw [e]
  exact comF_yes (inL_mem.2 List.mem_cons_self)
theorem upS_anc {p : Prog} (hs : SoundP p) {a s : Str} (ha : hasC p a = true) (h : upS p a s) : Anc p a s := by
  rcases h with rfl | ⟨_, h⟩
  · obtain ⟨c, hc⟩ := hasC_find ha
    exact .base hc
  · exact supers_anc hs h
section
variable {p : Prog} {a b c : Str}
theorem law_com1 (hs : SoundP p) (ha : hasC p a = true) (hb : hasC p b = true) : (!beqS (com p a b) (com p b a) || (!beqS (com p a b) zS && (!subP p a (com p a b) || !subP p b (com p a b)))) = false := by
  rw [← com_comm hs a b, beqS_refl]
  cases hz : beqS (com p a b) zS with
  | true => rfl
  | false =>
    have key : Anc p a (com p a b) ∧ Anc p b (com p a b) := by
      by_cases h : a = b
      · subst h
        rw [com_self hs ha]
        obtain ⟨c, hc⟩ := hasC_find ha
        exact ⟨.base hc, .base hc⟩
      · rcases com_spec hs h with ⟨h1, _⟩ | ⟨_, h2, h3, _⟩
        · exact absurd h1 (beqS_no.1 hz)
        · exact ⟨upS_anc hs ha h2, upS_anc hs hb h3⟩
    rw [subP_iff.2 key.1, subP_iff.2 key.2]; rfl
theorem law_com2 (hs : SoundP p) (hu : UnlikeP p) (ha : hasC p a = true) (hn : a ≠ zS) (hc : ifaceP p c = false) (h1 : subP p a c = true) (h2 : subP p b c = true) : (!beqS (com p a b) zS && subP p (com p a b) c) = true := by
  have k1 := cls_up hs hu (subP_iff.1 h1) hc
  have k2 := cls_up hs hu (subP_iff.1 h2) hc
  by_cases h : a = b
  · subst h
    rw [com_self hs ha, h1, beqS_no.2 hn]; rfl
  · rcases com_spec hs h with ⟨_, h4⟩ | ⟨h3, h5, h6, h4⟩
    · exact (h4 c (.inr ⟨k1.2, k1.1⟩) (.inr ⟨k2.2, k2.1⟩)).elim
    · have h7 := h4 c (.inr ⟨k1.2, k1.1⟩) (.inr ⟨k2.2, k2.1⟩)
      have h8 := upS_anc hs (upS_anc hs ha h5).known h7
      rw [beqS_no.2 h3, subP_iff.2 h8]; rfl
end
theorem law_com3 {p : Prog} {a b c : Str} (hs : SoundP p) (hu : UnlikeP p) (ha : hasC p a = true) (hn : a ≠ zS)
    (hq : (decide (classAt p c < 0) || (p.classes.getD (classAt p c).toNat default).iface || !subP p a c || !subP p b c) = false) : (!beqS (com p a b) zS && subP p (com p a b) c) = true := by
  simp only [Bool.or_eq_false_iff] at hq
  refine law_com2 hs hu ha hn ?_ (notF hq.1.2) (notF hq.2)
  refine classAt_elim p c (fun h1 h2 => ?_) (fun j hj h1 h2 => ?_)
  · have := hq.1.1.1; rw [h1] at this; simp at this
  · have h3 := hq.1.1.2
    rw [h1, Int.toNat_natCast, clsD hj] at h3
    unfold ifaceP
    rw [h2]; exact h3
theorem sameT_self (l : List Str) : sameT l l = true := sameT_iff.2 rfl

/-! ### The fixed programs of layer 11 -/
def nI : Str := ⟨#[73]⟩
def lhA : Cls := ⟨nA, zS, false, false, [], [], []⟩
def lhB : Cls := ⟨nB, nA, false, false, [nI], [], []⟩
def lhC : Cls := ⟨nC, nA, false, false, [], [], []⟩
def lhI : Cls := ⟨nI, zS, true, true, [], [], []⟩
def lhP : Prog := ⟨[lhA, lhB, lhC, lhI], [], ⟨zS, zS, zS⟩⟩
def lhA2 : Cls := ⟨nA, nB, false, false, [], [], []⟩
def lhB2 : Cls := ⟨nB, nA, false, false, [], [], []⟩
def lhQ : Prog := ⟨[lhA2, lhB2], [], ⟨zS, zS, zS⟩⟩
def subC (p : Prog) (n : Nat) (a b : Str) : Bool := match ancRun p n [a] [] with | some out => inL out b | none => false
theorem subC_ok {p : Prog} {n : Nat} {a b : Str} (h : (ancRun p n [a] []).isSome = true) : subP p a b = subC p n a b := by
  obtain ⟨out, ho⟩ := Option.isSome_iff_exists.1 h
  unfold subC
  rw [ho]
  exact subP_run n ho
def chk2C (p : Prog) (n : Nat) (c : Cls) : Bool := (upC c).any fun s => subC p n s c.name
theorem chk2_run {p : Prog} (n : Nat) (h : (p.classes.all fun c => (upC c).all fun s => (ancRun p n [s] []).isSome) = true) : p.classes.find? (chk2 p) = p.classes.find? (chk2C p n) := by
  have hx : ∀ c, c ∈ p.classes → chk2 p c = chk2C p n c := by
    intro c hc
    rw [List.all_eq_true] at h
    have h1 := h c hc
    rw [List.all_eq_true] at h1
    rw [chk2_round]
    unfold chk2C
    rw [Bool.eq_iff_iff, List.any_eq_true, List.any_eq_true]
    exact ⟨fun ⟨s, h2, h3⟩ => ⟨s, h2, by rw [← subC_ok (h1 s h2)]; exact h3⟩, fun ⟨s, h2, h3⟩ => ⟨s, h2, by rw [subC_ok (h1 s h2)]; exact h3⟩⟩
  have : ∀ l : List Cls, (∀ c, c ∈ l → c ∈ p.classes) → l.find? (chk2 p) = l.find? (chk2C p n) := by
    intro l
    induction l with
    | nil => intro _; rfl
    | cons c l ih =>
      intro hl
      rw [List.find?_cons, List.find?_cons, hx c (hl c List.mem_cons_self), ih (fun d hd => hl d (List.mem_cons_of_mem _ hd))]
  exact this _ (fun _ h => h)
theorem lhP_check : checkP lhP = (0, zS) := checkP_ok (by decide +kernel) ((chk2_run 20 (by decide +kernel)).trans (by decide +kernel))
theorem lhQ_check : checkP lhQ = (8, nA) := checkP_two (c := lhA2) (by decide +kernel) ((chk2_run 20 (by decide +kernel)).trans (by decide +kernel))
theorem ancL_run {p : Prog} {nm : Str} {out l : List Str} (n : Nat) (h : ancRun p n [nm] [] = some out) (hl : risF out = l) : ancL p nm = l := by
  rw [← hl, ancL_of (AncJ.fin (ancRun_spec (AncJ.start p nm) h))]
theorem subsL_run {p : Prog} {nm : Str} {l : List Str} (n : Nat) (h : (p.classes.all fun c => (ancRun p n [c.name] []).isSome) = true) (hl : risF ((p.classes.map Cls.name).filter fun s => subC p n s nm) = l) : subsL p nm = l := by
  rw [← hl]
  unfold subsL
  congr 1
  refine List.filter_congr fun s hs => ?_
  obtain ⟨c, hc, rfl⟩ := List.mem_map.1 hs
  rw [List.all_eq_true] at h
  exact subC_ok (h c hc)
theorem lhP_sub {a b : Str} {r : Bool} (h : (ancRun lhP 20 [a] []).isSome = true) (hr : subC lhP 20 a b = r) : subP lhP a b = r := (subC_ok h).trans hr
end Go.Sx
