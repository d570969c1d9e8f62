/- Plain laws of what is known of one of two, where nothing is wrong with a program's classes. -/
import Derived.Test.YtaphgfiboidpbaaBaSxPlain
set_option linter.unusedVariables false
set_option linter.unusedSimpArgs false
namespace Go.Sx
open Go

theorem Anc.trans {p : Prog} {a b c : Str} (h : Anc p a b) (k : Anc p b c) : Anc p a c := by
  induction k with
  | base _ => exact h
  | step _ hc hu hd ih => exact .step ih hc hu hd
theorem Anc.known {p : Prog} {a b : Str} (h : Anc p a b) : hasC p b = true := by
  cases h with
  | base hc => simp [hasC, hc]
  | step _ _ _ hd => simp [hasC, hd]
theorem subP_iff {p : Prog} {a b : Str} : subP p a b = true ↔ Anc p a b := by unfold subP; simp
theorem subP_no {p : Prog} {a b : Str} (h : subP p a b = false) : ¬ Anc p a b := fun k => by rw [subP_iff.2 k] at h; cases h
theorem beqS_no {a b : Str} : beqS a b = false ↔ a ≠ b := by
  cases h : beqS a b with
  | true => have := beqS_iff.1 h; simp [this]
  | false => simp; intro e; subst e; rw [beqS_refl] at h; cases h

structure UpOK (p : Prog) (c : Cls) : Prop where
  sup : c.super ≠ zS → hasC p c.super = true ∧ ifaceP p c.super = false ∧ ¬ Anc p c.super c.name
  ifs : ∀ s, s ∈ c.ifaces → hasC p s = true ∧ ifaceP p s = true ∧ ¬ Anc p s c.name
theorem SoundP.ok {p : Prog} (h : SoundP p) {c : Cls} (hc : c ∈ p.classes) : UpOK p c := by
  have h1 := h.one c hc
  have h2 := h.two c hc
  unfold chk1 at h1
  unfold chk2 at h2
  have h3 : (!beqS c.super zS && !hasC p c.super) = false ∧ (c.ifaces.any fun s => !hasC p s) = false ∧ (!beqS c.super zS && ifaceP p c.super) = false ∧ (c.ifaces.any fun s => !ifaceP p s) = false := by
    revert h1
    generalize (!beqS c.super zS && !hasC p c.super) = a
    generalize (c.ifaces.any fun s => !hasC p s) = b
    generalize (!beqS c.super zS && ifaceP p c.super) = d
    generalize (c.ifaces.any fun s => !ifaceP p s) = e
    cases a <;> cases b <;> cases d <;> cases e <;> simp
  obtain ⟨a1, a2, a3, a4⟩ := h3
  rw [Bool.or_eq_false_iff] at h2
  obtain ⟨a5, a6⟩ := h2
  rw [List.any_eq_false] at a2 a4 a6
  refine ⟨fun hn => ?_, fun s hs => ⟨by simpa using a2 s hs, by simpa using a4 s hs, subP_no (by simpa using a6 s hs)⟩⟩
  rw [beqS_no.2 hn] at a1 a3 a5
  exact ⟨by simpa using a1, by simpa using a3, subP_no (by simpa using a5)⟩

theorem up_anc {p : Prog} (hs : SoundP p) {s : Str} {c : Cls} (hc : clsFind p s = some c) (hn : c.super ≠ zS) : Anc p s c.super := by
  obtain ⟨d, hd⟩ := hasC_find ((hs.ok (clsFind_name hc).2).sup hn).1
  exact .step (.base hc) hc (by unfold upC; rw [beqS_no.2 hn]; exact List.mem_cons_self) hd
theorem acyc {p : Prog} (hs : SoundP p) {s : Str} {c : Cls} (hc : clsFind p s = some c) (hn : c.super ≠ zS) : ¬ Anc p c.super s := by
  have := ((hs.ok (clsFind_name hc).2).sup hn).2.2
  rwa [(clsFind_name hc).1] at this

theorem countP_lt {α : Type} {q r : α → Bool} : ∀ {l : List α} {a : α}, (∀ z, q z = true → r z = true) → a ∈ l → r a = true → q a = false → l.countP q < l.countP r
  | [], _, _, h, _, _ => nomatch h
  | x :: l, a, hm, h, hr, hq => by
    rw [List.countP_cons, List.countP_cons]
    rcases List.mem_cons.1 h with rfl | h
    · have := List.countP_mono_left (l := l) (p := q) (q := r) (fun z _ => hm z)
      rw [hr, hq]; simp; omega
    · have ih := countP_lt hm h hr hq
      have : (if q x = true then 1 else 0) ≤ (if r x = true then 1 else 0 : Nat) := by
        cases hqx : q x with
        | false => simp
        | true => rw [hm x hqx]; simp
      omega

noncomputable def mu (p : Prog) (s : Str) : Nat := (p.classes.map Cls.name).countP (subP p s)
theorem mu_lt {p : Prog} (hs : SoundP p) {s : Str} {c : Cls} (hc : clsFind p s = some c) (hn : c.super ≠ zS) : mu p c.super < mu p s := by
  refine countP_lt (a := s) (fun z hz => subP_iff.2 ((up_anc hs hc hn).trans (subP_iff.1 hz))) (hasC_mem (by simp [hasC, hc])) (subP_iff.2 (.base hc)) ?_
  cases h : subP p c.super s with
  | false => rfl
  | true => exact absurd (subP_iff.1 h) (acyc hs hc hn)
theorem mu_pos {p : Prog} {s : Str} (h : mu p s = 0) : clsFind p s = none := by
  cases hc : clsFind p s with
  | none => rfl
  | some c =>
    have hm : s ∈ p.classes.map Cls.name := hasC_mem (by simp [hasC, hc])
    have := List.countP_pos_iff.2 ⟨s, hm, subP_iff.2 (.base hc)⟩
    unfold mu at h; omega
theorem mu_le (p : Prog) (s : Str) : mu p s ≤ p.classes.length := by
  have := List.countP_le_length (p := subP p s) (l := p.classes.map Cls.name)
  simpa [mu] using this

def chain (p : Prog) : Nat → Str → List Str
  | 0, _ => []
  | n + 1, s => match clsFind p s with
    | none => []
    | some c => s :: (if beqS c.super zS then [] else chain p n c.super)
theorem chain_anc {p : Prog} (hs : SoundP p) : ∀ {n : Nat} {s z : Str}, z ∈ chain p n s → Anc p s z
  | 0, _, _, h => nomatch h
  | n + 1, s, z, h => by
    unfold chain at h
    cases hc : clsFind p s with
    | none => rw [hc] at h; cases h
    | some c =>
      rw [hc] at h
      rcases List.mem_cons.1 h with rfl | h
      · exact .base hc
      · cases hb : beqS c.super zS with
        | true => rw [hb] at h; cases h
        | false => rw [hb] at h; exact (up_anc hs hc (beqS_no.1 hb)).trans (chain_anc hs h)
theorem supF_chain {p : Prog} (hs : SoundP p) : ∀ (n : Nat) (s : Str) (out : List Str), (∀ z, z ∈ out → z ∉ chain p n s) → supF p n s out = out ++ chain p n s
  | 0, _, out, _ => by simp [supF, chain]
  | n + 1, s, out, h => by
    unfold supF chain
    unfold chain at h
    cases hc : clsFind p s with
    | none => simp
    | some c =>
      rw [hc] at h
      simp only at h ⊢
      rw [(clsFind_name hc).1]
      have hin : inL out s = false := inL_false.2 fun hx => h s hx List.mem_cons_self
      rw [hin]
      cases hb : beqS c.super zS with
      | true => simp
      | false =>
        rw [hb] at h
        simp only [Bool.false_eq_true, if_false] at h ⊢
        rw [supF_chain hs n c.super (out ++ [s])]
        · simp
        · intro z hz hk
          rcases List.mem_append.1 hz with hz | hz
          · exact h z hz (List.mem_cons_of_mem _ hk)
          · rw [List.mem_singleton] at hz; subst hz
            exact acyc hs hc (beqS_no.1 hb) (chain_anc hs hk)
theorem chain_stable {p : Prog} (hs : SoundP p) : ∀ (n m : Nat) (s : Str), mu p s ≤ n → mu p s ≤ m → chain p n s = chain p m s
  | 0, 0, _, _, _ => rfl
  | 0, m + 1, s, h, _ => by unfold chain; rw [mu_pos (by omega)]
  | n + 1, 0, s, _, h => by unfold chain; rw [mu_pos (by omega)]
  | n + 1, m + 1, s, h1, h2 => by
    unfold chain
    cases hc : clsFind p s with
    | none => rfl
    | some c =>
      simp only
      cases hb : beqS c.super zS with
      | true => rfl
      | false =>
        have := mu_lt hs hc (beqS_no.1 hb)
        simp only [Bool.false_eq_true, if_false]
        rw [chain_stable hs n m c.super (by omega) (by omega)]
theorem supers_none {p : Prog} {s : Str} (h : clsFind p s = none) : supers p s = [] := by unfold supers supF; rw [h]
theorem supers_cons {p : Prog} (hs : SoundP p) {s : Str} {c : Cls} (hc : clsFind p s = some c) : supers p s = s :: (if beqS c.super zS then [] else supers p c.super) := by
  unfold supers
  rw [supF_chain hs _ _ _ (fun _ h => absurd h List.not_mem_nil), supF_chain hs _ _ _ (fun _ h => absurd h List.not_mem_nil), List.nil_append, List.nil_append]
  conv => lhs; unfold chain
  rw [hc]
  simp only
  cases hb : beqS c.super zS with
  | true => rfl
  | false =>
    have h1 := mu_lt hs hc (beqS_no.1 hb)
    have h2 := mu_le p s
    simp only [Bool.false_eq_true, if_false]
    rw [chain_stable hs p.classes.length (p.classes.length + 1) c.super (by omega) (by omega)]

theorem supers_suf {p : Prog} (hs : SoundP p) : ∀ (n : Nat) (x y : Str), mu p x ≤ n → y ∈ supers p x → ∃ pre, supers p x = pre ++ supers p y
  | 0, x, y, h, hy => by rw [supers_none (mu_pos (by omega))] at hy; cases hy
  | n + 1, x, y, h, hy => by
    cases hc : clsFind p x with
    | none => rw [supers_none hc] at hy; cases hy
    | some c =>
      have e := supers_cons hs hc
      rw [e] at hy
      rcases List.mem_cons.1 hy with rfl | hy
      · exact ⟨[], rfl⟩
      · cases hb : beqS c.super zS with
        | true => rw [hb] at hy; cases hy
        | false =>
          rw [hb] at hy e
          simp only [Bool.false_eq_true, if_false] at hy e
          have := mu_lt hs hc (beqS_no.1 hb)
          obtain ⟨pre, h2⟩ := supers_suf hs n c.super y (by omega) hy
          exact ⟨x :: pre, by rw [e, h2]; rfl⟩
theorem supers_trans {p : Prog} (hs : SoundP p) {x y z : Str} (h : y ∈ supers p x) (k : z ∈ supers p y) : z ∈ supers p x := by
  obtain ⟨pre, e⟩ := supers_suf hs _ x y (Nat.le_refl _) h
  rw [e]; exact List.mem_append_right _ k
theorem supers_anc {p : Prog} (hs : SoundP p) {x y : Str} (h : y ∈ supers p x) : Anc p x y := by
  unfold supers at h
  rw [supF_chain hs _ _ _ (fun _ h => absurd h List.not_mem_nil), List.nil_append] at h
  exact chain_anc hs h
theorem supers_head {p : Prog} (hs : SoundP p) {x : Str} (h : hasC p x = true) : ∃ r, supers p x = x :: r := by
  obtain ⟨c, hc⟩ := hasC_find h
  exact ⟨_, supers_cons hs hc⟩
theorem supers_anti {p : Prog} (hs : SoundP p) {x y : Str} (h : y ∈ supers p x) (k : x ∈ supers p y) : x = y := by
  obtain ⟨a, e1⟩ := supers_suf hs _ x y (Nat.le_refl _) h
  obtain ⟨b, e2⟩ := supers_suf hs _ y x (Nat.le_refl _) k
  have h1 := congrArg List.length e1
  have h2 := congrArg List.length e2
  simp only [List.length_append] at h1 h2
  have ha : a = [] := List.eq_nil_of_length_eq_zero (by omega)
  rw [ha, List.nil_append] at e1
  obtain ⟨r, hx⟩ := supers_head hs (supers_anc hs k).known
  obtain ⟨r', hy⟩ := supers_head hs (supers_anc hs h).known
  rw [hx, hy] at e1
  exact (List.cons.inj e1).1
/-! ### Names, ordered -/
def upS (p : Prog) (x z : Str) : Prop := z = x ∨ (ifaceP p x = false ∧ z ∈ supers p x)
theorem upS_trans {p : Prog} (hs : SoundP p) {x y z : Str} (h : upS p x y) (k : upS p y z) : upS p x z := by
  rcases h with rfl | ⟨h1, h2⟩
  · exact k
  · rcases k with rfl | ⟨k1, k2⟩
    · exact .inr ⟨h1, h2⟩
    · exact .inr ⟨h1, supers_trans hs h2 k2⟩
theorem upS_anti {p : Prog} (hs : SoundP p) {x y : Str} (h : upS p x y) (k : upS p y x) : x = y := by
  rcases h with rfl | ⟨_, h⟩
  · rfl
  · rcases k with rfl | ⟨_, k⟩
    · rfl
    · exact supers_anti hs h k
/-! ### What is known, ordered -/
theorem fact_eq {a b : Fact} (h1 : a.kind = b.kind) (h2 : a.cls = b.cls) : a = b := by cases a; cases b; cases h1; cases h2; rfl
def NearOK (f : Fact) : Prop := 0 ≤ f.kind ∧ f.kind ≤ 6 ∧ (f.kind = 3 ∨ f.kind = 5 ∨ f.cls = zS)
def rK (f : Fact) : Prop := 2 ≤ f.kind ∧ f.kind ≤ 6
def LeF (p : Prog) (a b : Fact) : Prop := a = b ∨ b = ⟨0, zS⟩ ∨ (rK a ∧ rK b ∧ (a.kind = 2 ∨ b.kind = 6 ∨ (a.kind = 3 ∧ b.kind = 3 ∧ upS p a.cls b.cls)))
theorem LeF.refl (p : Prog) (a : Fact) : LeF p a a := .inl rfl
theorem rK0 : ¬ rK ⟨0, zS⟩ := fun h => by have := h.1; simp at this
theorem LeF.trans {p : Prog} (hs : SoundP p) {a b c : Fact} (h : LeF p a b) (k : LeF p b c) : LeF p a c := by
  rcases h with rfl | rfl | ⟨h1, h2, h3⟩
  · exact k
  · rcases k with rfl | rfl | ⟨k1, k2, k3⟩
    · exact .inr (.inl rfl)
    · exact .inr (.inl rfl)
    · exact absurd k1 rK0
  · rcases k with rfl | rfl | ⟨k1, k2, k3⟩
    · exact .inr (.inr ⟨h1, h2, h3⟩)
    · exact .inr (.inl rfl)
    · refine .inr (.inr ⟨h1, k2, ?_⟩)
      rcases h3 with h3 | h3 | ⟨h3, h4, h5⟩
      · exact .inl h3
      · rcases k3 with k3 | k3 | ⟨k3, _⟩
        · omega
        · exact .inr (.inl k3)
        · omega
      · rcases k3 with k3 | k3 | ⟨k3, k4, k5⟩
        · omega
        · exact .inr (.inl k3)
        · exact .inr (.inr ⟨h3, k4, upS_trans hs h5 k5⟩)
theorem LeF.anti {p : Prog} (hs : SoundP p) {a b : Fact} (ha : NearOK a) (hb : NearOK b) (h : LeF p a b) (k : LeF p b a) : a = b := by
  rcases h with rfl | rfl | ⟨h1, h2, h3⟩
  · rfl
  · rcases k with k | k | ⟨k1, _⟩
    · exact k.symm
    · exact k
    · exact absurd k1 rK0
  · rcases k with k | rfl | ⟨k1, k2, k3⟩
    · exact k.symm
    · exact absurd h1 rK0
    · obtain ⟨_, _, ha⟩ := ha
      obtain ⟨_, _, hb⟩ := hb
      have zz : a.kind = b.kind → a.kind ≠ 3 → a.kind ≠ 5 → a = b := fun e n3 n5 => by
        refine fact_eq e ?_
        rcases ha with ha | ha | ha
        · exact absurd ha n3
        · exact absurd ha n5
        · rcases hb with hb | hb | hb
          · exact absurd (e.trans hb) n3
          · exact absurd (e.trans hb) n5
          · rw [ha, hb]
      rcases h3 with h3 | h3 | ⟨h3, h4, h5⟩
      · rcases k3 with k3 | k3 | ⟨k3, k4, k5⟩
        · exact zz (by omega) (by omega) (by omega)
        · omega
        · omega
      · rcases k3 with k3 | k3 | ⟨k3, k4, k5⟩
        · omega
        · exact zz (by omega) (by omega) (by omega)
        · omega
      · rcases k3 with k3 | k3 | ⟨k3, k4, k5⟩
        · omega
        · omega
        · exact fact_eq (by omega) (upS_anti hs h5 k5)
structure Lub (p : Prog) (a b j : Fact) : Prop where
  ok : NearOK j
  l : LeF p a j
  r : LeF p b j
  u : ∀ c, NearOK c → LeF p a c → LeF p b c → LeF p j c
section
variable {p : Prog} (hs : SoundP p) {a b c : Fact} (ha : NearOK a) (hb : NearOK b) (hc : NearOK c)
include hs ha hb
end
theorem greatP_if {p : Prog} (h : greatP p = false) : ∀ c, c ∈ p.classes → c.ifaces.length ≤ 1000 := by
  intro c hc
  unfold greatP at h
  rw [Bool.or_eq_false_iff, List.any_eq_false] at h
  have := h.2 c hc
  unfold greatC greatC0 at this
  simp at this
  omega
section
variable {p : Prog} (hs : SoundP p) {a b c : Fact} (ha : NearOK a) (hb : NearOK b) (hc : NearOK c)
include hs ha hb
end
end Go.Sx
