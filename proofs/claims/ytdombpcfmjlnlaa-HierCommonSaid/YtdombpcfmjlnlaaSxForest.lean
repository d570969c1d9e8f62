/- Plain laws of what is known of one of two, where nothing is wrong with a program's classes. -/
import Derived.Test.YtdombpcfmjlnlaaSxPlain
set_option linter.unusedVariables false
set_option linter.unusedSimpArgs false
namespace Go.Sx
open Go

theorem Anc.trans {p : Prog} {a b c : Str} (h : Anc p a b) (k : Anc p b c) : Anc p a c := by
  induction k with
  | base _ => exact h
  | step _ hc hu hd ih => exact .step ih hc hu hd
theorem Anc.known {p : Prog} {a b : Str} (h : Anc p a b) : hasC p b = true := by
  cases h with
  | base hc => simp [hasC, hc]
  | step _ _ _ hd => simp [hasC, hd]
theorem subP_iff {p : Prog} {a b : Str} : subP p a b = true ↔ Anc p a b := by unfold subP; simp
theorem subP_no {p : Prog} {a b : Str} (h : subP p a b = false) : ¬ Anc p a b := fun k => by rw [subP_iff.2 k] at h; cases h
theorem beqS_no {a b : Str} : beqS a b = false ↔ a ≠ b := by
  cases h : beqS a b with
  | true => have := beqS_iff.1 h; simp [this]
  | false => simp; intro e; subst e; rw [beqS_refl] at h; cases h

structure UpOK (p : Prog) (c : Cls) : Prop where
  sup : c.super ≠ zS → hasC p c.super = true ∧ ifaceP p c.super = false ∧ ¬ Anc p c.super c.name
  ifs : ∀ s, s ∈ c.ifaces → hasC p s = true ∧ ifaceP p s = true ∧ ¬ Anc p s c.name
theorem SoundP.ok {p : Prog} (h : SoundP p) {c : Cls} (hc : c ∈ p.classes) : UpOK p c := by
  have h1 := h.one c hc
  have h2 := h.two c hc
  unfold chk1 at h1
  unfold chk2 at h2
  have h3 : (!beqS c.super zS && !hasC p c.super) = false ∧ (c.ifaces.any fun s => !hasC p s) = false ∧ (!beqS c.super zS && ifaceP p c.super) = false ∧ (c.ifaces.any fun s => !ifaceP p s) = false := by
    revert h1
    generalize (!beqS c.super zS && !hasC p c.super) = a
    generalize (c.ifaces.any fun s => !hasC p s) = b
    generalize (!beqS c.super zS && ifaceP p c.super) = d
    generalize (c.ifaces.any fun s => !ifaceP p s) = e
    cases a <;> cases b <;> cases d <;> cases e <;> simp
  obtain ⟨a1, a2, a3, a4⟩ := h3
  rw [Bool.or_eq_false_iff] at h2
  obtain ⟨a5, a6⟩ := h2
  rw [List.any_eq_false] at a2 a4 a6
  refine ⟨fun hn => ?_, fun s hs => ⟨by simpa using a2 s hs, by simpa using a4 s hs, subP_no (by simpa using a6 s hs)⟩⟩
  rw [beqS_no.2 hn] at a1 a3 a5
  exact ⟨by simpa using a1, by simpa using a3, subP_no (by simpa using a5)⟩

theorem up_anc {p : Prog} (hs : SoundP p) {s : Str} {c : Cls} (hc : clsFind p s = some c) (hn : c.super ≠ zS) : Anc p s c.super := by
  obtain ⟨d, hd⟩ := hasC_find ((hs.ok (clsFind_name hc).2).sup hn).1
  exact .step (.base hc) hc (by unfold upC; rw [beqS_no.2 hn]; exact List.mem_cons_self) hd
theorem acyc {p : Prog} (hs : SoundP p) {s : Str} {c : Cls} (hc : clsFind p s = some c) (hn : c.super ≠ zS) : ¬ Anc p c.super s := by
  have := ((hs.ok (clsFind_name hc).2).sup hn).2.2
  rwa [(clsFind_name hc).1] at this

theorem countP_lt {α : Type} {q r : α → Bool} : ∀ {l : List α} {a : α}, (∀ z, q z = true → r z = true) → a ∈ l → r a = true → q a = false → l.countP q < l.countP r
  | [], _, _, h, _, _ => nomatch h
  | x :: l, a, hm, h, hr, hq => by
    rw [List.countP_cons, List.countP_cons]
    rcases List.mem_cons.1 h with rfl | h
    · have := List.countP_mono_left (l := l) (p := q) (q := r) (fun z _ => hm z)
      rw [hr, hq]; simp; omega
    · have ih := countP_lt hm h hr hq
      have : (if q x = true then 1 else 0) ≤ (if r x = true then 1 else 0 : Nat) := by
        cases hqx : q x with
        | false => simp
        | true => rw [hm x hqx]; simp
      omega

noncomputable def mu (p : Prog) (s : Str) : Nat := (p.classes.map Cls.name).countP (subP p s)
theorem mu_lt {p : Prog} (hs : SoundP p) {s : Str} {c : Cls} (hc : clsFind p s = some c) (hn : c.super ≠ zS) : mu p c.super < mu p s := by
  refine countP_lt (a := s) (fun z hz => subP_iff.2 ((up_anc hs hc hn).trans (subP_iff.1 hz))) (hasC_mem (by simp [hasC, hc])) (subP_iff.2 (.base hc)) ?_
  cases h : subP p c.super s with
  | false => rfl
  | true => exact absurd (subP_iff.1 h) (acyc hs hc hn)
theorem mu_pos {p : Prog} {s : Str} (h : mu p s = 0) : clsFind p s = none := by
  cases hc : clsFind p s with
  | none => rfl
  | some c =>
    have hm : s ∈ p.classes.map Cls.name := hasC_mem (by simp [hasC, hc])
    have := List.countP_pos_iff.2 ⟨s, hm, subP_iff.2 (.base hc)⟩
    unfold mu at h; omega
theorem mu_le (p : Prog) (s : Str) : mu p s ≤ p.classes.length := by
  have := List.countP_le_length (p := subP p s) (l := p.classes.map Cls.name)
  simpa [mu] using this

def chain (p : Prog) : Nat → Str → List Str
  | 0, _ => []
  | n + 1, s => match clsFind p s with
    | none => []
    | some c => s :: (if beqS c.super zS then [] else chain p n c.super)
theorem chain_anc {p : Prog} (hs : SoundP p) : ∀ {n : Nat} {s z : Str}, z ∈ chain p n s → Anc p s z
  | 0, _, _, h => nomatch h
  | n + 1, s, z, h => by
    unfold chain at h
    cases hc : clsFind p s with
    | none => rw [hc] at h; cases h
    | some c =>
      rw [hc] at h
      rcases List.mem_cons.1 h with rfl | h
      · exact .base hc
      · cases hb : beqS c.super zS with
        | true => rw [hb] at h; cases h
        | false => rw [hb] at h; exact (up_anc hs hc (beqS_no.1 hb)).trans (chain_anc hs h)
theorem supF_chain {p : Prog} (hs : SoundP p) : ∀ (n : Nat) (s : Str) (out : List Str), (∀ z, z ∈ out → z ∉ chain p n s) → supF p n s out = out ++ chain p n s
  | 0, _, out, _ => by simp [supF, chain]
  | n + 1, s, out, h => by
    unfold supF chain
    unfold chain at h
    cases hc : clsFind p s with
    | none => simp
    | some c =>
      rw [hc] at h
      simp only at h ⊢
      rw [(clsFind_name hc).1]
      have hin : inL out s = false := inL_false.2 fun hx => h s hx List.mem_cons_self
      rw [hin]
      cases hb : beqS c.super zS with
      | true => simp
      | false =>
        rw [hb] at h
        simp only [Bool.false_eq_true, if_false] at h ⊢
        rw [supF_chain hs n c.super (out ++ [s])]
        · simp
        · intro z hz hk
          rcases List.mem_append.1 hz with hz | hz
          · exact h z hz (List.mem_cons_of_mem _ hk)
          · rw [List.mem_singleton] at hz; subst hz
            exact acyc hs hc (beqS_no.1 hb) (chain_anc hs hk)
theorem chain_stable {p : Prog} (hs : SoundP p) : ∀ (n m : Nat) (s : Str), mu p s ≤ n → mu p s ≤ m → chain p n s = chain p m s
  | 0, 0, _, _, _ => rfl
  | 0, m + 1, s, h, _ => by unfold chain; rw [mu_pos (by omega)]
  | n + 1, 0, s, _, h => by unfold chain; rw [mu_pos (by omega)]
  | n + 1, m + 1, s, h1, h2 => by
    unfold chain
    cases hc : clsFind p s with
    | none => rfl
    | some c =>
      simp only
      cases hb : beqS c.super zS with
      | true => rfl
      | false =>
        have := mu_lt hs hc (beqS_no.1 hb)
        simp only [Bool.false_eq_true, if_false]
        rw [chain_stable hs n m c.super (by omega) (by omega)]
theorem supers_none {p : Prog} {s : Str} (h : clsFind p s = none) : supers p s = [] := by unfold supers supF; rw [h]
theorem supers_cons {p : Prog} (hs : SoundP p) {s : Str} {c : Cls} (hc : clsFind p s = some c) : supers p s = s :: (if beqS c.super zS then [] else supers p c.super) := by
  unfold supers
  rw [supF_chain hs _ _ _ (fun _ h => absurd h List.not_mem_nil), supF_chain hs _ _ _ (fun _ h => absurd h List.not_mem_nil), List.nil_append, List.nil_append]
  conv => lhs; unfold chain
  rw [hc]
  simp only
  cases hb : beqS c.super zS with
  | true => rfl
  | false =>
    have h1 := mu_lt hs hc (beqS_no.1 hb)
    have h2 := mu_le p s
    simp only [Bool.false_eq_true, if_false]
    rw [chain_stable hs p.classes.length (p.classes.length + 1) c.super (by omega) (by omega)]

theorem supers_suf {p : Prog} (hs : SoundP p) : ∀ (n : Nat) (x y : Str), mu p x ≤ n → y ∈ supers p x → ∃ pre, supers p x = pre ++ supers p y
  | 0, x, y, h, hy => by rw [supers_none (mu_pos (by omega))] at hy; cases hy
  | n + 1, x, y, h, hy => by
    cases hc : clsFind p x with
    | none => rw [supers_none hc] at hy; cases hy
    | some c =>
      have e := supers_cons hs hc
      rw [e] at hy
      rcases List.mem_cons.1 hy with rfl | hy
      · exact ⟨[], rfl⟩
      · cases hb : beqS c.super zS with
        | true => rw [hb] at hy; cases hy
        | false =>
          rw [hb] at hy e
          simp only [Bool.false_eq_true, if_false] at hy e
          have := mu_lt hs hc (beqS_no.1 hb)
          obtain ⟨pre, h2⟩ := supers_suf hs n c.super y (by omega) hy
          exact ⟨x :: pre, by rw [e, h2]; rfl⟩
theorem supers_trans {p : Prog} (hs : SoundP p) {x y z : Str} (h : y ∈ supers p x) (k : z ∈ supers p y) : z ∈ supers p x := by
  obtain ⟨pre, e⟩ := supers_suf hs _ x y (Nat.le_refl _) h
  rw [e]; exact List.mem_append_right _ k
theorem supers_anc {p : Prog} (hs : SoundP p) {x y : Str} (h : y ∈ supers p x) : Anc p x y := by
  unfold supers at h
  rw [supF_chain hs _ _ _ (fun _ h => absurd h List.not_mem_nil), List.nil_append] at h
  exact chain_anc hs h
theorem supers_self {p : Prog} (hs : SoundP p) {x : Str} (h : hasC p x = true) : x ∈ supers p x := by
  obtain ⟨c, hc⟩ := hasC_find h
  rw [supers_cons hs hc]; exact List.mem_cons_self
theorem supers_head {p : Prog} (hs : SoundP p) {x : Str} (h : hasC p x = true) : ∃ r, supers p x = x :: r := by
  obtain ⟨c, hc⟩ := hasC_find h
  exact ⟨_, supers_cons hs hc⟩
theorem supers_anti {p : Prog} (hs : SoundP p) {x y : Str} (h : y ∈ supers p x) (k : x ∈ supers p y) : x = y := by
  obtain ⟨a, e1⟩ := supers_suf hs _ x y (Nat.le_refl _) h
  obtain ⟨b, e2⟩ := supers_suf hs _ y x (Nat.le_refl _) k
  have h1 := congrArg List.length e1
  have h2 := congrArg List.length e2
  simp only [List.length_append] at h1 h2
  have ha : a = [] := List.eq_nil_of_length_eq_zero (by omega)
  rw [ha, List.nil_append] at e1
  obtain ⟨r, hx⟩ := supers_head hs (supers_anc hs k).known
  obtain ⟨r', hy⟩ := supers_head hs (supers_anc hs h).known
  rw [hx, hy] at e1
  exact (List.cons.inj e1).1
/-- What is above a class and is not it is no interface, and has a name. -/
theorem supers_up {p : Prog} (hs : SoundP p) : ∀ (n : Nat) (x y : Str), mu p x ≤ n → y ∈ supers p x → y = x ∨ (ifaceP p y = false ∧ y ≠ zS)
  | 0, x, y, h, hy => by rw [supers_none (mu_pos (by omega))] at hy; cases hy
  | n + 1, x, y, h, hy => by
    cases hc : clsFind p x with
    | none => rw [supers_none hc] at hy; cases hy
    | some c =>
      rw [supers_cons hs hc] at hy
      rcases List.mem_cons.1 hy with rfl | hy
      · exact .inl rfl
      · cases hb : beqS c.super zS with
        | true => rw [hb] at hy; cases hy
        | false =>
          rw [hb] at hy
          simp only [Bool.false_eq_true, if_false] at hy
          have hn := beqS_no.1 hb
          have := mu_lt hs hc hn
          rcases supers_up hs n c.super y (by omega) hy with rfl | h2
          · exact .inr ⟨((hs.ok (clsFind_name hc).2).sup hn).2.1, hn⟩
          · exact .inr h2

/-! ### Names, ordered -/
def upS (p : Prog) (x z : Str) : Prop := z = x ∨ (ifaceP p x = false ∧ z ∈ supers p x)
theorem upS_trans {p : Prog} (hs : SoundP p) {x y z : Str} (h : upS p x y) (k : upS p y z) : upS p x z := by
  rcases h with rfl | ⟨h1, h2⟩
  · exact k
  · rcases k with rfl | ⟨k1, k2⟩
    · exact .inr ⟨h1, h2⟩
    · exact .inr ⟨h1, supers_trans hs h2 k2⟩
theorem upS_anti {p : Prog} (hs : SoundP p) {x y : Str} (h : upS p x y) (k : upS p y x) : x = y := by
  rcases h with rfl | ⟨_, h⟩
  · rfl
  · rcases k with rfl | ⟨_, k⟩
    · rfl
    · exact supers_anti hs h k
theorem upS_both {p : Prog} (hs : SoundP p) {x y w : Str} (hxy : x ≠ y) (h : upS p x w) (k : upS p y w) : ifaceP p x = false ∧ ifaceP p y = false ∧ w ∈ supers p x ∧ w ∈ supers p y := by
  have key : ∀ {x y : Str}, x ≠ y → upS p y x → ifaceP p x = false ∧ ifaceP p y = false ∧ x ∈ supers p x ∧ x ∈ supers p y := by
    intro x y hxy k
    rcases k with rfl | ⟨k1, k2⟩
    · exact absurd rfl hxy
    · rcases supers_up hs _ y x (Nat.le_refl _) k2 with rfl | h2
      · exact absurd rfl hxy
      · exact ⟨h2.1, k1, supers_self hs (supers_anc hs k2).known, k2⟩
  rcases h with rfl | ⟨h1, h2⟩
  · exact key hxy k
  · rcases k with rfl | ⟨k1, k2⟩
    · obtain ⟨a, b, c, d⟩ := key (Ne.symm hxy) (.inr ⟨h1, h2⟩)
      exact ⟨b, a, d, c⟩
    · exact ⟨h1, k1, h2, k2⟩
theorem com_spec {p : Prog} (hs : SoundP p) {x y : Str} (hxy : x ≠ y) :
    (com p x y = zS ∧ ∀ w, upS p x w → upS p y w → False) ∨ (com p x y ≠ zS ∧ upS p x (com p x y) ∧ upS p y (com p x y) ∧ ∀ w, upS p x w → upS p y w → upS p (com p x y) w) := by
  unfold com
  rw [beqS_no.2 hxy]
  cases hi : ifaceP p x || ifaceP p y with
  | true =>
    refine .inl ⟨rfl, fun w h k => ?_⟩
    obtain ⟨a, b, _, _⟩ := upS_both hs hxy h k
    rw [a, b] at hi; cases hi
  | false =>
    rw [Bool.or_eq_false_iff] at hi
    simp only [Bool.not_false, Bool.and_false, Bool.false_eq_true, if_false]
    unfold comF
    cases hf : (supers p x).find? fun s => inL (supers p y) s with
    | none =>
      refine .inl ⟨rfl, fun w h k => ?_⟩
      obtain ⟨_, _, a, b⟩ := upS_both hs hxy h k
      rw [List.find?_eq_none] at hf
      exact hf w a (inL_mem.2 b)
    | some z =>
      obtain ⟨hz, as, bs, e, has⟩ := List.find?_eq_some_iff_append.1 hf
      have hzx : z ∈ supers p x := by rw [e]; simp
      have hzy : z ∈ supers p y := inL_mem.1 hz
      refine .inr ⟨?_, .inr ⟨hi.1, hzx⟩, .inr ⟨hi.2, hzy⟩, fun w h k => ?_⟩
      · rcases supers_up hs _ x z (Nat.le_refl _) hzx with h1 | h1
        · rcases supers_up hs _ y z (Nat.le_refl _) hzy with h2 | h2
          · exact absurd (h1.symm.trans h2) hxy
          · exact h2.2
        · exact h1.2
      · obtain ⟨_, _, a, b⟩ := upS_both hs hxy h k
        have hzi : ifaceP p z = false := by
          rcases supers_up hs _ x z (Nat.le_refl _) hzx with h1 | h1
          · exact h1 ▸ hi.1
          · exact h1.1
        refine .inr ⟨hzi, ?_⟩
        obtain ⟨pre, e2⟩ := supers_suf hs _ x z (Nat.le_refl _) hzx
        obtain ⟨r, e3⟩ := supers_head hs (supers_anc hs hzx).known
        have hnd := (supers_sub p x).1
        rw [e] at a
        rcases List.mem_append.1 a with a | a
        · have := has w a; rw [inL_mem.2 b] at this; cases this
        · have e4 : as ++ z :: bs = pre ++ z :: r := by rw [← e, e2, e3]
          have e5 : as = pre ∧ bs = r := by
            rw [e] at hnd
            have hna : z ∉ as := fun h => (List.nodup_append.1 hnd).2.2 z h z List.mem_cons_self rfl
            have hnp : z ∉ pre := fun h => (List.nodup_append.1 (e4 ▸ hnd)).2.2 z h z List.mem_cons_self rfl
            have key : ∀ (as pre : List Str), z ∉ as → z ∉ pre → as ++ z :: bs = pre ++ z :: r → as = pre ∧ bs = r := by
              intro as
              induction as with
              | nil => intro pre _ h2 h3; cases pre with
                | nil => simp at h3; exact ⟨rfl, h3⟩
                | cons q pre => simp at h3; exact absurd h3.1 (fun e => h2 (by rw [e]; exact List.mem_cons_self))
              | cons q as ih => intro pre h1 h2 h3; cases pre with
                | nil => simp at h3; exact absurd h3.1 (fun e => h1 (by rw [← e]; exact List.mem_cons_self))
                | cons q' pre =>
                  simp only [List.cons_append, List.cons.injEq] at h3
                  obtain ⟨h4, h5⟩ := ih pre (fun h => h1 (List.mem_cons_of_mem _ h)) (fun h => h2 (List.mem_cons_of_mem _ h)) h3.2
                  exact ⟨by rw [h3.1, h4], h5⟩
            exact key as pre hna hnp e4
          show w ∈ supers p z
          rw [e3, ← e5.2]; exact a

/-! ### What is known, ordered -/
theorem fact_eq {a b : Fact} (h1 : a.kind = b.kind) (h2 : a.cls = b.cls) : a = b := by cases a; cases b; cases h1; cases h2; rfl
theorem eqF_iff {a b : Fact} : eqF a b = true ↔ a = b := by
  unfold eqF
  rw [Bool.and_eq_true, beq_iff_eq, beqS_iff]
  exact ⟨fun h => fact_eq h.1 h.2, fun h => h ▸ ⟨rfl, rfl⟩⟩
theorem eqF_no {a b : Fact} : eqF a b = false ↔ a ≠ b := by
  cases h : eqF a b with
  | true => simp [eqF_iff.1 h]
  | false => simp; intro e; rw [eqF_iff.2 e] at h; cases h
def NearOK (f : Fact) : Prop := 0 ≤ f.kind ∧ f.kind ≤ 6 ∧ (f.kind = 3 ∨ f.kind = 5 ∨ f.cls = zS)
def rK (f : Fact) : Prop := 2 ≤ f.kind ∧ f.kind ≤ 6
def LeF (p : Prog) (a b : Fact) : Prop := a = b ∨ b = ⟨0, zS⟩ ∨ (rK a ∧ rK b ∧ (a.kind = 2 ∨ b.kind = 6 ∨ (a.kind = 3 ∧ b.kind = 3 ∧ upS p a.cls b.cls)))
theorem near_ok (p : Prog) (f : Fact) (k : Int) : NearOK (nearF p f k) := by
  have h := nearK_range f.kind
  refine ⟨h.1, h.2, ?_⟩
  unfold nearF
  simp only
  by_cases h1 : nearK f.kind = 3 ∨ nearK f.kind = 5
  · rcases h1 with h1 | h1
    · exact .inl h1
    · exact .inr (.inl h1)
  · rw [if_neg h1]; exact .inr (.inr rfl)
theorem LeF.refl (p : Prog) (a : Fact) : LeF p a a := .inl rfl
theorem rK0 : ¬ rK ⟨0, zS⟩ := fun h => by have := h.1; simp at this
theorem LeF.trans {p : Prog} (hs : SoundP p) {a b c : Fact} (h : LeF p a b) (k : LeF p b c) : LeF p a c := by
  rcases h with rfl | rfl | ⟨h1, h2, h3⟩
  · exact k
  · rcases k with rfl | rfl | ⟨k1, k2, k3⟩
    · exact .inr (.inl rfl)
    · exact .inr (.inl rfl)
    · exact absurd k1 rK0
  · rcases k with rfl | rfl | ⟨k1, k2, k3⟩
    · exact .inr (.inr ⟨h1, h2, h3⟩)
    · exact .inr (.inl rfl)
    · refine .inr (.inr ⟨h1, k2, ?_⟩)
      rcases h3 with h3 | h3 | ⟨h3, h4, h5⟩
      · exact .inl h3
      · rcases k3 with k3 | k3 | ⟨k3, _⟩
        · omega
        · exact .inr (.inl k3)
        · omega
      · rcases k3 with k3 | k3 | ⟨k3, k4, k5⟩
        · omega
        · exact .inr (.inl k3)
        · exact .inr (.inr ⟨h3, k4, upS_trans hs h5 k5⟩)
theorem LeF.anti {p : Prog} (hs : SoundP p) {a b : Fact} (ha : NearOK a) (hb : NearOK b) (h : LeF p a b) (k : LeF p b a) : a = b := by
  rcases h with rfl | rfl | ⟨h1, h2, h3⟩
  · rfl
  · rcases k with k | k | ⟨k1, _⟩
    · exact k.symm
    · exact k
    · exact absurd k1 rK0
  · rcases k with k | rfl | ⟨k1, k2, k3⟩
    · exact k.symm
    · exact absurd h1 rK0
    · obtain ⟨_, _, ha⟩ := ha
      obtain ⟨_, _, hb⟩ := hb
      have zz : a.kind = b.kind → a.kind ≠ 3 → a.kind ≠ 5 → a = b := fun e n3 n5 => by
        refine fact_eq e ?_
        rcases ha with ha | ha | ha
        · exact absurd ha n3
        · exact absurd ha n5
        · rcases hb with hb | hb | hb
          · exact absurd (e.trans hb) n3
          · exact absurd (e.trans hb) n5
          · rw [ha, hb]
      rcases h3 with h3 | h3 | ⟨h3, h4, h5⟩
      · rcases k3 with k3 | k3 | ⟨k3, k4, k5⟩
        · exact zz (by omega) (by omega) (by omega)
        · omega
        · omega
      · rcases k3 with k3 | k3 | ⟨k3, k4, k5⟩
        · omega
        · exact zz (by omega) (by omega) (by omega)
        · omega
      · rcases k3 with k3 | k3 | ⟨k3, k4, k5⟩
        · omega
        · omega
        · exact fact_eq (by omega) (upS_anti hs h5 k5)
structure Lub (p : Prog) (a b j : Fact) : Prop where
  ok : NearOK j
  l : LeF p a j
  r : LeF p b j
  u : ∀ c, NearOK c → LeF p a c → LeF p b c → LeF p j c
theorem rK_iff {a : Fact} : isRefK a.kind = true ↔ rK a := by simp [isRefK, rK]
theorem ok0 : NearOK ⟨0, zS⟩ := ⟨by simp, by simp, .inr (.inr rfl)⟩
theorem ok6 : NearOK ⟨6, zS⟩ := ⟨by simp, by simp, .inr (.inr rfl)⟩
theorem rK6 : rK ⟨6, zS⟩ := ⟨by simp, by simp⟩
theorem join_lub {p : Prog} (hs : SoundP p) {a b : Fact} (ha : NearOK a) (hb : NearOK b) : Lub p a b (joinBy (com p) a b) := by
  unfold joinBy
  cases he : eqF a b with
  | true => rw [eqF_iff.1 he]; exact ⟨hb, .refl .., .refl .., fun c _ h _ => h⟩
  | false =>
    have hne := eqF_no.1 he
    simp only [Bool.false_eq_true, if_false]
    by_cases hr : rK a ∧ rK b
    · obtain ⟨ra, rb⟩ := hr
      rw [rK_iff.2 ra, rK_iff.2 rb]
      simp only [Bool.not_true, Bool.or_self, Bool.false_eq_true, if_false]
      have na : a ≠ ⟨0, zS⟩ := fun e => rK0 (e ▸ ra)
      have nb : b ≠ ⟨0, zS⟩ := fun e => rK0 (e ▸ rb)
      by_cases h2 : a.kind = 2
      · rw [if_pos h2]; exact ⟨hb, .inr (.inr ⟨ra, rb, .inl h2⟩), .refl .., fun c _ _ h => h⟩
      · rw [if_neg h2]
        by_cases h3 : b.kind = 2
        · rw [if_pos h3]; exact ⟨ha, .refl .., .inr (.inr ⟨rb, ra, .inl h3⟩), fun c _ h _ => h⟩
        · rw [if_neg h3]
          have six : ∀ (c : Fact), LeF p a c → LeF p b c → (∀ w, a.kind = 3 → b.kind = 3 → upS p a.cls w → upS p b.cls w → False) → LeF p ⟨6, zS⟩ c := by
            intro c hac hbc hno
            have third : c.kind = 6 → rK c → LeF p ⟨6, zS⟩ c := fun h h' => .inr (.inr ⟨rK6, h', .inr (.inl h)⟩)
            rcases hac with rfl | rfl | ⟨p1, p2, p3⟩
            · rcases hbc with rfl | e | ⟨q1, q2, q3⟩
              · exact absurd rfl hne
              · exact absurd e na
              · rcases q3 with q3 | q3 | ⟨q3, q4, q5⟩
                · exact absurd q3 h3
                · exact third q3 q2
                · exact (hno _ q4 q3 (.inl rfl) q5).elim
            · exact .inr (.inl rfl)
            · rcases p3 with p3 | p3 | ⟨p3, p4, p5⟩
              · exact absurd p3 h2
              · exact third p3 p2
              · rcases hbc with rfl | e | ⟨q1, q2, q3⟩
                · exact (hno _ p3 p4 p5 (.inl rfl)).elim
                · exact .inr (.inl e)
                · rcases q3 with q3 | q3 | ⟨q3, q4, q5⟩
                  · exact absurd q3 h3
                  · exact third q3 q2
                  · exact (hno _ p3 q3 p5 q5).elim
          have a6 : LeF p a ⟨6, zS⟩ := .inr (.inr ⟨ra, rK6, .inr (.inl rfl)⟩)
          have b6 : LeF p b ⟨6, zS⟩ := .inr (.inr ⟨rb, rK6, .inr (.inl rfl)⟩)
          by_cases h4 : a.kind = 3 ∧ b.kind = 3
          · rw [if_pos h4]
            have hcl : a.cls ≠ b.cls := fun e => hne (fact_eq (by omega) e)
            rcases com_spec hs hcl with ⟨e, hno⟩ | ⟨e, u1, u2, u3⟩
            · rw [e, beqS_refl]
              exact ⟨ok6, a6, b6, fun c _ h k => six c h k fun w _ _ => hno w⟩
            · rw [beqS_no.2 e]
              simp only [Bool.false_eq_true, if_false]
              have rj : rK ⟨3, com p a.cls b.cls⟩ := ⟨by simp, by simp⟩
              refine ⟨⟨by simp, by simp, .inl rfl⟩, .inr (.inr ⟨ra, rj, .inr (.inr ⟨h4.1, rfl, u1⟩)⟩), .inr (.inr ⟨rb, rj, .inr (.inr ⟨h4.2, rfl, u2⟩)⟩), ?_⟩
              intro c hc hac hbc
              have third : ∀ w, upS p a.cls w → upS p b.cls w → c.kind = 3 → c.cls = w → LeF p ⟨3, com p a.cls b.cls⟩ c := fun w x y k e => .inr (.inr ⟨rj, ⟨by omega, by omega⟩, .inr (.inr ⟨rfl, k, e ▸ u3 w x y⟩)⟩)
              rcases hac with rfl | rfl | ⟨p1, p2, p3⟩
              · rcases hbc with rfl | e | ⟨q1, q2, q3⟩
                · exact absurd rfl hne
                · exact absurd e na
                · rcases q3 with q3 | q3 | ⟨q3, q4, q5⟩
                  · exact absurd q3 h3
                  · omega
                  · exact third _ (.inl rfl) q5 h4.1 rfl
              · exact .inr (.inl rfl)
              · rcases p3 with p3 | p3 | ⟨p3, p4, p5⟩
                · exact absurd p3 h2
                · exact .inr (.inr ⟨rj, p2, .inr (.inl p3)⟩)
                · rcases hbc with rfl | e | ⟨q1, q2, q3⟩
                  · exact third _ p5 (.inl rfl) p4 rfl
                  · exact .inr (.inl e)
                  · rcases q3 with q3 | q3 | ⟨q3, q4, q5⟩
                    · exact absurd q3 h3
                    · omega
                    · exact third _ p5 q5 p4 rfl
          · rw [if_neg h4]
            exact ⟨ok6, a6, b6, fun c _ h k => six c h k fun w x y _ _ => h4 ⟨x, y⟩⟩
    · have hb2 : (!isRefK a.kind || !isRefK b.kind) = true := by
        cases x : isRefK a.kind with
        | false => rfl
        | true =>
          cases y : isRefK b.kind with
          | false => rfl
          | true => exact absurd ⟨rK_iff.1 x, rK_iff.1 y⟩ hr
      rw [hb2]
      simp only [if_true]
      refine ⟨ok0, .inr (.inl rfl), .inr (.inl rfl), ?_⟩
      intro c hc hac hbc
      rcases hac with rfl | rfl | ⟨p1, p2, p3⟩
      · rcases hbc with rfl | e | ⟨q1, q2, q3⟩
        · exact absurd rfl hne
        · exact .inr (.inl e)
        · exact absurd ⟨q2, q1⟩ hr
      · exact .inr (.inl rfl)
      · rcases hbc with rfl | e | ⟨q1, q2, q3⟩
        · exact absurd ⟨p1, p2⟩ hr
        · exact .inr (.inl e)
        · exact absurd ⟨p1, q1⟩ hr

section
variable {p : Prog} (hs : SoundP p) {a b c : Fact} (ha : NearOK a) (hb : NearOK b) (hc : NearOK c)
include hs ha hb
theorem join_comm : joinBy (com p) a b = joinBy (com p) b a :=
  have h := join_lub hs ha hb
  have k := join_lub hs hb ha
  LeF.anti hs h.ok k.ok (h.u _ k.ok k.r k.l) (k.u _ h.ok h.r h.l)
theorem join_le : joinBy (com p) a b = b ↔ LeF p a b := by
  have h := join_lub hs ha hb
  refine ⟨fun e => e ▸ h.l, fun e => ?_⟩
  exact LeF.anti hs h.ok hb (h.u _ hb e (.refl ..)) h.r
include hc
theorem join_assoc : joinBy (com p) (joinBy (com p) a b) c = joinBy (com p) a (joinBy (com p) b c) := by
  have h1 := join_lub hs ha hb
  have h2 := join_lub hs hb hc
  have h3 := join_lub hs h1.ok hc
  have h4 := join_lub hs ha h2.ok
  refine LeF.anti hs h3.ok h4.ok ?_ ?_
  · exact h3.u _ h4.ok (h1.u _ h4.ok h4.l (h2.l.trans hs h4.r)) (h2.r.trans hs h4.r)
  · exact h4.u _ h3.ok (h1.l.trans hs h3.l) (h2.u _ h3.ok (h1.r.trans hs h3.l) h3.r)
end
theorem join_self (p : Prog) (a : Fact) : joinBy (com p) a a = a := by unfold joinBy; rw [eqF_refl]; rfl
theorem fits_le {p : Prog} (hs : SoundP p) {a b : Fact} {t : Ty} (ha : NearOK a) (hb : NearOK b) (h : LeF p a b) (k : fitsBy (subP p b.cls t.cls) b t = true) : fitsBy (subP p a.cls t.cls) a t = true := by
  rcases h with rfl | rfl | ⟨h1, h2, h3⟩
  · exact k
  · unfold fitsBy at k; simp at k
  · rcases h3 with h3 | h3 | ⟨h3, h4, h5⟩
    · unfold fitsBy at k ⊢
      by_cases e2 : t.kind = 2
      · rw [if_pos e2] at k; have := h2.1; simp at k; omega
      · rw [if_neg e2] at k ⊢
        by_cases e3 : t.kind = 3
        · rw [if_pos e3]; simp [h3]
        · rw [if_neg e3] at k ⊢
          by_cases e4 : t.kind = 4
          · rw [if_pos e4]; simp [h3]
          · rw [if_neg e4] at k ⊢
            by_cases e5 : t.kind = 5
            · rw [if_pos e5]; simp [h3]
            · rw [if_neg e5] at k; cases k
    · unfold fitsBy at k; simp [h3] at k
    · unfold fitsBy at k ⊢
      by_cases e2 : t.kind = 2
      · rw [if_pos e2] at k; simp [h4] at k
      · rw [if_neg e2] at k ⊢
        by_cases e3 : t.kind = 3
        · rw [if_pos e3] at k ⊢
          simp [h4] at k
          have k := subP_iff.1 k
          have : Anc p a.cls t.cls := by
            rcases h5 with h5 | ⟨_, h5⟩
            · rw [← h5]; exact k
            · exact (supers_anc hs h5).trans k
          simp [h3, subP_iff.2 this]
        · rw [if_neg e3] at k
          by_cases e4 : t.kind = 4
          · rw [if_pos e4] at k; simp [h4] at k
          · rw [if_neg e4] at k
            by_cases e5 : t.kind = 5
            · rw [if_pos e5] at k; simp [h4] at k
            · rw [if_neg e5] at k; cases k

theorem greatP_if {p : Prog} (h : greatP p = false) : ∀ c, c ∈ p.classes → c.ifaces.length ≤ 1000 := by
  intro c hc
  unfold greatP at h
  rw [Bool.or_eq_false_iff, List.any_eq_false] at h
  have := h.2 c hc
  unfold greatC greatC0 at this
  simp at this
  omega
section
variable {p : Prog} (hs : SoundP p) {a b c : Fact} (ha : NearOK a) (hb : NearOK b) (hc : NearOK c)
include hs ha hb
theorem law_sides : ((true && eqF (joinBy (com p) a b) (joinBy (com p) b a)) && eqF (joinBy (com p) a a) a) = true := by
  rw [join_comm hs ha hb, join_self, eqF_refl, eqF_refl]; rfl
theorem law_fits {t : Ty} : (true && ((!eqF (joinBy (com p) a b) b || !fitsBy (subP p b.cls t.cls) b t) || fitsBy (subP p a.cls t.cls) a t)) = true := by
  cases h : eqF (joinBy (com p) a b) b with
  | false => rfl
  | true =>
    cases k : fitsBy (subP p b.cls t.cls) b t with
    | false => rfl
    | true => rw [fits_le hs ha hb ((join_le hs ha hb).1 (eqF_iff.1 h)) k]; rfl
include hc
theorem law_order : (true && eqF (joinBy (com p) (joinBy (com p) a b) c) (joinBy (com p) a (joinBy (com p) b c))) = true := by
  rw [join_assoc hs ha hb hc, eqF_refl]; rfl
theorem law_least : (((true && eqF (joinBy (com p) a (joinBy (com p) a b)) (joinBy (com p) a b)) && eqF (joinBy (com p) b (joinBy (com p) a b)) (joinBy (com p) a b)) &&
    ((!eqF (joinBy (com p) a c) c || !eqF (joinBy (com p) b c) c) || eqF (joinBy (com p) (joinBy (com p) a b) c) c)) = true := by
  have h := join_lub hs ha hb
  rw [eqF_iff.2 ((join_le hs ha h.ok).2 h.l), eqF_iff.2 ((join_le hs hb h.ok).2 h.r)]
  cases h1 : eqF (joinBy (com p) a c) c with
  | false => rfl
  | true =>
    cases h2 : eqF (joinBy (com p) b c) c with
    | false => rfl
    | true => rw [eqF_iff.2 ((join_le hs h.ok hc).2 (h.u _ hc ((join_le hs ha hc).1 (eqF_iff.1 h1)) ((join_le hs hb hc).1 (eqF_iff.1 h2))))]; rfl
end
end Go.Sx
