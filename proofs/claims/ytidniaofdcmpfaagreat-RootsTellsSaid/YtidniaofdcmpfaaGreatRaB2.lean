/- YtidniaofdcmpfaaGreatRaB2: texts of this claim, one behind the other. -/
import Derived.Test.YtidniaofdcmpfaaGreatRaB1
set_option linter.unusedVariables false
set_option linter.unusedSimpArgs false
set_option linter.unusedSectionVars false
set_option linter.unnecessarySimpa false
namespace Go.Sx
open Go
section
variable {α : Type} [Inhabited α] [DecidableEq α] {lt : α → α → Bool}
def eqG (x y : α) : Bool := decide (x = y)
theorem eqG_iff {x y : α} : eqG x y = true ↔ x = y := by unfold eqG; simp
theorem Zed (x : α) : eqG x x = true := eqG_iff.2 rfl
def cptSG (l : List α) (n : Nat) : Bool := !eqG (l.getD n default) (l.getD (n - 1) default)
def cptNG (l : List α) (n : Nat) : List α := ((List.range n).filter fun k => Nat.beq k 0 || cptSG l k).map fun k => l.getD k default
theorem Z2m (l : List α) (n : Nat) : cptNG l (n + 1) = cptNG l n ++ (if Nat.beq n 0 || cptSG l n then [l.getD n default] else []) := by
 unfold cptNG
 rw [List.range_succ, List.filter_append, List.map_append]
 congr 1
 simp only [List.filter_cons, List.filter_nil]
 split <;> rfl
theorem Z24 {l : List α} : ∀ {n : Nat}, n ≤ l.length → (∀ k, 0 < k → k < n → cptSG l k = true) → cptNG l n = l.take n
 | 0, _, _ => rfl
 | n + 1, hn, h => by
  rw [Z2m, Z24 (by omega) (fun k h0 hk => h k h0 (by omega)), Z1a (show n < l.length by omega)]
  congr 1
  rw [if_pos]
  ·rw [Z50 (show n < l.length by omega)]
  ·cases n with
   | zero => rfl
   | succ n => rw [h (n + 1) (by omega) (by omega), Bool.or_true]
theorem Z4a {l : List α} : ∀ {n : Nat} {s : α}, n ≤ l.length → (s ∈ cptNG l n ↔ ∃ k, k < n ∧ l.getD k default = s)
 | 0, s, _ => ⟨fun h => by simp [cptNG] at h, fun ⟨k, h, _⟩ => by omega⟩
 | n + 1, s, hn => by
  rw [Z2m, List.mem_append, Z4a (n := n) (by omega)]
  constructor
  ·rintro (⟨k, h1, h2⟩ | h)
   ·exact ⟨k, by omega, h2⟩
   ·split at h
    ·rw [List.mem_singleton] at h; exact ⟨n, by omega, h.symm⟩
    ·cases h
  ·rintro ⟨k, h1, h2⟩
   by_cases hk : k < n
   ·exact .inl ⟨k, hk, h2⟩
   ·have : k = n := by omega
    subst this
    by_cases hb : (Nat.beq k 0 || cptSG l k) = true
    ·exact .inr (by rw [if_pos hb, List.mem_singleton]; exact h2.symm)
    ·rw [Bool.not_eq_true, Bool.or_eq_false_iff] at hb
     have h0 : k ≠ 0 := fun e => by subst e; cases hb.1
     have h3 : eqG (l.getD k default) (l.getD (k - 1) default) = true := by have := hb.2; unfold cptSG at this; cases h : eqG (l.getD k default) (l.getD (k - 1) default) with
      | true => rfl
      | false => rw [h] at this; cases this
     exact .inl ⟨k - 1, by omega, by rw [← h2]; exact (eqG_iff.1 h3).symm⟩
structure CptJG (l : List α) (k : Nat) (m : List α) (k2 j : Nat) : Prop where
 h1 : 1 ≤ j
 h2 : j ≤ l.length - k
 h3 : k ≤ k2
 h4 : k2 + 1 ≤ k + j
 hl : m.length = l.length
 ht : m.take k2 = cptNG l (k + j)
 ho : ∀ i, k2 ≤ i → m.getD i default = l.getD i default
theorem CptJG.start {l : List α} {k : Nat} (h0 : 1 ≤ k) (h1 : k < l.length) (h : ∀ i, 0 < i → i < k → cptSG l i = true) (he : eqG (l.getD k default) (l.getD (k - 1) default) = true) : CptJG l k l k 1 := by
 refine ⟨Nat.le_refl _, by omega, Nat.le_refl _, Nat.le_refl _, rfl, ?_, fun _ _ => rfl⟩
 rw [Z2m, if_neg, List.append_nil, Z24 (by omega) h]
 unfold cptSG
 rw [he]
 simp
 omega
theorem CptJG.keep {l m : List α} {k k2 j : Nat} (h : CptJG l k m k2 j) (hj : j < l.length - k) (he : eqG (m.getD (k + j) default) (m.getD (k + (j - 1)) default) = true) : CptJG l k m k2 (j + 1) := by
 have g1 := h.h1
 have g4 := h.h4
 refine ⟨by omega, by omega, h.h3, by omega, h.hl, ?_, h.ho⟩
 rw [h.ho _ (by omega), h.ho _ (by omega)] at he
 rw [show k + (j + 1) = (k + j) + 1 by omega, Z2m, if_neg, List.append_nil]
 ·exact h.ht
 ·unfold cptSG
  rw [show k + j - 1 = k + (j - 1) by omega, he]
  simp
  omega
theorem CptJG.put {l m : List α} {k k2 j : Nat} (h : CptJG l k m k2 j) (hj : j < l.length - k) (he : (!eqG (m.getD (k + j) default) (m.getD (k + (j - 1)) default)) = true) : CptJG l k (m.set k2 (m.getD (k + j) default)) (k2 + 1) (j + 1) := by
 have g1 := h.h1
 have g4 := h.h4
 have gl := h.hl
 have hx := h.ho (k + j) (by omega)
 have h0 := h.ho (k + (j - 1)) (by omega)
 refine ⟨by omega, by omega, by have := h.h3; omega, by omega, by rw [List.length_set]; exact gl, ?_, ?_⟩
 ·rw [hx, h0] at he
  rw [show k + (j + 1) = (k + j) + 1 by omega, Z2m, if_pos, ← h.ht]
  ·rw [Z1a (by rw [List.length_set]; omega), List.take_set_of_le (Nat.le_refl _), List.getElem_set_self, hx]
  ·unfold cptSG
   rw [show k + j - 1 = k + (j - 1) by omega, he, Bool.or_true]
 ·intro i hi
  rw [← h.ho i (by omega)]
  simp only [List.getD, List.getElem?_set]
  rw [if_neg (by omega)]
theorem CptJG.fin {l m : List α} {k k2 j : Nat} (h : CptJG l k m k2 j) (hk : k < l.length) (hj : ¬ j < l.length - k) : m.take k2 = cptNG l l.length ∧ k2 < l.length := by
 have g2 := h.h2
 have g4 := h.h4
 refine ⟨?_, by omega⟩
 rw [h.ht]
 congr 1
 omega
theorem Z2x (hO : LtT lt) {m l : List α} (hp : m.Perm l) (hs : SOn lt 0 m.length m) : cptNG m m.length = risG lt l := by
 have hmono : ∀ i j, i ≤ j → j < m.length → lt (m.getD j default) (m.getD i default) = false := fun i j h1 h2 => hs i j (Nat.zero_le _) h1 h2
 have hlt : ∀ n, n ≤ m.length → (cptNG m n).Pairwise (fun x y => lt x y = true) ∧ ∀ x, x ∈ cptNG m n → ∀ k, n ≤ k → k < m.length → lt (m.getD k default) x = false := by
  intro n
  induction n with
  | zero => intro _; exact ⟨by simp [cptNG], fun x hx => by simp [cptNG] at hx⟩
  | succ n ih =>
   intro hn
   obtain ⟨h1, h2⟩ := ih (by omega)
   have h3 : ∀ x, x ∈ cptNG m (n + 1) → ∀ k, n + 1 ≤ k → k < m.length → lt (m.getD k default) x = false := by
    intro x hx k hk hkl
    obtain ⟨i, hi, rfl⟩ := (Z4a (by omega)).1 hx
    exact hmono i k (by omega) hkl
   refine ⟨?_, h3⟩
   rw [Z2m]
   split
   ·rename_i hc
    rw [List.pairwise_append]
    refine ⟨h1, List.pairwise_singleton .., ?_⟩
    intro a ha b hb
    rw [List.mem_singleton] at hb
    subst hb
    obtain ⟨i, hi, rfl⟩ := (Z4a (by omega)).1 ha
    cases hlt : lt (m.getD i default) (m.getD n default) with
    | true => rfl
    | false =>
     exfalso
     have e1 := hO.tot _ _ hlt (hmono i n (by omega) (by omega))
     -- then the one ahead of it is the same, too
     have h0 : 0 < n := by omega
     have h4 : lt (m.getD (n - 1) default) (m.getD i default) = false := hmono i (n - 1) (by omega) (by omega)
     have h5 : lt (m.getD n default) (m.getD (n - 1) default) = false := hmono (n - 1) n (by omega) (by omega)
     have h6 : m.getD (n - 1) default = m.getD n default := by
      refine hO.tot _ _ ?_ h5
      rw [← e1]; exact h4
     have h7 : cptSG m n = true := by
      rcases Bool.or_eq_true_iff.1 hc with h | h
      ·have := Nat.eq_of_beq_eq_true h; omega
      ·exact h
     unfold cptSG at h7
     rw [h6, Zed] at h7; cases h7
   ·rw [List.append_nil]; exact h1
 obtain ⟨h1, _⟩ := hlt m.length (Nat.le_refl _)
 have hnd : (cptNG m m.length).Nodup := h1.imp (fun h e => by rw [e, hO.ok.irr] at h; cases h)
 have hmem : ∀ s, s ∈ cptNG m m.length ↔ s ∈ l := fun s => by
  rw [Z4a (Nat.le_refl _), ← hp.mem_iff, List.mem_iff_getElem]
  constructor
  ·rintro ⟨k, hk, rfl⟩; exact ⟨k, hk, (Z50 hk).symm⟩
  ·rintro ⟨k, hk, rfl⟩; exact ⟨k, hk, Z50 hk⟩
 refine Zg9 hO hnd ?_ hmem
 intro i j _ hij hj
 rcases Nat.lt_or_eq_of_le hij with h | h
 ·have h2 := List.pairwise_iff_getElem.1 h1 i j (by omega) hj h
  rw [Z50 hj, Z50 (by omega)]
  exact hO.ok.asy _ _ h2
 ·subst h; exact hO.ok.irr _
def mrgF (lt : α → α → Bool) : Nat → List α → List α → List α
 | 0, a, b => a ++ b
 | _ + 1, [], b => b
 | _ + 1, a, [] => a
 | f + 1, x :: a, y :: b => if lt x y then x :: mrgF lt f a (y :: b) else if lt y x then y :: mrgF lt f (x :: a) b else x :: mrgF lt f a b
def mrgG (lt : α → α → Bool) (a b : List α) : List α := mrgF lt (a.length + b.length) a b
theorem Z3j (f : Nat) (b : List α) : mrgF lt f [] b = b := by cases f <;> rfl
theorem Z5z (f : Nat) (a : List α) : mrgF lt f a [] = a := by cases f <;> cases a <;> simp [mrgF]
structure MrgJ (lt : α → α → Bool) (a b : List α) (o : List α) (i j : Nat) : Prop where
 h1 : i ≤ a.length
 h2 : j ≤ b.length
 h3 : o.length ≤ i + j
 e : o ++ mrgF lt (a.length - i + (b.length - j)) (a.drop i) (b.drop j) = mrgG lt a b
theorem MrgJ.start (a b : List α) : MrgJ lt a b [] 0 0 := ⟨Nat.zero_le _, Nat.zero_le _, Nat.zero_le _, rfl⟩
theorem Z3s {l : List α} {i : Nat} (h : i < l.length) : l.drop i = l.getD i default :: l.drop (i + 1) := by rw [Z50 h]; exact List.drop_eq_getElem_cons h
theorem Zej (hO : LtT lt) {f g : Nat} : ∀ {a b : List α}, a.length + b.length ≤ f → a.length + b.length ≤ g → mrgF lt f a b = mrgF lt g a b := by
 induction f generalizing g with
 | zero =>
  intro a b h1 h2
  have e1 : a = [] := by cases a with | nil => rfl | cons => simp at h1
  have e2 : b = [] := by cases b with | nil => rfl | cons => simp at h1
  subst e1; subst e2; rw [Z3j, Z3j]
 | succ f ih =>
  intro a b h1 h2
  cases a with
  | nil => rw [Z3j, Z3j]
  | cons x a =>
   cases b with
   | nil => rw [Z5z, Z5z]
   | cons y b =>
    cases g with
    | zero => simp at h2
    | succ g =>
     simp only [List.length_cons] at h1 h2
     unfold mrgF
     rw [ih (g := g) (a := a) (b := y :: b) (by simp only [List.length_cons]; omega) (by simp only [List.length_cons]; omega), ih (g := g) (a := x :: a) (b := b) (by simp only [List.length_cons]; omega) (by simp only [List.length_cons]; omega), ih (g := g) (a := a) (b := b) (by omega) (by omega)]
theorem Z91 (f : Nat) (x y : α) (a b : List α) : mrgF lt (f + 1) (x :: a) (y :: b) = if lt x y then x :: mrgF lt f a (y :: b) else if lt y x then y :: mrgF lt f (x :: a) b else x :: mrgF lt f a b := by rw [mrgF]
theorem MrgJ.lo (hO : LtT lt) {a b o : List α} {i j : Nat} (h : MrgJ lt a b o i j) (hi : i < a.length) (hj : j < b.length) (hlt : lt (a.getD i default) (b.getD j default) = true) : MrgJ lt a b (o ++ [a.getD i default]) (i + 1) j := by
 refine ⟨hi, h.h2, by have := h.h3; simp; omega, ?_⟩
 rw [← h.e, Z3s hi, Z3s hj, show a.length - i + (b.length - j) = (a.length - (i + 1) + (b.length - j)) + 1 by omega]
 rw [Z91, if_pos hlt, List.append_assoc]
 rfl
theorem MrgJ.hi (hO : LtT lt) {a b o : List α} {i j : Nat} (h : MrgJ lt a b o i j) (hi : i < a.length) (hj : j < b.length) (hlt : lt (a.getD i default) (b.getD j default) = false) (hgt : lt (b.getD j default) (a.getD i default) = true) : MrgJ lt a b (o ++ [b.getD j default]) i (j + 1) := by
 refine ⟨h.h1, hj, by have := h.h3; simp; omega, ?_⟩
 rw [← h.e, Z3s hi, Z3s hj, show a.length - i + (b.length - j) = (a.length - i + (b.length - (j + 1))) + 1 by omega]
 rw [Z91, if_neg (by rw [hlt]; simp), if_pos hgt, List.append_assoc]
 rfl
theorem MrgJ.eq (hO : LtT lt) {a b o : List α} {i j : Nat} (h : MrgJ lt a b o i j) (hi : i < a.length) (hj : j < b.length) (he : a.getD i default = b.getD j default) : MrgJ lt a b (o ++ [a.getD i default]) (i + 1) (j + 1) := by
 refine ⟨hi, hj, by have := h.h3; simp; omega, ?_⟩
 rw [← h.e, Z3s hi, Z3s hj, show a.length - i + (b.length - j) = (a.length - (i + 1) + (b.length - (j + 1)) + 1) + 1 by omega]
 rw [Z91, ← he, if_neg (by rw [hO.ok.irr]; simp), if_neg (by rw [hO.ok.irr]; simp), List.append_assoc]
 rw [Zej hO (f := a.length - (i + 1) + (b.length - (j + 1))) (g := a.length - (i + 1) + (b.length - (j + 1)) + 1) (by simp only [List.length_drop]; omega) (by simp only [List.length_drop]; omega)]
 rfl
theorem MrgJ.fin {a b o : List α} {i j : Nat} (h : MrgJ lt a b o i j) (he : ¬ (i < a.length ∧ j < b.length)) : o ++ a.drop i ++ b.drop j = mrgG lt a b := by
 rw [← h.e, List.append_assoc]
 congr 1
 by_cases hi : i < a.length
 ·rw [List.drop_of_length_le (l := b) (by omega), Z5z, List.append_nil]
 ·rw [List.drop_of_length_le (l := a) (by omega), Z3j, List.nil_append]
structure DelJ (f : α → Bool) (l m : List α) (i j : Nat) : Prop where
 h1 : i < j
 h2 : j ≤ l.length
 hl : m.length = l.length
 ht : m.take i = (l.take j).filter fun x => !f x
 ho : ∀ k, j ≤ k → m.getD k default = l.getD k default
theorem DelJ.start {f : α → Bool} {l : List α} {i : Nat} (hi : i < l.length) (h1 : ∀ k, k < i → f (l.getD k default) = false) (h2 : f (l.getD i default) = true) : DelJ f l l i (i + 1) := by
 refine ⟨by omega, hi, rfl, ?_, fun _ _ => rfl⟩
 rw [Z1a hi, List.filter_append, List.filter_cons, ← Z50 hi, h2]
 simp only [Bool.not_true, Bool.false_eq_true, if_false, List.filter_nil, List.append_nil]
 rw [List.filter_eq_self.2]
 intro x hx
 obtain ⟨k, hk, e⟩ := List.mem_iff_getElem.1 hx
 rw [List.length_take] at hk
 rw [List.getElem_take] at e
 rw [← e, ← Z50 (by omega), h1 k (by omega)]; rfl
theorem DelJ.drop {f : α → Bool} {l m : List α} {i j : Nat} (h : DelJ f l m i j) (hj : j < l.length) (hf : f (m.getD j default) = true) : DelJ f l m i (j + 1) := by
 rw [h.ho j (Nat.le_refl _)] at hf
 refine ⟨by have := h.h1; omega, hj, h.hl, ?_, fun k hk => h.ho k (by omega)⟩
 rw [Z1a hj, List.filter_append, List.filter_cons, ← Z50 hj, hf]
 simpa using h.ht
theorem DelJ.put {f : α → Bool} {l m : List α} {i j : Nat} (h : DelJ f l m i j) (hj : j < l.length) (hf : f (m.getD j default) = false) : DelJ f l (m.set i (m.getD j default)) (i + 1) (j + 1) := by
 have h1 := h.h1
 have hl := h.hl
 have e := h.ho j (Nat.le_refl _)
 refine ⟨by omega, hj, by rw [List.length_set]; exact hl, ?_, fun k hk => ?_⟩
 ·rw [Z1a hj, List.filter_append, List.filter_cons, ← Z50 hj, ← e, hf, ← h.ht]
  rw [Z1a (by rw [List.length_set]; omega), List.take_set_of_le (Nat.le_refl _), List.getElem_set_self]
  rfl
 ·rw [← h.ho k (by omega)]
  simp only [List.getD, List.getElem?_set]
  rw [if_neg (by omega)]
theorem DelJ.fin {f : α → Bool} {l m : List α} {i j : Nat} (h : DelJ f l m i j) (hj : ¬ j < l.length) : m.take i = l.filter fun x => !f x := by
 rw [h.ht, List.take_of_length_le (by omega)]
end
end Go.Sx
namespace Go.Sx
open Go
structure Rule where
 names : Bool
 member : Bool
 cls : Str
 name : Str
 desc : Str
 deriving DecidableEq
structure Roots where
 classes : List Str
 fields : List FRef
 methods : List MRef
 classNames : List Str
 fieldNames : List Str
 methodNames : List Str
 lookups : List Str
 deriving DecidableEq
instance : Inhabited Rule := ⟨⟨false, false, zS, zS, zS⟩⟩
def Rule.cells (r : Rule) : List AV := [bA r.names, bA r.member, sA r.cls, sA r.name, sA r.desc]
def Rule.av (r : Rule) : AV := .agg r.cells
def Roots.cells (r : Roots) : List AV := [row1 sA r.classes, .lst (r.fields.map FRef.cells), .lst (r.methods.map MRef.cells), row1 sA r.classNames, row1 sA r.fieldNames, row1 sA r.methodNames, row1 sA r.lookups]
def Roots.av (r : Roots) : AV := .agg r.cells
def FRef.av' (f : FRef) : AV := .agg f.cells
structure Rule.ok (r : Rule) : Prop where
 cls : small r.cls.size
 name : small r.name.size
 desc : small r.desc.size
theorem dec_Rule {P : Program} {t b s : TypeId} (h : fts P t = some [b, b, s, s, s]) (hb : P.underlying b = some .bool) (hs : P.underlying s = some .string) : Dec P t Rule.cells Rule.ok := by
 intro xs hx
 obtain ⟨x0, ys, rfl, g0, h1⟩ := Z0x (Z32 hb) (Z2i h hx)
 obtain ⟨x1, ys, rfl, g1, h1⟩ := Z0x (Z32 hb) h1
 obtain ⟨x2, ys, rfl, g2, h1⟩ := Z0x (Z1t hs) h1
 obtain ⟨x3, ys, rfl, g3, h1⟩ := Z0x (Z1t hs) h1
 obtain ⟨x4, ys, rfl, g4, h1⟩ := Z0x (Z1t hs) h1
 rw [Z4z h1]
 exact ⟨⟨x0, x1, x2, x3, x4⟩, rfl, ⟨g2, g3, g4⟩⟩
def seenG (p : Str) (i : Nat) : Bool := decide (32 < byteAt p (i : Nat)) && decide (byteAt p (i : Nat) ≤ 126)
def globR (p : Str) : Bool := ((List.range p.size).all (seenG p)) && (!beqS p zS && decide (p.size ≤ 64))
def ruleR (r : Rule) : Bool := globR r.cls && (if r.member then globR r.name && globR r.desc else beqS r.name zS && beqS r.desc zS)
def clsR (r : Rule) (c : Str) : Bool := (!r.member && ruleR r) && globM r.cls c
def nInit' : Str := ⟨#[60, 99, 108, 105, 110, 105, 116, 62]⟩
def memR (r : Rule) (c n d : Str) : Bool := ((r.member && ruleR r) && !beqS n nInit') && ((globM r.cls c && globM r.name n) && globM r.desc d)
def anyR (l : List Rule) (f : Rule → Bool) : Bool := l.any f
def nmsR (l : List Rule) (f : Rule → Bool) : Bool := l.any fun r => f r && r.names
structure Ga where
 cl : List Str
 fd : List FRef
 md : List MRef
 cn : List Str
 fn : List Str
 mn : List Str
 lk : List Str
def Ga.nil : Ga := ⟨[], [], [], [], [], [], []⟩
def Ga.app (a b : Ga) : Ga := ⟨a.cl ++ b.cl, a.fd ++ b.fd, a.md ++ b.md, a.cn ++ b.cn, a.fn ++ b.fn, a.mn ++ b.mn, a.lk ++ b.lk⟩
theorem Ga.app_nil (a : Ga) : a.app .nil = a := by unfold Ga.app Ga.nil; simp
theorem Ga.nil_app (a : Ga) : Ga.nil.app a = a := by unfold Ga.app Ga.nil; simp
theorem Ga.app_assoc (a b c : Ga) : (a.app b).app c = a.app (b.app c) := by unfold Ga.app; simp
def Ga.sum (l : List Ga) : Ga := l.foldr Ga.app .nil
theorem Ga.sum_cons (a : Ga) (l : List Ga) : Ga.sum (a :: l) = a.app (Ga.sum l) := rfl
theorem Ga.sum_append (a b : List Ga) : Ga.sum (a ++ b) = (Ga.sum a).app (Ga.sum b) := by
 induction a with
 | nil => exact (Ga.nil_app _).symm
 | cons x a ih => rw [List.cons_append, Ga.sum_cons, ih, Ga.sum_cons, Ga.app_assoc]
theorem Ga.sum_take {α : Type} [Inhabited α] {l : List α} {f : α → Ga} {i : Nat} (h : i < l.length) (g : Ga) : g.app (Ga.sum ((l.take (i + 1)).map f)) = (g.app (Ga.sum ((l.take i).map f))).app (f l[i]) := by
 rw [Z1a h, List.map_append, Ga.sum_append, Ga.app_assoc]
 congr 1
 congr 1
 simp only [List.map_cons, List.map_nil, Ga.sum_cons]
 exact Ga.app_nil _
def okB {α : Type} (b : Bool) (x : α) : List α := if b then [x] else []
section
variable (txt : Ty → Str) (p : Prog) (l : List Rule)
def fHold (ref : FRef) (r : Rule) : Bool := (fldP p ref).isSome && memR r ref.cls ((fldP p ref).getD zFl).name (txt ((fldP p ref).getD zFl).type)
def mHold (ref : MRef) (r : Rule) : Bool := (getP p ref).isSome && memR r ref.cls ref.name ref.desc
def nAsk : Str := ⟨#[40, 41, 73]⟩
def nDot : Str := ⟨#[46]⟩
def gaF (ref : FRef) : Ga := ⟨okB (anyR l (fHold txt p ref)) ref.cls, okB (anyR l (fHold txt p ref)) ref, [], [], okB (nmsR l (fHold txt p ref)) ((fldP p ref).getD zFl).name, [], []⟩
def gaM (ref : MRef) : Ga := ⟨okB (anyR l (mHold p ref)) ref.cls, [], okB (anyR l (mHold p ref)) ref, [], [], okB (nmsR l (mHold p ref)) (ref.name ++ ref.desc), okB (anyR l (mHold p ref) && (((getP p ref).getD zMt).static && beqS ref.desc nAsk)) ((ref.cls ++ nDot) ++ ref.name)⟩
def gaK (c : Cls) : Ga := ⟨okB (anyR l (clsR · c.name)) c.name, [], [], okB (nmsR l (clsR · c.name)) c.name, [], [], []⟩
def gaFs (c : Cls) : List Ga := c.fields.map fun f => gaF txt p l ⟨c.name, f.name⟩
def gaMs (c : Cls) : List Ga := c.methods.map fun m => gaM p l ⟨c.name, m.name, m.desc⟩
def gaC (c : Cls) : Ga := ((gaK l c).app (Ga.sum (gaFs txt p l c))).app (Ga.sum (gaMs p l c))
def gaP : Ga := Ga.sum (p.classes.map (gaC txt p l))
end
abbrev tLt : Str → Str → Bool := ltC cmpT
def cmpF (a b : FRef) : Int := orI (cmpT a.cls b.cls) (cmpT a.name b.name)
abbrev fLt : FRef → FRef → Bool := ltC cmpF
abbrev mLt : MRef → MRef → Bool := ltC cmpR
theorem cmpF_pre : PreC cmpF := (cmpT_pre.on FRef.cls).or (cmpT_pre.on FRef.name)
theorem Zfw {a b : FRef} (h : cmpF a b = 0) : a = b := by
 obtain ⟨h1, h2⟩ := Zcn h
 cases a; cases b
 simp only [FRef.mk.injEq]
 exact ⟨Z4o h1, Z4o h2⟩
theorem tLtT : LtT tLt := cmpT_pre.ltT fun _ _ => Z4o
theorem fLtT : LtT fLt := cmpF_pre.ltT fun _ _ => Zfw
theorem mLtT : LtT mLt := cmpR_pre.ltT fun _ _ => Zfx
def rootsG (g : Ga) : Roots := ⟨risG tLt g.cl, risG fLt g.fd, risG mLt g.md, risG tLt g.cn, risG tLt g.fn, risG tLt g.mn, risG tLt (g.lk ++ g.cl)⟩
structure Ga.le (a b : Ga) : Prop where
 cl : ∀ x, x ∈ a.cl → x ∈ b.cl
 fd : ∀ x, x ∈ a.fd → x ∈ b.fd
 md : ∀ x, x ∈ a.md → x ∈ b.md
 cn : ∀ x, x ∈ a.cn → x ∈ b.cn
 fn : ∀ x, x ∈ a.fn → x ∈ b.fn
 mn : ∀ x, x ∈ a.mn → x ∈ b.mn
 lk : ∀ x, x ∈ a.lk → x ∈ b.lk
def withinR (a b : Roots) : Bool := (a.fields.all (hasG b.fields) && a.methods.all (hasG b.methods)) && ((((a.classes.all (hasG b.classes) && a.classNames.all (hasG b.classNames)) && a.fieldNames.all (hasG b.fieldNames)) && a.methodNames.all (hasG b.methodNames)) && a.lookups.all (hasG b.lookups))
end Go.Sx
namespace Go.Sx
open Go Go.Proofs
theorem Zdh (x y : Str) : ACalls Tryz.prog 95 [sA x, sA y] [] (Gives (iA (cmpT x y))) := by
 refine Zd (n := 8) Tryz.func95 rfl (by decide +kernel) rfl rfl ?_
 refine qS (qR (qA (qN (qS (qR (qM (qM ?_)))))))
 refine qe (Zeb rfl Tryz.func126 rfl rfl rfl rfl rfl rfl) ?_
 refine qA (qN (qE ?_))
 exact Z0p rfl (Z7 rfl Z4) (gi rfl)
theorem Z25 (x y : Str) : ACalls Tryz.prog 52 [sA x, sA y] [] (Gives (iA (cmpT x y))) := by
 refine Zd (n := 8) Tryz.func52 rfl (by decide +kernel) rfl rfl ?_
 refine qS (qR (qA (qN (qS (qR (qM (qM ?_)))))))
 refine qe (Z8 [] rfl rfl rfl (Zdh _ _) List.nodup_nil) ?_
 refine qA (qN (qE ?_))
 exact Z0p rfl (Z7 rfl Z4) (gi rfl)
theorem Zhf (l : List Int) (hl : small l.length) : ACalls Tryz.prog 99 [row1 iA l] [] (Gives (iA (orL l))) := by
 simp only [small] at hl
 unfold row1
 refine Zd (n := 18) Tryz.func99 rfl (by decide +kernel) rfl rfl ?_
 refine qS (qR (qA (qN (qS (qR (qA (qN (qS (qS (qR (qM ?_)))))))))))
 refine qe (Zx rfl rfl rfl rfl) ?_
 refine qM (qN (qB ?_))
 refine Zj (α := Nat) (fun i => ⟨[(8, iA i), (6, .lst (l.map fun x => [iA x])), (7, iA l.length), (3, iA 0)], [], [], 18⟩) (fun i => i ≤ l.length ∧ orL (l.drop i) = orL l) (fun i => l.length - i) 0 ⟨Nat.zero_le _, rfl⟩ ?_ ?_
 ·exact Zb [] ⟨rfl, rfl, (by show some (iA _) = some (iA _); simp), rfl, trivial⟩ rfl (by decide) rfl rfl
 rintro i hJ
 refine qS (qR ?_)
 refine qe eI ?_
 refine qN (qS ?_)
 refine Z2 rfl ?_ ?_
 ·intro hc
  have hi : i < l.length := by simpa using hc
  refine qK (qS (qB (qS (qR ?_))))
  refine qe (Z6 rfl rfl rfl (Z04 (fun _ => rfl)) (by first | omega | (simp only [List.length_map]; omega) | (simp only [List.length_map, List.length_drop]; omega)) (by first | omega | (simp only [List.length_map]; omega) | (simp only [List.length_map, List.length_drop]; omega))) ?_
  refine qe (Zu rfl rfl (Z0a (by first | assumption | omega | (simp only [List.length_drop]; omega))) Z3) ?_
  refine qA (qN (qS (qR (qM (qM ?_)))))
  refine qe eI ?_
  refine qN ?_
  refine Z2 rfl ?_ ?_
  ·intro hc
   have hq : l.getD i default ≠ 0 := by simpa [List.getD, hi] using hc
   refine qS (qR (qM (qA (qN (qE ?_)))))
   exact Z0p rfl (Z7 rfl Z4) (gi (by rw [← hJ.2, Za0 hi, orI, if_neg hq]; simp [List.getD, hi]))
  ·intro hc
   have hq : l.getD i default = 0 := by simpa [List.getD, hi] using hc
   refine qK (qR ?_)
   refine qe (Z9 rfl rfl rfl (Zn (by first | omega | (simp only [List.length_map]; omega)))) ?_
   refine qM (qN ?_)
   refine ⟨i + 1, ⟨hi, by rw [← hJ.2, Za0 hi, hq, orI, if_pos rfl]⟩, (by omega), ?_⟩
   exact qp [] ⟨rfl, rfl, rfl, rfl, trivial⟩
 ·intro hc
  have hi : ¬ i < l.length := by simpa using hc
  refine qX (qS (qR (qM (qA (qN (qE ?_))))))
  exact Z0p rfl (Z7 rfl Z4) (gi (by rw [← hJ.2, Z1m hi]; rfl))
theorem Z0q (a b : MRef) : ACalls Tryz.prog 56 [a.av, b.av] [] (Gives (iA (cmpR a b))) := by
 refine Zd (n := 22) Tryz.func56 rfl (by decide +kernel) rfl rfl ?_
 refine qS (qR ?_)
 refine Zy (w0 rfl) rfl (fun id => Z09 id rfl rfl rfl rfl rfl) (fun id1 => ?_)
 refine Zy (w0 rfl) rfl (fun id => Z09 id rfl rfl rfl rfl rfl) (fun id2 => ?_)
 refine qA (qN (qS ?_))
 refine Zz [0, 1, 0, 4, 15, 0, 32, 0, 128, 511, 0, 1024, 0, 4096, 16383, 32767, 65535, 131071] 18 rfl (by kernel_rfl) ?_
 refine ce (Z0 rfl rfl rfl) ?_
 refine Za 1 (w0 rfl) rfl rfl rfl rfl rfl Z3 ?_
 refine ce (Z0 rfl rfl rfl) ?_
 refine Za 0 (w0 rfl) rfl rfl rfl rfl rfl Z3 ?_
 refine ce (Z8 [] rfl rfl rfl (Z25 _ _) List.nodup_nil) ?_
 refine ce (Z0 rfl rfl rfl) ?_
 refine Za 1 (w0 rfl) rfl rfl rfl rfl rfl Z3 ?_
 refine ce (Z0 rfl rfl rfl) ?_
 refine Za 0 (w0 rfl) rfl rfl rfl rfl rfl Z3 ?_
 refine ce (Z8 [] rfl rfl rfl (Z25 _ _) List.nodup_nil) ?_
 refine ce (Z0 rfl rfl rfl) ?_
 refine Za 1 (w0 rfl) rfl rfl rfl rfl rfl Z3 ?_
 refine ce (Z0 rfl rfl rfl) ?_
 refine Za 0 (w0 rfl) rfl rfl rfl rfl rfl Z3 ?_
 refine ce (Z8 [] rfl rfl rfl (Z25 _ _) List.nodup_nil) ?_
 refine ce (Z22 (es := [[iA (cmpT a.cls b.cls)], [iA (cmpT a.name b.name)], [iA (cmpT a.desc b.desc)]]) (fun id => Zo id (ps := [(0, .tmp 9), (1, .tmp 14), (2, .tmp 19)]) rfl rfl rfl rfl rfl rfl rfl rfl) rfl) ?_
 refine ce (Z8 [] rfl rfl rfl (Zhf [(cmpT a.cls b.cls), (cmpT a.name b.name), (cmpT a.desc b.desc)] (by unfold small; simp)) List.nodup_nil) ?_
 refine ce (Z0y rfl rfl) ?_
 refine .done (qN (qE ?_))
 exact Z0p rfl (Z7 rfl Z4) (gi (by simp only [orL, Zgq]; rfl))
theorem Z0z (a b : FRef) : ACalls Tryz.prog 54 [a.av, b.av] [] (Gives (iA (cmpF a b))) := by
 refine Zd (n := 17) Tryz.func54 rfl (by decide +kernel) rfl rfl ?_
 refine qS (qR ?_)
 refine Zy (w0 rfl) rfl (fun id => Z09 id rfl rfl rfl rfl rfl) (fun id1 => ?_)
 refine Zy (w0 rfl) rfl (fun id => Z09 id rfl rfl rfl rfl rfl) (fun id2 => ?_)
 refine qA (qN (qS ?_))
 refine Zz [0, 1, 0, 4, 15, 0, 32, 0, 128, 511, 1023, 2047, 4095] 13 rfl (by kernel_rfl) ?_
 refine ce (Z0 rfl rfl rfl) ?_
 refine Za 1 (w0 rfl) rfl rfl rfl rfl rfl Z3 ?_
 refine ce (Z0 rfl rfl rfl) ?_
 refine Za 0 (w0 rfl) rfl rfl rfl rfl rfl Z3 ?_
 refine ce (Z8 [] rfl rfl rfl (Z25 _ _) List.nodup_nil) ?_
 refine ce (Z0 rfl rfl rfl) ?_
 refine Za 1 (w0 rfl) rfl rfl rfl rfl rfl Z3 ?_
 refine ce (Z0 rfl rfl rfl) ?_
 refine Za 0 (w0 rfl) rfl rfl rfl rfl rfl Z3 ?_
 refine ce (Z8 [] rfl rfl rfl (Z25 _ _) List.nodup_nil) ?_
 refine ce (Z22 (es := [[iA (cmpT a.cls b.cls)], [iA (cmpT a.name b.name)]]) (fun id => Zo id (ps := [(0, .tmp 9), (1, .tmp 14)]) rfl rfl rfl rfl rfl rfl rfl rfl) rfl) ?_
 refine ce (Z8 [] rfl rfl rfl (Zhf [(cmpT a.cls b.cls), (cmpT a.name b.name)] (by unfold small; simp)) List.nodup_nil) ?_
 refine ce (Z0y rfl rfl) ?_
 refine .done (qN (qE ?_))
 exact Z0p rfl (Z7 rfl Z4) (gi (by simp only [orL, Zgq]; rfl))
end Go.Sx
namespace Go.Sx
open Go
section
variable {P : Program} {ro : Option Nat} {Q : Exit → St → Prop} {s : St} {ops : Array Oper} {o : Oper} {rest : List Oper} {H0 : AHeap} {K : St → Prop} {k : Nat} {M : List (Nat × (Nat × AObj))} {ws rs : List Nat} {p : Operand} {x : AV}
theorem aM (hg : o.guard = none) (hd : dok o.dst s.n = true) (ho : o.op = .move p) (hp : ev s.T p = some x) (h : AOps P ro ops rest Q { s with T := put s.T o.dst x }) : AOps P ro ops (o :: rest) Q s := Z1j (w0 hg) hd (Z06 ho hp) h
theorem aA (hg : o.guard = none) (hd : dok o.dst s.n = true) (ho : o.op = .assign p) (hp : ev s.T p = some x) (h : AOps P ro ops rest Q { s with T := put s.T o.dst x }) : AOps P ro ops (o :: rest) Q s := Z1j (w0 hg) hd (Z0y ho hp) h
theorem cM (hg : o.guard = none) (hd : dok o.dst s.n = true) (ho : o.op = .move p) (hp : ev s.T p = some x) (h : Calm P ops H0 K (k + 1) rest M { s with T := put s.T o.dst x }) : Calm P ops H0 K k (o :: rest) M s := Z9n (w0 hg) hd (Z06 ho hp) h
theorem wM (hg : o.guard = none) (hd : dok o.dst s.n = true) (ho : o.op = .move p) (hp : ev s.T p = some x) (hk : ws.contains k = false) (h : WCalm P ops H0 ws rs K (k + 1) rest { s with T := put s.T o.dst x }) : WCalm P ops H0 ws rs K k (o :: rest) s := Z98 (w0 hg) hd (Z06 ho hp) hk h
end
end Go.Sx
namespace Go.Sx
open Go Go.Proofs
theorem Zai (q n : Nat) (l : List Str) (hn : l.length = n) (hN : n ≤ 140737488355328) (a b : Nat) (ha : a ≤ b) (hb : b ≤ n) : ACalls Tryz.prog 140 [.own q 1 0 n, iA a, iA b, .fn (.func 52) []] [(q, .rows 9 1 (l.map fun x => [sA x]))] (GP (fun _ : List Str => mkRes []) (fun m => [(q, .rows 9 1 (m.map fun x => [sA x]))]) (fun m => Sw a b l m ∧ SAdj tLt a b m)) := by
 refine Zd (n := 53) Tryz.func140 rfl (by decide +kernel) rfl rfl ?_
 refine qS (qR (qM ?_))
 refine qe eP ?_
 refine qA (qN (qB ?_))
 refine Zj (α := List Str × Nat) (fun x => ⟨[(8, iA x.2), (0, .own q 1 0 n), (1, iA a), (2, iA b), (3, .fn (.func 52) [])], [(q, .rows 9 1 (x.1.map fun x => [sA x]))], [], 53⟩) (fun x => Sw a b l x.1 ∧ a + 1 ≤ x.2 ∧ SAdj tLt a x.2 x.1) (fun x => b - x.2) (l, a + 1) ⟨.refl, Nat.le_refl _, SAdj.refl1 (Nat.le_refl _)⟩ ?_ ?_
 ·exact Zb [0] ⟨rfl, rfl, rfl, rfl, rfl, trivial⟩ rfl (by decide) rfl rfl
 rintro x hJ
 have hm := hJ.1.len
 refine qS (qS (qR (qM (qM ?_))))
 refine qe eI ?_
 refine qN ?_
 refine Z2 rfl ?_ ?_
 ·intro hc
  have hx : x.2 < b := by simpa using hc
  refine qK (qS (qB (qS (qR (qM (qA (qN (qB ?_))))))))
  refine Zj (α := List Str × Nat) (fun z => ⟨[(9, iA z.2), (8, iA x.2), (0, .own q 1 0 n), (1, iA a), (2, iA b), (3, .fn (.func 52) [])], [(q, .rows 9 1 (z.1.map fun x => [sA x]))], [], 53⟩) (fun z => Sw a b l z.1 ∧ a ≤ z.2 ∧ z.2 ≤ x.2 ∧ Ins tLt a z.2 x.2 z.1) (fun z => z.2) (x.1, x.2) ⟨hJ.1, (by (try simp only) <;> omega), Nat.le_refl _, Ins.start hJ.2.2⟩ ?_ ?_
  ·exact Zb [0] ⟨rfl, rfl, rfl, rfl, rfl, rfl, trivial⟩ rfl (by decide) rfl rfl
  rintro z hJ2
  have hm2 := hJ2.1.len
  refine qS (qS ?_)
  refine Zz [0, 0, 3, 7, 15, 15, 15, 111, 239, 15, 15, 1039, 3599, 7695, 16383, 32767, 65535] 17 rfl (by kernel_rfl) ?_
  refine cM2 (cM2 ?_)
  refine ce eI ?_
  refine cM2 (cTM (cTM (cTM ?_)))
  refine Zc (wT rfl rfl rfl rfl) rfl (fun hg => (Z1 z.2 rfl (Ze hg rfl) (Ze hg rfl) (by (try simp at hg) <;> omega) (by (try simp at hg) <;> omega) (by omega))) ?_
  refine Z0d 0 (wT rfl rfl rfl rfl) rfl rfl (fun hg => (Ze hg rfl)) rfl (fun hg => by (try simp at hg) <;> omega) (fun _ => Z3) ?_
  refine cTM (cTM ?_)
  refine Zc (wT rfl rfl rfl rfl) rfl (fun hg => (Z9 rfl (Ze hg rfl) rfl (Z0c (by omega)))) ?_
  refine Zc (wT rfl rfl rfl rfl) rfl (fun hg => (Z1 (z.2 - 1) rfl (Ze hg rfl) (Ze hg rfl) (by (try simp at hg) <;> omega) (by (try simp at hg) <;> omega) (by omega))) ?_
  refine Z0d 0 (wT rfl rfl rfl rfl) rfl rfl (fun hg => (Ze hg rfl)) rfl (fun hg => by (try simp at hg) <;> omega) (fun _ => Z3) ?_
  refine Zc (wT rfl rfl rfl rfl) rfl (fun hg => (Z8 [] rfl (Ze hg rfl) (Zg (Ze hg rfl) (Zg (Ze hg rfl) Z05)) (Z25 _ _) List.nodup_nil)) ?_
  refine Zc (wT rfl rfl rfl rfl) rfl (fun hg => (Zr rfl (Ze hg rfl) rfl rfl)) ?_
  refine ce (Zs rfl rfl rfl (fun h => h)) ?_
  refine .done (qN ?_)
  refine Z2 rfl ?_ ?_
  ·intro hc
   have hk : a < z.2 := by have := Z27 hc; simpa using this
   have hlt : tLt (z.1.getD z.2 default) (z.1.getD (z.2 - 1) default) = true := Z28 hc
   refine qK (qS (qB ?_))
   refine Z08 [0, 0, 0, 0, 8, 0, 0, 64, 224, 480, 0, 0, 3072, 7168, 16355, 32739, 65535, 131071] [15, 17] [9, 13] rfl (by kernel_rfl) ?_
   refine wM2 (wM2 (wM2 (wM2 ?_)))
   refine we eL ?_
   refine wM2 (wM2 ?_)
   refine we eL ?_
   refine we (eO (z.2 - 1)) ?_
   refine wLs 0 ?_
   refine wM2 (wM2 ?_)
   refine we (Z1 z.2 rfl rfl rfl (by omega) (by omega) (by omega)) ?_
   refine wLs 0 ?_
   refine we (Z1 z.2 rfl rfl rfl (by omega) (by omega) (by omega)) ?_
   refine Z07 0 rfl (w0 rfl) rfl rfl rfl rfl (by first | omega | (simp; omega)) rfl rfl ?_
   refine we (eO (z.2 - 1)) ?_
   refine Z07 0 rfl (w0 rfl) rfl rfl rfl rfl (by first | omega | (simp; omega)) rfl rfl ?_
   refine .done (qR (qM ?_))
   refine qe eL ?_
   refine qA (qN ?_)
   refine ⟨(swp z.1 z.2 (z.2 - 1), z.2 - 1), ⟨.step _ _ hJ2.1 (by (try simp only) <;> omega) (by (try simp only) <;> omega) (by (try simp only) <;> omega), (by (try simp only) <;> omega), (by (try simp only) <;> omega), hJ2.2.2.2.step tLtT.ok hk (by (try simp only) <;> omega) (by (try simp only) <;> omega) hlt⟩, (by (try simp only) <;> omega), ?_⟩
   exact qp [0] ⟨(congrArg (fun n => some (iA n)) (by (try simp only) <;> omega)), rfl, rfl, rfl, rfl, rfl, trivial⟩
  ·intro hc
   have hst : z.2 ≤ a ∨ tLt (z.1.getD z.2 default) (z.1.getD (z.2 - 1) default) = false := by rcases Bool.and_eq_false_iff.1 hc with h | h; exact .inl (by simpa using h); exact .inr h
   have hdn := hJ2.2.2.2.done hst
   refine qX (qR (qM ?_))
   refine qe eP ?_
   refine qA (qN ?_)
   refine ⟨(z.1, x.2 + 1), ⟨hJ2.1, (by (try simp only) <;> omega), hdn⟩, (by (try simp only) <;> omega), ?_⟩
   exact qp [0] ⟨rfl, rfl, rfl, rfl, rfl, trivial⟩
 ·intro hc
  have hx : ¬ x.2 < b := by simpa using hc
  refine qX ?_
  exact Zf rfl Z4 (.cons_cons _ .slnil) (gp x.1 ⟨hJ.1, fun k h1 h2 => hJ.2.2 k h1 (by omega)⟩ rfl rfl)
theorem Zbu (q n : Nat) (l : List Str) (hn : l.length = n) (hN : n ≤ 140737488355328) (lo hi f : Nat) (hf : f + hi ≤ n) (hlo : lo ≤ n) (hh : Heap tLt (lo + 1) hi f l) : ACalls Tryz.prog 176 [.own q 1 0 n, iA lo, iA hi, iA f, .fn (.func 52) []] [(q, .rows 9 1 (l.map fun x => [sA x]))] (GP (fun _ : List Str => mkRes []) (fun m => [(q, .rows 9 1 (m.map fun x => [sA x]))]) (fun m => Sw f (f + hi) l m ∧ Heap tLt lo hi f m)) := by
 refine Zd (n := 82) Tryz.func176 rfl (by decide +kernel) rfl rfl ?_
 refine qS (qR (qM (qA (qN (qB ?_)))))
 refine Zj (α := List Str × Nat) (fun z => ⟨[(10, iA z.2), (0, .own q 1 0 n), (2, iA hi), (3, iA f), (4, .fn (.func 52) [])], [(q, .rows 9 1 (z.1.map fun x => [sA x]))], [], 82⟩) (fun z => Sw f (f + hi) l z.1 ∧ lo ≤ z.2 ∧ (z.2 < hi ∨ z.2 = lo) ∧ Sift tLt lo hi f z.2 z.1) (fun z => hi - z.2) (l, lo) ⟨.refl, Nat.le_refl _, .inr rfl, Sift.start hh⟩ ?_ ?_
 ·exact Zb [0] ⟨rfl, rfl, rfl, rfl, rfl, trivial⟩ rfl (by decide) rfl rfl
 rintro z hJ
 have hm := hJ.1.len
 have hz := hJ.2.2.1
 refine qB (qS (qR (qM ?_)))
 refine qe (Z9 rfl rfl rfl (Z1c (by omega))) ?_
 refine qe eP ?_
 refine qA (qN (qS (qS (qR (qM (qM ?_))))))
 refine qe eI ?_
 refine qN ?_
 refine Z2 rfl ?_ ?_
 ·intro hc
  have hleaf : hi ≤ 2 * z.2 + 1 := by simp at hc; omega
  refine qX ?_
  exact Zf rfl Z4 (.cons_cons _ .slnil) (gp z.1 ⟨hJ.1, hJ.2.2.2.leaf hleaf⟩ rfl rfl)
 ·intro hc
  have hch : 2 * z.2 + 1 < hi := by simp at hc; omega
  refine qK (qS (qS ?_))
  refine Zz [0, 1, 0, 7, 15, 31, 31, 31, 31, 415, 991, 2015, 31, 31, 31, 24607, 57375, 127007, 258079, 524287, 1048575, 2097151] 22 rfl (by kernel_rfl) ?_
  refine cM2 ?_
  refine ce eP ?_
  refine cM2 ?_
  refine ce eI ?_
  refine cM2 (cTM (cTM (cTM (cTM ?_))))
  refine Zc (wT rfl rfl rfl rfl) rfl (fun hg => (Z9 rfl (Ze hg rfl) (Ze hg rfl) (Zn (by omega)))) ?_
  refine Zc (wT rfl rfl rfl rfl) rfl (fun hg => (Z1 (f + ((2 * z.2) + 1)) rfl (Ze hg rfl) (Ze hg rfl) (by (try simp at hg) <;> omega) (by (try simp at hg) <;> omega) (by omega))) ?_
  refine Z0d 0 (wT rfl rfl rfl rfl) rfl rfl (fun hg => (Ze hg rfl)) rfl (fun hg => by (try simp at hg) <;> omega) (fun _ => Z3) ?_
  refine cTM (cTM (cTM ?_))
  refine Zc (wT rfl rfl rfl rfl) rfl (fun hg => (Z9 rfl (Ze hg rfl) (Ze hg rfl) (Zn (by omega)))) ?_
  refine Zc (wT rfl rfl rfl rfl) rfl (fun hg => (Z9 rfl (Ze hg rfl) rfl (Zn (by omega)))) ?_
  refine Zc (wT rfl rfl rfl rfl) rfl (fun hg => (Z1 ((f + ((2 * z.2) + 1)) + 1) rfl (Ze hg rfl) (Ze hg rfl) (by (try simp at hg) <;> omega) (by (try simp at hg) <;> omega) (by omega))) ?_
  refine Z0d 0 (wT rfl rfl rfl rfl) rfl rfl (fun hg => (Ze hg rfl)) rfl (fun hg => by (try simp at hg) <;> omega) (fun _ => Z3) ?_
  refine Zc (wT rfl rfl rfl rfl) rfl (fun hg => (Z8 [] rfl (Ze hg rfl) (Zg (Ze hg rfl) (Zg (Ze hg rfl) Z05)) (Z25 _ _) List.nodup_nil)) ?_
  refine Zc (wT rfl rfl rfl rfl) rfl (fun hg => (Zr rfl (Ze hg rfl) rfl rfl)) ?_
  refine ce (Zs rfl rfl rfl (fun h => h)) ?_
  refine .done (qN ?_)
  refine Z2 rfl ?_ ?_
  ·intro hc
   have hc1 : 2 * z.2 + 1 + 1 < hi := by have := Z27 hc; simp at this; omega
   have hl1 : tLt (hp z.1 f (2 * z.2 + 1)) (hp z.1 f (2 * z.2 + 1 + 1)) = true := Z28 hc
   have hmax : ∀ c, (c = 2 * z.2 + 1 ∨ c = 2 * z.2 + 2) → c < hi → tLt (hp z.1 f (2 * z.2 + 1 + 1)) (hp z.1 f c) = false := fun c h1 h2 => by rcases h1 with rfl | rfl; exact tLtT.ok.asy _ _ hl1; exact tLtT.ok.irr _
   refine qR (qM ?_)
   refine qe eP ?_
   refine qA (qN (qS (qS ?_)))
   refine Zz [0, 0, 0, 0, 12, 30, 62, 0, 0, 0, 768, 1920, 3968, 8191, 16383, 32767] 16 rfl (by kernel_rfl) ?_
   refine cM2 (cM2 (cM2 (cM2 ?_)))
   refine ce eP ?_
   refine ce (eO (f + z.2)) ?_
   refine Za 0 (w0 rfl) rfl rfl rfl rfl (Z1d (by omega)) Z3 ?_
   refine cM2 (cM2 (cM2 ?_))
   refine ce eP ?_
   refine ce (Z1 (f + (((2 * z.2) + 1) + 1)) rfl rfl rfl (by omega) (by omega) (by omega)) ?_
   refine Za 0 (w0 rfl) rfl rfl rfl rfl (Z1d (by omega)) Z3 ?_
   refine ce (Z8 [] rfl rfl rfl (Z25 _ _) List.nodup_nil) ?_
   refine ce eI ?_
   refine ce (Z03 rfl rfl) ?_
   refine .done (qN ?_)
   refine Z2 rfl ?_ ?_
   ·intro hc
    have hstop := Z1u hc
    refine qE ?_
    exact Zf rfl Z4 (.cons_cons _ .slnil) (gp z.1 ⟨hJ.1, hJ.2.2.2.stop tLtT.ok hmax hstop⟩ rfl rfl)
   ·intro hc
    have hlt := Z2c hc
    refine qK (qS ?_)
    refine Z08 [0, 0, 0, 6, 0, 0, 0, 96, 0, 0, 0, 1536, 3840, 7936, 0, 0, 0, 98304, 245760, 507904, 1048335, 2096911, 4194303, 8388607] [21, 23] [13, 19] rfl (by kernel_rfl) ?_
    refine wM2 (wM2 (wM2 ?_))
    refine we eP ?_
    refine wM2 (wM2 (wM2 ?_))
    refine we eP ?_
    refine wM2 (wM2 (wM2 ?_))
    refine we eP ?_
    refine we (Z1 (f + (((2 * z.2) + 1) + 1)) rfl rfl rfl (by omega) (by omega) (by omega)) ?_
    refine wLs 0 ?_
    refine wM2 (wM2 (wM2 ?_))
    refine we eP ?_
    refine we (eO (f + z.2)) ?_
    refine wLs 0 ?_
    refine we (eO (f + z.2)) ?_
    refine Z07 0 rfl (w0 rfl) rfl rfl rfl rfl (by first | omega | (simp; omega)) rfl rfl ?_
    refine we (Z1 (f + (((2 * z.2) + 1) + 1)) rfl rfl rfl (by omega) (by omega) (by omega)) ?_
    refine Z07 0 rfl (w0 rfl) rfl rfl rfl rfl (by first | omega | (simp; omega)) rfl rfl ?_
    refine .done (qR (qM (qA (qN ?_))))
    refine ⟨(swp z.1 (f + z.2) (f + (2 * z.2 + 1 + 1)), (2 * z.2 + 1 + 1)), ⟨.step _ _ hJ.1 (by (try simp only) <;> omega) (by (try simp only) <;> omega) (by (try simp only) <;> omega), (by (try simp only) <;> omega), .inl (by (try simp only) <;> omega), hJ.2.2.2.step (c0 := (2 * z.2 + 1 + 1)) tLtT.ok hJ.2.1 (.inr rfl) (by (try simp only) <;> omega) (by (try simp only) <;> omega) hmax hlt⟩, (by (try simp only) <;> omega), ?_⟩
    exact qp [0] ⟨rfl, rfl, rfl, rfl, rfl, trivial⟩
  ·intro hc
   have hmax : ∀ c, (c = 2 * z.2 + 1 ∨ c = 2 * z.2 + 2) → c < hi → tLt (hp z.1 f (2 * z.2 + 1)) (hp z.1 f c) = false := fun c h1 h2 => by rcases h1 with rfl | rfl; exact tLtT.ok.irr _; rcases Bool.and_eq_false_iff.1 hc with h | h; simp at h; omega; exact h
   refine qK (qS (qS ?_))
   refine Zz [0, 0, 0, 0, 12, 30, 62, 0, 0, 0, 768, 1920, 3968, 8191, 16383, 32767] 16 rfl (by kernel_rfl) ?_
   refine cM2 (cM2 (cM2 (cM2 ?_)))
   refine ce eP ?_
   refine ce (eO (f + z.2)) ?_
   refine Za 0 (w0 rfl) rfl rfl rfl rfl (Z1d (by omega)) Z3 ?_
   refine cM2 (cM2 (cM2 ?_))
   refine ce eP ?_
   refine ce (eO (f + ((2 * z.2) + 1))) ?_
   refine Za 0 (w0 rfl) rfl rfl rfl rfl (Z1d (by omega)) Z3 ?_
   refine ce (Z8 [] rfl rfl rfl (Z25 _ _) List.nodup_nil) ?_
   refine ce eI ?_
   refine ce (Z03 rfl rfl) ?_
   refine .done (qN ?_)
   refine Z2 rfl ?_ ?_
   ·intro hc
    have hstop := Z1u hc
    refine qE ?_
    exact Zf rfl Z4 (.cons_cons _ .slnil) (gp z.1 ⟨hJ.1, hJ.2.2.2.stop tLtT.ok hmax hstop⟩ rfl rfl)
   ·intro hc
    have hlt := Z2c hc
    refine qK (qS ?_)
    refine Z08 [0, 0, 0, 6, 0, 0, 0, 96, 0, 0, 0, 1536, 3840, 7936, 0, 0, 0, 98304, 245760, 507904, 1048335, 2096911, 4194303, 8388607] [21, 23] [13, 19] rfl (by kernel_rfl) ?_
    refine wM2 (wM2 (wM2 ?_))
    refine we eP ?_
    refine wM2 (wM2 (wM2 ?_))
    refine we eP ?_
    refine wM2 (wM2 (wM2 ?_))
    refine we eP ?_
    refine we (eO (f + ((2 * z.2) + 1))) ?_
    refine wLs 0 ?_
    refine wM2 (wM2 (wM2 ?_))
    refine we eP ?_
    refine we (eO (f + z.2)) ?_
    refine wLs 0 ?_
    refine we (eO (f + z.2)) ?_
    refine Z07 0 rfl (w0 rfl) rfl rfl rfl rfl (by first | omega | (simp; omega)) rfl rfl ?_
    refine we (eO (f + ((2 * z.2) + 1))) ?_
    refine Z07 0 rfl (w0 rfl) rfl rfl rfl rfl (by first | omega | (simp; omega)) rfl rfl ?_
    refine .done (qR (qM (qA (qN ?_))))
    refine ⟨(swp z.1 (f + z.2) (f + (2 * z.2 + 1)), (2 * z.2 + 1)), ⟨.step _ _ hJ.1 (by (try simp only) <;> omega) (by (try simp only) <;> omega) (by (try simp only) <;> omega), (by (try simp only) <;> omega), .inl (by (try simp only) <;> omega), hJ.2.2.2.step (c0 := (2 * z.2 + 1)) tLtT.ok hJ.2.1 (.inl rfl) (by (try simp only) <;> omega) (by (try simp only) <;> omega) hmax hlt⟩, (by (try simp only) <;> omega), ?_⟩
    exact qp [0] ⟨rfl, rfl, rfl, rfl, rfl, trivial⟩
theorem Z8n (q n : Nat) (l : List Str) (hn : l.length = n) (hN : n ≤ 140737488355328) (a b : Nat) (ha : a ≤ b) (hb : b ≤ n) : ACalls Tryz.prog 141 [.own q 1 0 n, iA a, iA b, .fn (.func 52) []] [(q, .rows 9 1 (l.map fun x => [sA x]))] (GP (fun _ : List Str => mkRes []) (fun m => [(q, .rows 9 1 (m.map fun x => [sA x]))]) (fun m => Sw a b l m ∧ SOn tLt a b m)) := by
 refine Zd (n := 60) Tryz.func141 rfl (by decide +kernel) rfl rfl ?_
 refine qS (qR (qM (qA (qN (qS (qR (qA (qN (qS (qR (qM (qM ?_))))))))))))
 refine qe (Zv (y := iA (b - a : Nat)) (eL) (congrArg iA (by omega))) ?_
 refine qA (qN (qS (qS (qR (qM ?_)))))
 refine qe eL ?_
 refine qe (Zv (y := iA ((b - a - 1) / 2 : Nat)) (Z0r rfl rfl rfl (by decide) (by (rw [Zb1 ha]; omega))) (congrArg iA (Zb1 ha))) ?_
 refine qA (qN (qB ?_))
 refine Zj (α := List Str × Nat) (fun x => ⟨[(11, iA ((x.2 : Int) - 1)), (0, .own q 1 0 n), (8, iA a), (9, iA (0 : Nat)), (10, iA (b - a : Nat)), (3, .fn (.func 52) [])], [(q, .rows 9 1 (x.1.map fun x => [sA x]))], [], 60⟩) (fun x => Sw a b l x.1 ∧ Heap tLt x.2 (b - a) a x.1 ∧ x.2 ≤ (b - a) + 1) (fun x => x.2) (l, (b - a - 1) / 2 + 1) ⟨.refl, Heap.none (by (try simp only) <;> omega), (by (try simp only) <;> omega)⟩ ?_ ?_
 ·exact Zb [0] ⟨(congrArg (fun n => some (iA n)) (by (try simp only) <;> omega)), rfl, rfl, rfl, rfl, rfl, trivial⟩ rfl (by decide) rfl rfl
 rintro x hJ
 have hm := hJ.1.len
 refine qS (qS (qR (qM ?_)))
 refine qe eI ?_
 refine qN ?_
 refine Z2 rfl ?_ ?_
 ·intro hc
  have hx : 0 < x.2 := by simp at hc; omega
  refine qK (qS (qB ?_))
  refine Z2j 11 rfl (show _ = ((x.2 - 1 : Nat) : Int) by omega) ?_
  refine qR (qM (qM (qM (qM (qM ?_)))))
  refine Z5 [_] _ (w0 rfl) rfl rfl rfl rfl (Zk (k := 0) rfl) (Zbu q n x.1 (by omega) hN (x.2 - 1) (b - a) a (by omega) (by omega) (by rw [show x.2 - 1 + 1 = x.2 from by omega]; exact hJ.2.1)) (fun v1 hv1 => ?_)
  refine qN (qR (qM ?_))
  refine qe eL ?_
  refine qA (qN ?_)
  refine ⟨(v1, x.2 - 1), ⟨hJ.1.trans (hv1.1.mono (Nat.le_refl _) (by omega) (by omega)), hv1.2, (by (try simp only) <;> omega)⟩, (by (try simp only) <;> omega), ?_⟩
  exact qp [0] ⟨(congrArg (fun n => some (iA n)) (by (try simp only) <;> omega)), rfl, rfl, rfl, rfl, rfl, trivial⟩
 ·intro hc
  have hx0 : x.2 = 0 := by simp at hc; omega
  refine qX (qS (qR (qM ?_)))
  refine qe eL ?_
  refine qA (qN (qB ?_))
  refine Zj (α := List Str × Nat) (fun y => ⟨[(12, iA ((y.2 : Int) - 1)), (0, .own q 1 0 n), (8, iA a), (9, iA (0 : Nat)), (10, iA (b - a : Nat)), (3, .fn (.func 52) [])], [(q, .rows 9 1 (y.1.map fun x => [sA x]))], [], 60⟩) (fun y => Sw a b l y.1 ∧ Pops tLt a b y.2 y.1 ∧ y.2 ≤ b - a) (fun y => y.2) (x.1, b - a) ⟨hJ.1, Pops.start ha (hx0 ▸ hJ.2.1), Nat.le_refl _⟩ ?_ ?_
  ·exact Zb [0] ⟨(congrArg (fun n => some (iA n)) (by (try simp only) <;> omega)), rfl, rfl, rfl, rfl, rfl, trivial⟩ rfl (by decide) rfl rfl
  rintro y hJ1
  have hm1 := hJ1.1.len
  refine qS (qS (qR (qM ?_)))
  refine qe eI ?_
  refine qN ?_
  refine Z2 rfl ?_ ?_
  ·intro hc
   have hy : 0 < y.2 := by simp at hc; omega
   have hsw := Pops.swap tLtT.ok (i := y.2 - 1) (by rw [show y.2 - 1 + 1 = y.2 from by omega]; exact hJ1.2.1) (by omega) (by omega : b ≤ y.1.length)
   refine qK (qS (qB (qS ?_)))
   refine Z2j 12 rfl (show _ = ((y.2 - 1 : Nat) : Int) by omega) ?_
   refine Z08 [0, 0, 0, 0, 0, 24, 0, 0, 0, 384, 960, 1984, 0, 0, 12288, 28672, 65475, 131011, 262143, 524287] [17, 19] [11, 15] rfl (by kernel_rfl) ?_
   refine wM2 (wM2 (wM2 (wM2 (wM2 ?_))))
   refine we eP ?_
   refine wM2 (wM2 (wM2 ?_))
   refine we eP ?_
   refine we (eO (a + (y.2 - 1))) ?_
   refine wLs 0 ?_
   refine wM2 (wM2 ?_)
   refine we (eO a) ?_
   refine wLs 0 ?_
   refine we (eO a) ?_
   refine Z07 0 rfl (w0 rfl) rfl rfl rfl rfl (by first | omega | (simp; omega)) rfl rfl ?_
   refine we (eO (a + (y.2 - 1))) ?_
   refine Z07 0 rfl (w0 rfl) rfl rfl rfl rfl (by first | omega | (simp; omega)) rfl rfl ?_
   refine .done (qR (qM (qM (qM (qM (qM ?_))))))
   refine Z5 [_] _ (w0 rfl) rfl rfl rfl rfl (Zk (k := 0) rfl) (Zbu q n (swp y.1 a (a + (y.2 - 1))) (by rw [Z21]; omega) hN 0 (y.2 - 1) a (by omega) (by omega) hsw.1) (fun v2 hv2 => ?_)
   refine qN (qR (qM ?_))
   refine qe eL ?_
   refine qA (qN ?_)
   refine ⟨(v2, y.2 - 1), ⟨(Sw.step _ _ hJ1.1 (by (try simp only) <;> omega) (by (try simp only) <;> omega) (by (try simp only) <;> omega)).trans (hv2.1.mono (Nat.le_refl _) (by omega) (by rw [Z21]; omega)), Pops.sift hsw.2.1 hsw.2.2 hv2.1 hv2.2, (by (try simp only) <;> omega)⟩, (by (try simp only) <;> omega), ?_⟩
   exact qp [0] ⟨(congrArg (fun n => some (iA n)) (by (try simp only) <;> omega)), rfl, rfl, rfl, rfl, rfl, trivial⟩
  ·intro hc
   have hy0 : y.2 = 0 := by simp at hc; omega
   refine qX ?_
   exact Zf rfl Z4 (.cons_cons _ .slnil) (gp y.1 ⟨hJ1.1, by have := hJ1.2.1.srt; rwa [hy0, Nat.add_zero] at this⟩ rfl rfl)
theorem Z2b {f : Nat → Bool} {x y : Nat} (h : x ≤ y) (h1 : f x = false) (h2 : f y = true) : x < y := Nat.lt_of_le_of_ne h (fun e => by rw [e, h2] at h1; cases h1)
theorem Z3i {f : Nat → Bool} {x y : Nat} (h : x ≤ y) (h1 : f x = true) (h2 : f y = false) : x < y := Nat.lt_of_le_of_ne h (fun e => by rw [e, h2] at h1; cases h1)
theorem Z3c (q n : Nat) (l : List Str) (hn : l.length = n) (hN : n ≤ 140737488355328) (a b p : Nat) (hap : a ≤ p) (hpb : p < b) (hb : b ≤ n) : ACalls Tryz.prog 147 [.own q 1 0 n, iA a, iA b, iA p, .fn (.func 52) []] [(q, .rows 9 1 (l.map fun x => [sA x]))] (GP (fun r : List Str × Nat × Bool => .tup [iA r.2.1, bA r.2.2]) (fun r => [(q, .rows 9 1 (r.1.map fun x => [sA x]))]) (fun r => Sw a b l r.1 ∧ a ≤ r.2.1 ∧ r.2.1 < b ∧ PartR tLt a b r.2.1 r.1)) := by
 have hm0 : Sw a b l (swp l a p) := .step _ _ .refl ⟨Nat.le_refl _, by omega⟩ ⟨hap, hpb⟩ (by (try simp only) <;> omega)
 have hl0 : (swp l a p).length = n := by rw [Z21]; exact hn
 refine Zd (n := 178) Tryz.func147 rfl (by decide +kernel) rfl rfl ?_
 refine qS (qR (qA (qA (qN (qS ?_)))))
 refine Z08 [0, 0, 0, 0, 0, 0, 48, 112, 0, 0, 768, 1792, 4083, 8179, 16383, 32767] [13, 15] [7, 11] rfl (by kernel_rfl) ?_
 refine wM2 (wM2 (wM2 (wM2 (wM2 (wM2 ?_)))))
 refine we (eO p) ?_
 refine wLs 0 ?_
 refine wM2 (wM2 ?_)
 refine we (eO a) ?_
 refine wLs 0 ?_
 refine we (eO a) ?_
 refine Z07 0 rfl (w0 rfl) rfl rfl rfl rfl (by first | omega | (simp; omega)) rfl rfl ?_
 refine we (eO p) ?_
 refine Z07 0 rfl (w0 rfl) rfl rfl rfl rfl (by first | omega | (simp; omega)) rfl rfl ?_
 refine .done (qS (qR (qM ?_)))
 refine qe eP ?_
 refine qM ?_
 refine qe (Zv (y := iA (b - 1 : Nat)) (eL) (congrArg iA (by (try simp only) <;> omega))) ?_
 refine qA (qA (qN (qS (qB ?_))))
 refine Zj (α := Nat) (fun x => ⟨[(12, iA x), (13, iA (b - 1 : Nat)), (0, .own q 1 0 n), (1, iA a), (4, .fn (.func 52) [])], [(q, .rows 9 1 ((swp l a p).map fun x => [sA x]))], [], 178⟩) (fun x => a + 1 ≤ x ∧ x ≤ b ∧ ∀ k, a < k → k < x → tLt ((swp l a p).getD k default) ((swp l a p).getD a default) = true) (fun x => b - x) (a + 1) ⟨Nat.le_refl _, by omega, fun k h1 h2 => by omega⟩ ?_ ?_
 ·exact Zb [0] ⟨rfl, rfl, rfl, rfl, rfl, trivial⟩ rfl (by decide) rfl rfl
 rintro x hJ
 refine qS (qS ?_)
 refine Zz [0, 0, 3, 7, 15, 15, 15, 111, 239, 15, 15, 1551, 3599, 8191, 16383, 32767] 16 rfl (by kernel_rfl) ?_
 refine cM2 (cM2 ?_)
 refine ce eI ?_
 refine cM2 (cTM (cTM (cTM ?_)))
 refine Zc (wT rfl rfl rfl rfl) rfl (fun hg => (Z1 x rfl (Ze hg rfl) (Ze hg rfl) (by (try simp at hg) <;> omega) (by (try simp at hg) <;> omega) (by omega))) ?_
 refine Z0d 0 (wT rfl rfl rfl rfl) rfl rfl (fun hg => (Ze hg rfl)) rfl (fun hg => by (try simp at hg) <;> omega) (fun _ => Z3) ?_
 refine cTM (cTM ?_)
 refine Zc (wT rfl rfl rfl rfl) rfl (fun hg => (Z1 a rfl (Ze hg rfl) (Ze hg rfl) (by (try simp at hg) <;> omega) (by (try simp at hg) <;> omega) (by omega))) ?_
 refine Z0d 0 (wT rfl rfl rfl rfl) rfl rfl (fun hg => (Ze hg rfl)) rfl (fun hg => by (try simp at hg) <;> omega) (fun _ => Z3) ?_
 refine Zc (wT rfl rfl rfl rfl) rfl (fun hg => (Z8 [] rfl (Ze hg rfl) (Zg (Ze hg rfl) (Zg (Ze hg rfl) Z05)) (Z25 _ _) List.nodup_nil)) ?_
 refine Zc (wT rfl rfl rfl rfl) rfl (fun hg => (Zr rfl (Ze hg rfl) rfl rfl)) ?_
 refine ce (Zs rfl rfl rfl (fun h => h)) ?_
 refine .done (qN ?_)
 refine Z2 rfl ?_ ?_
 ·intro hc
  have hle : x ≤ (b - 1) := by have := Z27 hc; simpa using this
  have hv := Z28 hc
  refine qK (qB (qR (qM ?_)))
  refine qe eP ?_
  refine qA (qN ?_)
  refine ⟨(x + 1), ⟨by omega, by omega, fun k h1 h2 => by rcases Nat.lt_succ_iff_lt_or_eq.1 h2 with h | h; exact hJ.2.2 k h1 h; rw [h]; exact hv⟩, (by (try simp only) <;> omega), ?_⟩
  exact qp [0] ⟨rfl, rfl, rfl, rfl, rfl, trivial⟩
 ·intro hc
  have hA : (b - 1) < x ∨ tLt ((swp l a p).getD x default) ((swp l a p).getD a default) = false := by rcases Bool.and_eq_false_iff.1 hc with h | h; exact .inl (by simpa using h); exact .inr h
  refine qX (qS (qB ?_))
  refine Zj (α := Nat) (fun y => ⟨[(12, iA x), (13, iA y), (0, .own q 1 0 n), (1, iA a), (4, .fn (.func 52) [])], [(q, .rows 9 1 ((swp l a p).map fun x => [sA x]))], [], 178⟩) (fun y => y < b ∧ x ≤ y + 1 ∧ ∀ k, y < k → k < b → tLt ((swp l a p).getD k default) ((swp l a p).getD a default) = false) (fun y => y) (b - 1) ⟨by omega, by omega, fun k h1 h2 => by omega⟩ ?_ ?_
  ·exact Zb [0] ⟨rfl, rfl, rfl, rfl, rfl, trivial⟩ rfl (by decide) rfl rfl
  rintro y hJ1
  refine qS (qS ?_)
  refine Zz [0, 0, 3, 7, 15, 15, 15, 111, 239, 15, 15, 1551, 3599, 8191, 16383, 32767, 65535] 17 rfl (by kernel_rfl) ?_
  refine cM2 (cM2 ?_)
  refine ce eI ?_
  refine cM2 (cTM (cTM (cTM ?_)))
  refine Zc (wT rfl rfl rfl rfl) rfl (fun hg => (Z1 y rfl (Ze hg rfl) (Ze hg rfl) (by (try simp at hg) <;> omega) (by (try simp at hg) <;> omega) (by omega))) ?_
  refine Z0d 0 (wT rfl rfl rfl rfl) rfl rfl (fun hg => (Ze hg rfl)) rfl (fun hg => by (try simp at hg) <;> omega) (fun _ => Z3) ?_
  refine cTM (cTM ?_)
  refine Zc (wT rfl rfl rfl rfl) rfl (fun hg => (Z1 a rfl (Ze hg rfl) (Ze hg rfl) (by (try simp at hg) <;> omega) (by (try simp at hg) <;> omega) (by omega))) ?_
  refine Z0d 0 (wT rfl rfl rfl rfl) rfl rfl (fun hg => (Ze hg rfl)) rfl (fun hg => by (try simp at hg) <;> omega) (fun _ => Z3) ?_
  refine Zc (wT rfl rfl rfl rfl) rfl (fun hg => (Z8 [] rfl (Ze hg rfl) (Zg (Ze hg rfl) (Zg (Ze hg rfl) Z05)) (Z25 _ _) List.nodup_nil)) ?_
  refine Zc (wT rfl rfl rfl rfl) rfl (fun hg => (Zr rfl (Ze hg rfl) rfl rfl)) ?_
  refine Zc (wT rfl rfl rfl rfl) rfl (fun hg => (Z03 rfl (Ze hg rfl))) ?_
  refine ce (Zs rfl rfl rfl (fun h => h)) ?_
  refine .done (qN ?_)
  refine Z2 rfl ?_ ?_
  ·intro hc
   have hle : x ≤ y := by have := Z27 hc; simpa using this
   have hv := Z28 hc
   refine qK (qB (qR (qM ?_)))
   refine qe eL ?_
   refine qA (qN ?_)
   refine ⟨(y - 1), ⟨by omega, by omega, fun k h1 h2 => by by_cases e : k = y; rw [e]; exact Z1u hv; exact hJ1.2.2 k (by (try simp only) <;> omega) h2⟩, (by (try simp only) <;> omega), ?_⟩
   exact qp [0] ⟨rfl, (congrArg (fun n => some (iA n)) (by (try simp only) <;> omega)), rfl, rfl, rfl, trivial⟩
  ·intro hc
   have hB : y < x ∨ (!tLt ((swp l a p).getD y default) ((swp l a p).getD a default)) = false := by rcases Bool.and_eq_false_iff.1 hc with h | h; exact .inl (by simpa using h); exact .inr h
   refine qX (qS (qS (qR (qM (qM ?_)))))
   refine qe eI ?_
   refine qN ?_
   refine Z2 rfl ?_ ?_
   ·intro hc
    have hgt : y < x := by simpa using hc
    refine qS ?_
    refine Z08 [0, 0, 0, 0, 0, 0, 48, 112, 0, 0, 768, 1792, 4083, 8179, 16383, 32767] [13, 15] [7, 11] rfl (by kernel_rfl) ?_
    refine wM2 (wM2 (wM2 (wM2 (wM2 (wM2 ?_)))))
    refine we (eO a) ?_
    refine wLs 0 ?_
    refine wM2 (wM2 ?_)
    refine we (eO y) ?_
    refine wLs 0 ?_
    refine we (eO y) ?_
    refine Z07 0 rfl (w0 rfl) rfl rfl rfl rfl (by first | omega | (simp; omega)) rfl rfl ?_
    refine we (eO a) ?_
    refine Z07 0 rfl (w0 rfl) rfl rfl rfl rfl (by first | omega | (simp; omega)) rfl rfl ?_
    refine .done (qS (qR (qM (qA (qA (qN (qE ?_)))))))
    exact Zf rfl (Z7 rfl (Z7 rfl Z4)) (.cons_cons _ .slnil) (gp (swp (swp l a p) y a, y, true) ⟨.step _ _ hm0 (by (try simp only) <;> omega) (by (try simp only) <;> omega) (by (try simp only) <;> omega), by simp only; omega, by simp only; omega, Part.fin ⟨hJ.2.2, hJ1.2.2⟩ (by (try simp only) <;> omega) (by (try simp only) <;> omega) (by (try simp only) <;> omega) (by (try simp only) <;> omega) (by (try simp only) <;> omega)⟩ rfl rfl)
   ·intro hc
    have hxy : x ≤ y := by simpa using hc
    have hne : x < y := Z2b (f := fun k => tLt ((swp l a p).getD k default) ((swp l a p).getD a default)) (by omega) (hA.resolve_left (by omega)) (Z2c (hB.resolve_left (by omega)))
    refine qK (qS ?_)
    refine Z08 [0, 0, 0, 0, 0, 0, 48, 112, 0, 0, 768, 1792, 4083, 8179, 16383, 32767] [13, 15] [7, 11] rfl (by kernel_rfl) ?_
    refine wM2 (wM2 (wM2 (wM2 (wM2 (wM2 ?_)))))
    refine we (eO y) ?_
    refine wLs 0 ?_
    refine wM2 (wM2 ?_)
    refine we (eO x) ?_
    refine wLs 0 ?_
    refine we (eO x) ?_
    refine Z07 0 rfl (w0 rfl) rfl rfl rfl rfl (by first | omega | (simp; omega)) rfl rfl ?_
    refine we (eO y) ?_
    refine Z07 0 rfl (w0 rfl) rfl rfl rfl rfl (by first | omega | (simp; omega)) rfl rfl ?_
    refine .done (qS (qR (qM ?_)))
    refine qe eP ?_
    refine qA (qN (qS (qR (qM ?_))))
    refine qe eL ?_
    refine qA (qN (qS (qB ?_)))
    refine Zj (α := List Str × Nat × Nat) (fun z => ⟨[(12, iA z.2.1), (13, iA z.2.2), (0, .own q 1 0 n), (1, iA a), (4, .fn (.func 52) [])], [(q, .rows 9 1 (z.1.map fun x => [sA x]))], [], 178⟩) (fun z => Sw a b l z.1 ∧ a + 1 ≤ z.2.1 ∧ z.2.1 ≤ z.2.2 + 1 ∧ z.2.2 < b ∧ Part tLt a b z.2.1 z.2.2 z.1) (fun z => z.2.2 + 1 - z.2.1) (swp (swp l a p) x y, x + 1, y - 1) ⟨.step _ _ hm0 (by (try simp only) <;> omega) (by (try simp only) <;> omega) (by (try simp only) <;> omega), (by (try simp only) <;> omega), (by (try simp only) <;> omega), (by (try simp only) <;> omega), Part.swap (i := x) (j := y) ⟨hJ.2.2, hJ1.2.2⟩ (by (try simp only) <;> omega) (by (try simp only) <;> omega) (by (try simp only) <;> omega) (by (try simp only) <;> omega) (hA.resolve_left (by (try simp only) <;> omega)) (Z2c (hB.resolve_left (by (try simp only) <;> omega)))⟩ ?_ ?_
    ·exact Zb [0] ⟨rfl, (congrArg (fun n => some (iA n)) (by (try simp only) <;> omega)), rfl, rfl, rfl, trivial⟩ rfl (by decide) rfl rfl
    rintro z hJ2
    have hm2 := hJ2.1.len
    refine qB (qS (qB ?_))
    refine Zj (α := Nat) (fun u => ⟨[(12, iA u), (13, iA z.2.2), (0, .own q 1 0 n), (1, iA a), (4, .fn (.func 52) [])], [(q, .rows 9 1 (z.1.map fun x => [sA x]))], [], 178⟩) (fun u => z.2.1 ≤ u ∧ u ≤ z.2.2 + 1 ∧ Part tLt a b u z.2.2 z.1) (fun u => b - u) z.2.1 ⟨Nat.le_refl _, hJ2.2.2.1, hJ2.2.2.2.2⟩ ?_ ?_
    ·exact Zb [0] ⟨rfl, rfl, rfl, rfl, rfl, trivial⟩ rfl (by decide) rfl rfl
    rintro u hJ3
    refine qS (qS ?_)
    refine Zz [0, 0, 3, 7, 15, 15, 15, 111, 239, 15, 15, 1551, 3599, 8191, 16383, 32767] 16 rfl (by kernel_rfl) ?_
    refine cM2 (cM2 ?_)
    refine ce eI ?_
    refine cM2 (cTM (cTM (cTM ?_)))
    refine Zc (wT rfl rfl rfl rfl) rfl (fun hg => (Z1 u rfl (Ze hg rfl) (Ze hg rfl) (by (try simp at hg) <;> omega) (by (try simp at hg) <;> omega) (by omega))) ?_
    refine Z0d 0 (wT rfl rfl rfl rfl) rfl rfl (fun hg => (Ze hg rfl)) rfl (fun hg => by (try simp at hg) <;> omega) (fun _ => Z3) ?_
    refine cTM (cTM ?_)
    refine Zc (wT rfl rfl rfl rfl) rfl (fun hg => (Z1 a rfl (Ze hg rfl) (Ze hg rfl) (by (try simp at hg) <;> omega) (by (try simp at hg) <;> omega) (by omega))) ?_
    refine Z0d 0 (wT rfl rfl rfl rfl) rfl rfl (fun hg => (Ze hg rfl)) rfl (fun hg => by (try simp at hg) <;> omega) (fun _ => Z3) ?_
    refine Zc (wT rfl rfl rfl rfl) rfl (fun hg => (Z8 [] rfl (Ze hg rfl) (Zg (Ze hg rfl) (Zg (Ze hg rfl) Z05)) (Z25 _ _) List.nodup_nil)) ?_
    refine Zc (wT rfl rfl rfl rfl) rfl (fun hg => (Zr rfl (Ze hg rfl) rfl rfl)) ?_
    refine ce (Zs rfl rfl rfl (fun h => h)) ?_
    refine .done (qN ?_)
    refine Z2 rfl ?_ ?_
    ·intro hc
     have hle : u ≤ z.2.2 := by have := Z27 hc; simpa using this
     have hv := Z28 hc
     refine qK (qB (qR (qM ?_)))
     refine qe eP ?_
     refine qA (qN ?_)
     refine ⟨(u + 1), ⟨by omega, by omega, ⟨fun k h1 h2 => by rcases Nat.lt_succ_iff_lt_or_eq.1 h2 with h | h; exact hJ3.2.2.lo k h1 h; rw [h]; exact hv, hJ3.2.2.hi⟩⟩, (by (try simp only) <;> omega), ?_⟩
     exact qp [0] ⟨rfl, rfl, rfl, rfl, rfl, trivial⟩
    ·intro hc
     have hC : z.2.2 < u ∨ tLt (z.1.getD u default) (z.1.getD a default) = false := by rcases Bool.and_eq_false_iff.1 hc with h | h; exact .inl (by simpa using h); exact .inr h
     refine qX (qS (qB ?_))
     refine Zj (α := Nat) (fun v => ⟨[(12, iA u), (13, iA v), (0, .own q 1 0 n), (1, iA a), (4, .fn (.func 52) [])], [(q, .rows 9 1 (z.1.map fun x => [sA x]))], [], 178⟩) (fun v => v ≤ z.2.2 ∧ u ≤ v + 1 ∧ Part tLt a b u v z.1) (fun v => v) z.2.2 ⟨Nat.le_refl _, hJ3.2.1, hJ3.2.2⟩ ?_ ?_
     ·exact Zb [0] ⟨rfl, rfl, rfl, rfl, rfl, trivial⟩ rfl (by decide) rfl rfl
     rintro v hJ4
     refine qS (qS ?_)
     refine Zz [0, 0, 3, 7, 15, 15, 15, 111, 239, 15, 15, 1551, 3599, 8191, 16383, 32767, 65535] 17 rfl (by kernel_rfl) ?_
     refine cM2 (cM2 ?_)
     refine ce eI ?_
     refine cM2 (cTM (cTM (cTM ?_)))
     refine Zc (wT rfl rfl rfl rfl) rfl (fun hg => (Z1 v rfl (Ze hg rfl) (Ze hg rfl) (by (try simp at hg) <;> omega) (by (try simp at hg) <;> omega) (by omega))) ?_
     refine Z0d 0 (wT rfl rfl rfl rfl) rfl rfl (fun hg => (Ze hg rfl)) rfl (fun hg => by (try simp at hg) <;> omega) (fun _ => Z3) ?_
     refine cTM (cTM ?_)
     refine Zc (wT rfl rfl rfl rfl) rfl (fun hg => (Z1 a rfl (Ze hg rfl) (Ze hg rfl) (by (try simp at hg) <;> omega) (by (try simp at hg) <;> omega) (by omega))) ?_
     refine Z0d 0 (wT rfl rfl rfl rfl) rfl rfl (fun hg => (Ze hg rfl)) rfl (fun hg => by (try simp at hg) <;> omega) (fun _ => Z3) ?_
     refine Zc (wT rfl rfl rfl rfl) rfl (fun hg => (Z8 [] rfl (Ze hg rfl) (Zg (Ze hg rfl) (Zg (Ze hg rfl) Z05)) (Z25 _ _) List.nodup_nil)) ?_
     refine Zc (wT rfl rfl rfl rfl) rfl (fun hg => (Zr rfl (Ze hg rfl) rfl rfl)) ?_
     refine Zc (wT rfl rfl rfl rfl) rfl (fun hg => (Z03 rfl (Ze hg rfl))) ?_
     refine ce (Zs rfl rfl rfl (fun h => h)) ?_
     refine .done (qN ?_)
     refine Z2 rfl ?_ ?_
     ·intro hc
      have hle : u ≤ v := by have := Z27 hc; simpa using this
      have hv := Z28 hc
      refine qK (qB (qR (qM ?_)))
      refine qe eL ?_
      refine qA (qN ?_)
      refine ⟨(v - 1), ⟨by omega, by omega, ⟨hJ4.2.2.lo, fun k h1 h2 => by by_cases e : k = v; rw [e]; exact Z1u hv; exact hJ4.2.2.hi k (by (try simp only) <;> omega) h2⟩⟩, (by (try simp only) <;> omega), ?_⟩
      exact qp [0] ⟨rfl, (congrArg (fun n => some (iA n)) (by (try simp only) <;> omega)), rfl, rfl, rfl, trivial⟩
     ·intro hc
      have hD : v < u ∨ (!tLt (z.1.getD v default) (z.1.getD a default)) = false := by rcases Bool.and_eq_false_iff.1 hc with h | h; exact .inl (by simpa using h); exact .inr h
      refine qX (qS (qS (qR (qM (qM ?_)))))
      refine qe eI ?_
      refine qN ?_
      refine Z2 rfl ?_ ?_
      ·intro hc
       have hgt : v < u := by simpa using hc
       refine qX (qS ?_)
       refine Z08 [0, 0, 0, 0, 0, 0, 48, 112, 0, 0, 768, 1792, 4083, 8179, 16383, 32767] [13, 15] [7, 11] rfl (by kernel_rfl) ?_
       refine wM2 (wM2 (wM2 (wM2 (wM2 (wM2 ?_)))))
       refine we (eO a) ?_
       refine wLs 0 ?_
       refine wM2 (wM2 ?_)
       refine we (eO v) ?_
       refine wLs 0 ?_
       refine we (eO v) ?_
       refine Z07 0 rfl (w0 rfl) rfl rfl rfl rfl (by first | omega | (simp; omega)) rfl rfl ?_
       refine we (eO a) ?_
       refine Z07 0 rfl (w0 rfl) rfl rfl rfl rfl (by first | omega | (simp; omega)) rfl rfl ?_
       refine .done (qS (qR (qM (qA (qA (qN (qE ?_)))))))
       exact Zf rfl (Z7 rfl (Z7 rfl Z4)) (.cons_cons _ .slnil) (gp (swp z.1 v a, v, false) ⟨.step _ _ hJ2.1 (by (try simp only) <;> omega) (by (try simp only) <;> omega) (by (try simp only) <;> omega), by simp only; omega, by simp only; omega, hJ4.2.2.fin (by (try simp only) <;> omega) (by (try simp only) <;> omega) (by (try simp only) <;> omega) (by (try simp only) <;> omega) (by (try simp only) <;> omega)⟩ rfl rfl)
      ·intro hc
       have huv : u ≤ v := by simpa using hc
       have hne : u < v := Z2b (f := fun k => tLt (z.1.getD k default) (z.1.getD a default)) (by omega) (hC.resolve_left (by omega)) (Z2c (hD.resolve_left (by omega)))
       refine qK (qS ?_)
       refine Z08 [0, 0, 0, 0, 0, 0, 48, 112, 0, 0, 768, 1792, 4083, 8179, 16383, 32767] [13, 15] [7, 11] rfl (by kernel_rfl) ?_
       refine wM2 (wM2 (wM2 (wM2 (wM2 (wM2 ?_)))))
       refine we (eO v) ?_
       refine wLs 0 ?_
       refine wM2 (wM2 ?_)
       refine we (eO u) ?_
       refine wLs 0 ?_
       refine we (eO u) ?_
       refine Z07 0 rfl (w0 rfl) rfl rfl rfl rfl (by first | omega | (simp; omega)) rfl rfl ?_
       refine we (eO v) ?_
       refine Z07 0 rfl (w0 rfl) rfl rfl rfl rfl (by first | omega | (simp; omega)) rfl rfl ?_
       refine .done (qS (qR (qM ?_)))
       refine qe eP ?_
       refine qA (qN (qR (qM ?_)))
       refine qe eL ?_
       refine qA (qN ?_)
       refine ⟨(swp z.1 u v, u + 1, v - 1), ⟨.step _ _ hJ2.1 (by (try simp only) <;> omega) (by (try simp only) <;> omega) (by (try simp only) <;> omega), (by (try simp only) <;> omega), (by (try simp only) <;> omega), (by (try simp only) <;> omega), hJ4.2.2.swap (i := u) (j := v) (by (try simp only) <;> omega) (by (try simp only) <;> omega) (by (try simp only) <;> omega) (by (try simp only) <;> omega) (hC.resolve_left (by (try simp only) <;> omega)) (Z2c (hD.resolve_left (by (try simp only) <;> omega)))⟩, (by (try simp only) <;> omega), ?_⟩
       exact qp [0] ⟨rfl, (congrArg (fun n => some (iA n)) (by (try simp only) <;> omega)), rfl, rfl, rfl, trivial⟩
theorem Z2t (q n : Nat) (l : List Str) (hn : l.length = n) (hN : n ≤ 140737488355328) (a b p : Nat) (hap : a ≤ p) (hpb : p < b) (hb : b ≤ n) : ACalls Tryz.prog 146 [.own q 1 0 n, iA a, iA b, iA p, .fn (.func 52) []] [(q, .rows 9 1 (l.map fun x => [sA x]))] (GP (fun r : List Str × Nat => iA r.2) (fun r => [(q, .rows 9 1 (r.1.map fun x => [sA x]))]) (fun r => Sw a b l r.1 ∧ a < r.2 ∧ r.2 ≤ b ∧ r.1.getD a default = l.getD p default ∧ ∃ j, r.2 = j + 1 ∧ PartE tLt a b r.2 j r.1)) := by
 have hm0 : Sw a b l (swp l a p) := .step _ _ .refl ⟨Nat.le_refl _, by omega⟩ ⟨hap, hpb⟩ (by omega)
 have hl0 : (swp l a p).length = n := by rw [Z21]; exact hn
 refine Zd (n := 90) Tryz.func146 rfl (by decide +kernel) rfl rfl ?_
 refine qS (qR (qA (qN (qS ?_))))
 refine Z08 [0, 0, 0, 0, 0, 0, 48, 112, 0, 0, 768, 1792, 4083, 8179, 16383, 32767] [13, 15] [7, 11] rfl (by kernel_rfl) ?_
 refine wM2 (wM2 (wM2 (wM2 (wM2 (wM2 ?_)))))
 refine we (eO p) ?_
 refine wLs 0 ?_
 refine wM2 (wM2 ?_)
 refine we (eO a) ?_
 refine wLs 0 ?_
 refine we (eO a) ?_
 refine Z07 0 rfl (w0 rfl) rfl rfl rfl rfl (by first | omega | (simp; omega)) rfl rfl ?_
 refine we (eO p) ?_
 refine Z07 0 rfl (w0 rfl) rfl rfl rfl rfl (by first | omega | (simp; omega)) rfl rfl ?_
 refine .done (qS (qR (qM ?_)))
 refine qe eP ?_
 refine qM ?_
 refine qe (Zv (y := iA (b - 1 : Nat)) (eL) (congrArg iA (by omega))) ?_
 refine qA (qA (qN (qS (qB ?_))))
 refine Zj (α := List Str × Nat × Nat) (fun z => ⟨[(11, iA z.2.1), (12, iA z.2.2), (0, .own q 1 0 n), (1, iA a), (4, .fn (.func 52) [])], [(q, .rows 9 1 (z.1.map fun x => [sA x]))], [], 90⟩) (fun z => Sw a b l z.1 ∧ a + 1 ≤ z.2.1 ∧ z.2.1 ≤ z.2.2 + 1 ∧ z.2.2 < b ∧ z.1.getD a default = l.getD p default ∧ PartE tLt a b z.2.1 z.2.2 z.1) (fun z => z.2.2 + 1 - z.2.1) ((swp l a p), a + 1, b - 1) ⟨hm0, (by (try simp only) <;> omega), (by (try simp only) <;> omega), (by (try simp only) <;> omega), Z68 (by omega) (by omega), ⟨fun k h1 h2 => by (try simp only at h1 h2); omega, fun k h1 h2 => by (try simp only at h1 h2); omega⟩⟩ ?_ ?_
 ·exact Zb [0] ⟨rfl, rfl, rfl, rfl, rfl, trivial⟩ rfl (by decide) rfl rfl
 rintro z hJ2
 have hm2 := hJ2.1.len
 refine qB (qS (qB ?_))
 refine Zj (α := Nat) (fun u => ⟨[(11, iA u), (12, iA z.2.2), (0, .own q 1 0 n), (1, iA a), (4, .fn (.func 52) [])], [(q, .rows 9 1 (z.1.map fun x => [sA x]))], [], 90⟩) (fun u => z.2.1 ≤ u ∧ u ≤ z.2.2 + 1 ∧ PartE tLt a b u z.2.2 z.1) (fun u => b - u) z.2.1 ⟨Nat.le_refl _, hJ2.2.2.1, hJ2.2.2.2.2.2⟩ ?_ ?_
 ·exact Zb [0] ⟨rfl, rfl, rfl, rfl, rfl, trivial⟩ rfl (by decide) rfl rfl
 rintro u hJ3
 refine qS (qS ?_)
 refine Zz [0, 0, 3, 7, 15, 15, 15, 111, 239, 15, 15, 1551, 3599, 8191, 16383, 32767, 65535] 17 rfl (by kernel_rfl) ?_
 refine cM2 (cM2 ?_)
 refine ce eI ?_
 refine cM2 (cTM (cTM (cTM ?_)))
 refine Zc (wT rfl rfl rfl rfl) rfl (fun hg => (Z1 a rfl (Ze hg rfl) (Ze hg rfl) (by (try simp at hg) <;> omega) (by (try simp at hg) <;> omega) (by omega))) ?_
 refine Z0d 0 (wT rfl rfl rfl rfl) rfl rfl (fun hg => (Ze hg rfl)) rfl (fun hg => by (try simp at hg) <;> omega) (fun _ => Z3) ?_
 refine cTM (cTM ?_)
 refine Zc (wT rfl rfl rfl rfl) rfl (fun hg => (Z1 u rfl (Ze hg rfl) (Ze hg rfl) (by (try simp at hg) <;> omega) (by (try simp at hg) <;> omega) (by omega))) ?_
 refine Z0d 0 (wT rfl rfl rfl rfl) rfl rfl (fun hg => (Ze hg rfl)) rfl (fun hg => by (try simp at hg) <;> omega) (fun _ => Z3) ?_
 refine Zc (wT rfl rfl rfl rfl) rfl (fun hg => (Z8 [] rfl (Ze hg rfl) (Zg (Ze hg rfl) (Zg (Ze hg rfl) Z05)) (Z25 _ _) List.nodup_nil)) ?_
 refine Zc (wT rfl rfl rfl rfl) rfl (fun hg => (Zr rfl (Ze hg rfl) rfl rfl)) ?_
 refine Zc (wT rfl rfl rfl rfl) rfl (fun hg => (Z03 rfl (Ze hg rfl))) ?_
 refine ce (Zs rfl rfl rfl (fun h => h)) ?_
 refine .done (qN ?_)
 refine Z2 rfl ?_ ?_
 ·intro hc
  have hle : u ≤ z.2.2 := by have := Z27 hc; simpa using this
  have hv := Z28 hc
  refine qK (qB (qR (qM ?_)))
  refine qe eP ?_
  refine qA (qN ?_)
  refine ⟨(u + 1), ⟨by omega, by omega, ⟨fun k h1 h2 => by rcases Nat.lt_succ_iff_lt_or_eq.1 h2 with h | h; exact hJ3.2.2.lo k h1 h; rw [h]; exact Z1u hv, hJ3.2.2.hi⟩⟩, (by omega), ?_⟩
  exact qp [0] ⟨rfl, rfl, rfl, rfl, rfl, trivial⟩
 ·intro hc
  have hC : z.2.2 < u ∨ (!tLt (z.1.getD a default) (z.1.getD u default)) = false := by rcases Bool.and_eq_false_iff.1 hc with h | h; exact .inl (by simpa using h); exact .inr h
  refine qX (qS (qB ?_))
  refine Zj (α := Nat) (fun v => ⟨[(11, iA u), (12, iA v), (0, .own q 1 0 n), (1, iA a), (4, .fn (.func 52) [])], [(q, .rows 9 1 (z.1.map fun x => [sA x]))], [], 90⟩) (fun v => v ≤ z.2.2 ∧ u ≤ v + 1 ∧ PartE tLt a b u v z.1) (fun v => v) z.2.2 ⟨Nat.le_refl _, hJ3.2.1, hJ3.2.2⟩ ?_ ?_
  ·exact Zb [0] ⟨rfl, rfl, rfl, rfl, rfl, trivial⟩ rfl (by decide) rfl rfl
  rintro v hJ4
  refine qS (qS ?_)
  refine Zz [0, 0, 3, 7, 15, 15, 15, 111, 239, 15, 15, 1551, 3599, 8191, 16383, 32767] 16 rfl (by kernel_rfl) ?_
  refine cM2 (cM2 ?_)
  refine ce eI ?_
  refine cM2 (cTM (cTM (cTM ?_)))
  refine Zc (wT rfl rfl rfl rfl) rfl (fun hg => (Z1 a rfl (Ze hg rfl) (Ze hg rfl) (by (try simp at hg) <;> omega) (by (try simp at hg) <;> omega) (by omega))) ?_
  refine Z0d 0 (wT rfl rfl rfl rfl) rfl rfl (fun hg => (Ze hg rfl)) rfl (fun hg => by (try simp at hg) <;> omega) (fun _ => Z3) ?_
  refine cTM (cTM ?_)
  refine Zc (wT rfl rfl rfl rfl) rfl (fun hg => (Z1 v rfl (Ze hg rfl) (Ze hg rfl) (by (try simp at hg) <;> omega) (by (try simp at hg) <;> omega) (by omega))) ?_
  refine Z0d 0 (wT rfl rfl rfl rfl) rfl rfl (fun hg => (Ze hg rfl)) rfl (fun hg => by (try simp at hg) <;> omega) (fun _ => Z3) ?_
  refine Zc (wT rfl rfl rfl rfl) rfl (fun hg => (Z8 [] rfl (Ze hg rfl) (Zg (Ze hg rfl) (Zg (Ze hg rfl) Z05)) (Z25 _ _) List.nodup_nil)) ?_
  refine Zc (wT rfl rfl rfl rfl) rfl (fun hg => (Zr rfl (Ze hg rfl) rfl rfl)) ?_
  refine ce (Zs rfl rfl rfl (fun h => h)) ?_
  refine .done (qN ?_)
  refine Z2 rfl ?_ ?_
  ·intro hc
   have hle : u ≤ v := by have := Z27 hc; simpa using this
   have hv := Z28 hc
   refine qK (qB (qR (qM ?_)))
   refine qe eL ?_
   refine qA (qN ?_)
   refine ⟨(v - 1), ⟨by omega, by omega, ⟨hJ4.2.2.lo, fun k h1 h2 => by by_cases e : k = v; rw [e]; exact hv; exact hJ4.2.2.hi k (by omega) h2⟩⟩, (by omega), ?_⟩
   exact qp [0] ⟨rfl, (congrArg (fun n => some (iA n)) (by omega)), rfl, rfl, rfl, trivial⟩
  ·intro hc
   have hD : v < u ∨ tLt (z.1.getD a default) (z.1.getD v default) = false := by rcases Bool.and_eq_false_iff.1 hc with h | h; exact .inl (by simpa using h); exact .inr h
   refine qX (qS (qS (qR (qM (qM ?_)))))
   refine qe eI ?_
   refine qN ?_
   refine Z2 rfl ?_ ?_
   ·intro hc
    have hgt : v < u := by simpa using hc
    refine qX (qS (qR (qM (qA (qN (qE ?_))))))
    exact Zf rfl (Z7 rfl Z4) (.cons_cons _ .slnil) (gp (z.1, u) ⟨hJ2.1, (by (try simp only) <;> omega), (by (try simp only) <;> omega), hJ2.2.2.2.2.1, v, (by (try simp only) <;> omega), hJ4.2.2⟩ rfl rfl)
   ·intro hc
    have huv : u ≤ v := by simpa using hc
    have hne : u < v := Z3i (f := fun k => tLt (z.1.getD a default) (z.1.getD k default)) (by omega) (Z2c (hC.resolve_left (by omega))) (hD.resolve_left (by omega))
    refine qK (qS ?_)
    refine Z08 [0, 0, 0, 0, 0, 0, 48, 112, 0, 0, 768, 1792, 4083, 8179, 16383, 32767] [13, 15] [7, 11] rfl (by kernel_rfl) ?_
    refine wM2 (wM2 (wM2 (wM2 (wM2 (wM2 ?_)))))
    refine we (eO v) ?_
    refine wLs 0 ?_
    refine wM2 (wM2 ?_)
    refine we (eO u) ?_
    refine wLs 0 ?_
    refine we (eO u) ?_
    refine Z07 0 rfl (w0 rfl) rfl rfl rfl rfl (by first | omega | (simp; omega)) rfl rfl ?_
    refine we (eO v) ?_
    refine Z07 0 rfl (w0 rfl) rfl rfl rfl rfl (by first | omega | (simp; omega)) rfl rfl ?_
    refine .done (qS (qR (qM ?_)))
    refine qe eP ?_
    refine qA (qN (qR (qM ?_)))
    refine qe eL ?_
    refine qA (qN ?_)
    refine ⟨(swp z.1 u v, u + 1, v - 1), ⟨.step _ _ hJ2.1 (by (try simp only) <;> omega) (by (try simp only) <;> omega) (by (try simp only) <;> omega), (by (try simp only) <;> omega), (by (try simp only) <;> omega), (by (try simp only) <;> omega), (Z2l (by (try simp only) <;> omega) (by (try simp only) <;> omega) (by (try simp only) <;> omega) (by (try simp only) <;> omega)).trans hJ2.2.2.2.2.1, hJ4.2.2.swap (i := u) (j := v) (by (try simp only) <;> omega) (by (try simp only) <;> omega) (by (try simp only) <;> omega) (by (try simp only) <;> omega) (Z2c (hC.resolve_left (by (try simp only) <;> omega))) (hD.resolve_left (by (try simp only) <;> omega))⟩, (by (try simp only) <;> omega), ?_⟩
    exact qp [0] ⟨rfl, (congrArg (fun n => some (iA n)) (by (try simp only) <;> omega)), rfl, rfl, rfl, trivial⟩
theorem Zez (q n : Nat) (l : List Str) (hn : l.length = n) (hN : n ≤ 140737488355328) (a b : Nat) (ha : a < b) (hb : b ≤ n) : ACalls Tryz.prog 144 [.own q 1 0 n, iA a, iA b, .fn (.func 52) []] [(q, .rows 9 1 (l.map fun x => [sA x]))] (GP (fun _ : List Str => mkRes []) (fun m => [(q, .rows 9 1 (m.map fun x => [sA x]))]) (fun m => Sw a b l m)) := by
 refine Zd (n := 34) Tryz.func144 rfl (by decide +kernel) rfl rfl ?_
 refine qS (qR (qM (qA (qN (qS (qR (qM ?_)))))))
 refine qe (Zv (y := iA (b - 1 : Nat)) (eL) (congrArg iA (by omega))) ?_
 refine qA (qN (qB ?_))
 refine Zj (α := List Str × Nat × Nat) (fun z => ⟨[(8, iA z.2.1), (9, iA z.2.2), (0, .own q 1 0 n), (3, .fn (.func 52) [])], [(q, .rows 9 1 (z.1.map fun x => [sA x]))], [], 34⟩) (fun z => Sw a b l z.1 ∧ a ≤ z.2.1 ∧ z.2.2 < b) (fun z => z.2.2 - z.2.1) (l, a, b - 1) ⟨.refl, (by (try simp only) <;> omega), (by (try simp only) <;> omega)⟩ ?_ ?_
 ·exact Zb [0] ⟨rfl, rfl, rfl, rfl, trivial⟩ rfl (by decide) rfl rfl
 rintro z hJ
 have hm := hJ.1.len
 refine qS (qS (qR (qM (qM ?_))))
 refine qe eI ?_
 refine qN ?_
 refine Z2 rfl ?_ ?_
 ·intro hc
  have hlt : z.2.1 < z.2.2 := by simpa using hc
  refine qK (qB (qS ?_))
  refine Z08 [0, 0, 0, 0, 0, 0, 48, 112, 0, 0, 768, 1792, 4083, 8179, 16383, 32767] [13, 15] [7, 11] rfl (by kernel_rfl) ?_
  refine wM2 (wM2 (wM2 (wM2 (wM2 (wM2 ?_)))))
  refine we (Z1 z.2.2 rfl rfl rfl (by omega) (by omega) (by omega)) ?_
  refine wLs 0 ?_
  refine wM2 (wM2 ?_)
  refine we (Z1 z.2.1 rfl rfl rfl (by omega) (by omega) (by omega)) ?_
  refine wLs 0 ?_
  refine we (Z1 z.2.1 rfl rfl rfl (by omega) (by omega) (by omega)) ?_
  refine Z07 0 rfl (w0 rfl) rfl rfl rfl rfl (by first | omega | (simp; omega)) rfl rfl ?_
  refine we (Z1 z.2.2 rfl rfl rfl (by omega) (by omega) (by omega)) ?_
  refine Z07 0 rfl (w0 rfl) rfl rfl rfl rfl (by first | omega | (simp; omega)) rfl rfl ?_
  refine .done (qS (qR (qM ?_)))
  refine qe eP ?_
  refine qA (qN (qR (qM ?_)))
  refine qe eL ?_
  refine qA (qN ?_)
  refine ⟨(swp z.1 z.2.1 z.2.2, z.2.1 + 1, z.2.2 - 1), ⟨.step _ _ hJ.1 (by (try simp only) <;> omega) (by (try simp only) <;> omega) (by (try simp only) <;> omega), (by (try simp only) <;> omega), (by (try simp only) <;> omega)⟩, (by (try simp only) <;> omega), ?_⟩
  exact qp [0] ⟨rfl, (congrArg (fun n => some (iA n)) (by (try simp only) <;> omega)), rfl, rfl, trivial⟩
 ·intro hc
  refine qX ?_
  exact Zf rfl Z4 (.cons_cons _ .slnil) (gp z.1 hJ.1 rfl rfl)
theorem Z5q (q si n : Nat) (l : List Str) (hn : l.length = n) (c : Int) (a b : Nat) (ha : a < n) (hb : b < n) : ACalls Tryz.prog 187 [.own q 1 0 n, iA a, iA b, .ptr si 1 0 0, .fn (.func 52) []] [(q, .rows 9 1 (l.map fun x => [sA x])), (si, .rows 3 1 [[iA c]])] (GP (fun r : Nat × Nat × Int => .tup [iA r.1, iA r.2.1]) (fun r => [(q, .rows 9 1 (l.map fun x => [sA x])), (si, .rows 3 1 [[iA r.2.2]])]) (fun r => (r.1 = a ∧ r.2.1 = b) ∨ (r.1 = b ∧ r.2.1 = a))) := by
 refine Zd (n := 32) Tryz.func187 rfl (by decide +kernel) rfl rfl ?_
 refine qS (qR (qA (qA (qN (qS (qS ?_))))))
 refine Z0j 11 rfl (by kernel_rfl) ?_
 refine cM2 (cM2 (cM2 ?_))
 refine ce (eO b) ?_
 refine Za 0 (w0 rfl) rfl rfl rfl rfl (Z1d (by omega)) Z3 ?_
 refine cM2 (cM2 ?_)
 refine ce (eO a) ?_
 refine Za 0 (w0 rfl) rfl rfl rfl rfl (Z1d (by omega)) Z3 ?_
 refine ce (Z8 [] rfl rfl rfl (Z25 _ _) List.nodup_nil) ?_
 refine ce eI ?_
 refine .done (qN ?_)
 refine Z2 rfl ?_ ?_
 ·intro hc
  refine qS (qR (qM ?_))
  refine qe (Z02 rfl rfl rfl) ?_
  refine qL 1 Z3 ?_
  refine qe (Z9 rfl rfl rfl rfl) ?_
  refine qe (Z02 rfl rfl rfl) ?_
  refine Zw 1 (w0 rfl) rfl rfl rfl rfl rfl rfl rfl rfl rfl ?_
  refine qN (qS (qR (qM (qM (qA (qA (qN (qE ?_))))))))
  exact Zf rfl (Z7 rfl (Z7 rfl Z4)) (.cons_cons _ (.cons_cons _ .slnil)) (gp (b, a, _) (.inr ⟨rfl, rfl⟩) rfl rfl)
 ·intro hc
  refine qK (qS (qR (qM (qM (qA (qA (qN (qE ?_))))))))
  exact Zf rfl (Z7 rfl (Z7 rfl Z4)) (.cons_cons _ (.cons_cons _ .slnil)) (gp (a, b, _) (.inl ⟨rfl, rfl⟩) rfl rfl)
theorem Z5m (q si n : Nat) (l : List Str) (hn : l.length = n) (hN : n ≤ 140737488355328) (c : Int) (a b d : Nat) (ha : a < n) (hb : b < n) (hd : d < n) : ACalls Tryz.prog 180 [.own q 1 0 n, iA a, iA b, iA d, .ptr si 1 0 0, .fn (.func 52) []] [(q, .rows 9 1 (l.map fun x => [sA x])), (si, .rows 3 1 [[iA c]])] (GP (fun r : Nat × Int => iA r.1) (fun r => [(q, .rows 9 1 (l.map fun x => [sA x])), (si, .rows 3 1 [[iA r.2]])]) (fun r => r.1 = a ∨ r.1 = b ∨ r.1 = d)) := by
 refine Zd (n := 41) Tryz.func180 rfl (by decide +kernel) rfl rfl ?_
 refine qS (qR (qA (qN (qS (qR (qM (qM (qM (qM (qM ?_))))))))))
 refine Z5 [_, _] _ (w0 rfl) rfl rfl rfl rfl (Z0s (k := 0) (j := 0) rfl rfl) (Z5q q si n l hn _ _ _ (by omega) (by omega)) (fun v1 hv1 => ?_)
 refine qM ?_
 refine qe (Zi rfl rfl rfl) ?_
 refine qe (Zi rfl rfl rfl) ?_
 refine qA (qA (qN (qS (qR (qM (qM (qM (qM (qM ?_)))))))))
 refine Z5 [_, _] _ (w0 rfl) rfl rfl rfl rfl (Z0s (k := 0) (j := 0) rfl rfl) (Z5q q si n l hn _ _ _ (by omega) (by omega)) (fun v2 hv2 => ?_)
 refine qM ?_
 refine qe (Zi rfl rfl rfl) ?_
 refine qe (Zi rfl rfl rfl) ?_
 refine qA (qA (qN (qS (qR (qM (qM (qM (qM (qM ?_)))))))))
 refine Z5 [_, _] _ (w0 rfl) rfl rfl rfl rfl (Z0s (k := 0) (j := 0) rfl rfl) (Z5q q si n l hn _ _ _ (by omega) (by omega)) (fun v3 hv3 => ?_)
 refine qM ?_
 refine qe (Zi rfl rfl rfl) ?_
 refine qe (Zi rfl rfl rfl) ?_
 refine qA (qA (qN (qS (qR (qM (qA (qN (qE ?_))))))))
 exact Zf rfl (Z7 rfl Z4) (.cons_cons _ (.cons_cons _ .slnil)) (gp (v3.2.1, _) (by (try simp only) <;> omega) rfl rfl)
theorem Z5j (q si n : Nat) (l : List Str) (hn : l.length = n) (hN : n ≤ 140737488355328) (c : Int) (a : Nat) (h1 : 1 ≤ a) (ha : a + 1 < n) : ACalls Tryz.prog 179 [.own q 1 0 n, iA a, .ptr si 1 0 0, .fn (.func 52) []] [(q, .rows 9 1 (l.map fun x => [sA x])), (si, .rows 3 1 [[iA c]])] (GP (fun r : Nat × Int => iA r.1) (fun r => [(q, .rows 9 1 (l.map fun x => [sA x])), (si, .rows 3 1 [[iA r.2]])]) (fun r => r.1 + 1 = a ∨ r.1 = a ∨ r.1 = a + 1)) := by
 refine Zd (n := 18) Tryz.func179 rfl (by decide +kernel) rfl rfl ?_
 refine qS (qR (qA (qN (qS (qR (qM (qM ?_)))))))
 refine qe (Zv (y := iA (a - 1 : Nat)) (eL) (congrArg iA (by omega))) ?_
 refine qM (qM ?_)
 refine qe eP ?_
 refine qM (qM ?_)
 refine Z5 [_, _] _ (w0 rfl) rfl rfl rfl rfl (Z0s (k := 0) (j := 0) rfl rfl) (Z5m q si n l hn hN _ (a - 1) a (a + 1) (by omega) (by omega) (by omega)) (fun v1 hv1 => ?_)
 refine qA (qN (qE ?_))
 exact Zf rfl (Z7 rfl Z4) (.cons_cons _ (.cons_cons _ .slnil)) (gp (v1.1, _) (by (try simp only) <;> omega) rfl rfl)
theorem Z9j (q n : Nat) (l : List Str) (hn : l.length = n) (hN : n ≤ 140737488355328) (a b : Nat) (hab : a + 12 < b) (hb : b ≤ n) : ACalls Tryz.prog 143 [.own q 1 0 n, iA a, iA b, .fn (.func 52) []] [(q, .rows 9 1 (l.map fun x => [sA x]))] (GP (fun r : Nat × Int => .tup [iA r.1, iA r.2]) (fun r => [(q, .rows 9 1 (l.map fun x => [sA x]))]) (fun r => a ≤ r.1 ∧ r.1 < b)) := by
 refine Zd (n := 63) Tryz.func143 rfl (by decide +kernel) rfl rfl ?_
 refine qS (qR (qA (qA (qN (qS (qR (qM (qM ?_))))))))
 refine qe (Zv (y := iA (b - a : Nat)) (eL) (congrArg iA (by omega))) ?_
 refine qA (qN (qS (qR ?_)))
 refine Zy (w0 rfl) rfl (fun id => Z0b id rfl rfl rfl) (fun id1 => ?_)
 refine qN (qS (qR (qM (qM ?_))))
 refine qe (Zv (y := iA ((b - a) / 4 : Nat)) (Z0r rfl rfl rfl (by decide) (Z0l (b - a) 4 (by omega))) (congrArg iA (Z1p (b - a) 4))) ?_
 refine qe (Z9 rfl rfl rfl (Z1c (by omega))) ?_
 refine qe (Zv (y := iA (a + (b - a) / 4 * 1 : Nat)) (eP) (congrArg iA (by omega))) ?_
 refine qA (qN (qS (qR (qM (qM ?_)))))
 refine qe (Zv (y := iA ((b - a) / 4 : Nat)) (Z0r rfl rfl rfl (by decide) (Z0l (b - a) 4 (by omega))) (congrArg iA (Z1p (b - a) 4))) ?_
 refine qe (Z9 rfl rfl rfl (Z1c (by omega))) ?_
 refine qe (Zv (y := iA (a + (b - a) / 4 * 2 : Nat)) (eP) (congrArg iA (by omega))) ?_
 refine qA (qN (qS (qR (qM (qM ?_)))))
 refine qe (Zv (y := iA ((b - a) / 4 : Nat)) (Z0r rfl rfl rfl (by decide) (Z0l (b - a) 4 (by omega))) (congrArg iA (Z1p (b - a) 4))) ?_
 refine qe (Z9 rfl rfl rfl (Z1c (by omega))) ?_
 refine qe (Zv (y := iA (a + (b - a) / 4 * 3 : Nat)) (eP) (congrArg iA (by omega))) ?_
 refine qA (qN (qS (qS (qR (qM ?_)))))
 refine qe eI ?_
 refine qN ?_
 refine Z2 rfl ?_ ?_
 ·intro hc
  refine qS (qS (qR (qM ?_)))
  refine qe eI ?_
  refine qN ?_
  refine Z2 rfl ?_ ?_
  ·intro hc
   refine qS (qR (qM (qM (qM ?_))))
   refine Z5 [_, _] _ (w0 rfl) rfl rfl rfl rfl (Z0s (k := 1) (j := 0) rfl rfl) (Z5j q _ n l hn hN _ _ (by omega) (by omega)) (fun v2 hv2 => ?_)
   refine qA (qN (qS (qR (qM (qM (qM ?_))))))
   refine Z5 [_, _] _ (w0 rfl) rfl rfl rfl rfl (Z0s (k := 0) (j := 0) rfl rfl) (Z5j q _ n l hn hN _ _ (by omega) (by omega)) (fun v3 hv3 => ?_)
   refine qA (qN (qR (qM (qM (qM ?_)))))
   refine Z5 [_, _] _ (w0 rfl) rfl rfl rfl rfl (Z0s (k := 0) (j := 0) rfl rfl) (Z5j q _ n l hn hN _ _ (by omega) (by omega)) (fun v4 hv4 => ?_)
   refine qA (qN (qR (qM (qM (qM (qM (qM ?_)))))))
   refine Z5 [_, _] _ (w0 rfl) rfl rfl rfl rfl (Z0s (k := 0) (j := 0) rfl rfl) (Z5m q _ n l hn hN _ _ _ _ (by omega) (by omega) (by omega)) (fun v5 hv5 => ?_)
   refine qA (qN (qS (qR ?_)))
   refine qL 1 Z3 ?_
   refine qN (qB (qS (qR ?_)))
   refine qe eI ?_
   refine qA (qN ?_)
   refine Z2 rfl ?_ ?_
   ·intro hc
    refine qS (qR (qM (qA (qA (qN (qE ?_))))))
    exact Zf rfl (Z7 rfl (Z7 rfl Z4)) (.cons_cons _ (.cons _ .slnil)) (gp (v5.1, 1) ⟨(by (try simp only) <;> omega), (by (try simp only) <;> omega)⟩ rfl rfl)
   ·intro hc
    refine qS (qR ?_)
    refine qe eI ?_
    refine qA (qN ?_)
    refine Z2 rfl ?_ ?_
    ·intro hc
     refine qS (qR (qM (qA (qA (qN (qE ?_))))))
     exact Zf rfl (Z7 rfl (Z7 rfl Z4)) (.cons_cons _ (.cons _ .slnil)) (gp (v5.1, 2) ⟨(by (try simp only) <;> omega), (by (try simp only) <;> omega)⟩ rfl rfl)
    ·intro hc
     refine qS (qR (qM (qA (qA (qN (qE ?_))))))
     exact Zf rfl (Z7 rfl (Z7 rfl Z4)) (.cons_cons _ (.cons _ .slnil)) (gp (v5.1, 0) ⟨(by (try simp only) <;> omega), (by (try simp only) <;> omega)⟩ rfl rfl)
  ·intro hc
   refine qK (qR (qM (qM (qM (qM (qM ?_))))))
   refine Z5 [_, _] _ (w0 rfl) rfl rfl rfl rfl (Z0s (k := 1) (j := 0) rfl rfl) (Z5m q _ n l hn hN _ _ _ _ (by omega) (by omega) (by omega)) (fun v6 hv6 => ?_)
   refine qA (qN (qS (qR ?_)))
   refine qL 1 Z3 ?_
   refine qN (qB (qS (qR ?_)))
   refine qe eI ?_
   refine qA (qN ?_)
   refine Z2 rfl ?_ ?_
   ·intro hc
    refine qS (qR (qM (qA (qA (qN (qE ?_))))))
    exact Zf rfl (Z7 rfl (Z7 rfl Z4)) (.cons_cons _ (.cons _ .slnil)) (gp (v6.1, 1) ⟨(by (try simp only) <;> omega), (by (try simp only) <;> omega)⟩ rfl rfl)
   ·intro hc
    refine qS (qR ?_)
    refine qe eI ?_
    refine qA (qN ?_)
    refine Z2 rfl ?_ ?_
    ·intro hc
     refine qS (qR (qM (qA (qA (qN (qE ?_))))))
     exact Zf rfl (Z7 rfl (Z7 rfl Z4)) (.cons_cons _ (.cons _ .slnil)) (gp (v6.1, 2) ⟨(by (try simp only) <;> omega), (by (try simp only) <;> omega)⟩ rfl rfl)
    ·intro hc
     refine qS (qR (qM (qA (qA (qN (qE ?_))))))
     exact Zf rfl (Z7 rfl (Z7 rfl Z4)) (.cons_cons _ (.cons _ .slnil)) (gp (v6.1, 0) ⟨(by (try simp only) <;> omega), (by (try simp only) <;> omega)⟩ rfl rfl)
 ·intro hc
  exfalso; simp at hc; omega
theorem Z3q (q n : Nat) (l : List Str) (hn : l.length = n) (hN : n ≤ 140737488355328) (a b : Nat) (ha : a < b) (hb : b ≤ n) (hbd : Bd tLt a b l) : ACalls Tryz.prog 145 [.own q 1 0 n, iA a, iA b, .fn (.func 52) []] [(q, .rows 9 1 (l.map fun x => [sA x]))] (GP (fun r : List Str × Bool => bA r.2) (fun r => [(q, .rows 9 1 (r.1.map fun x => [sA x]))]) (fun r => Sw a b l r.1 ∧ (r.2 = true → SAdj tLt a b r.1))) := by
 refine Zd (n := 141) Tryz.func145 rfl (by decide +kernel) rfl rfl ?_
 refine qS (qR (qA (qN (qS (qR (qM ?_))))))
 refine qe eP ?_
 refine qA (qN (qS (qS (qR (qA (qN (qB ?_)))))))
 refine Zj (α := List Str × Nat × Nat) (fun x => ⟨[(10, iA x.2.2), (9, iA x.2.1), (0, .own q 1 0 n), (1, iA a), (2, iA b), (3, .fn (.func 52) [])], [(q, .rows 9 1 (x.1.map fun x => [sA x]))], [], 141⟩) (fun x => Sw a b l x.1 ∧ a + 1 ≤ x.2.1 ∧ x.2.1 ≤ b ∧ x.2.2 ≤ 5 ∧ SAdj tLt a x.2.1 x.1) (fun x => 5 - x.2.2) (l, a + 1, 0) ⟨.refl, (by (try simp only) <;> omega), (by (try simp only) <;> omega), (by (try simp only) <;> omega), SAdj.refl1 (by (try simp only) <;> omega)⟩ ?_ ?_
 ·exact Zb [0] ⟨rfl, rfl, rfl, rfl, rfl, rfl, trivial⟩ rfl (by decide) rfl rfl
 rintro x hJ
 have hm := hJ.1.len
 refine qS (qS (qR (qM ?_)))
 refine qe eI ?_
 refine qN ?_
 refine Z2 rfl ?_ ?_
 ·intro hc
  have hx5 : x.2.2 < 5 := by simp at hc; omega
  refine qK (qS (qB (qS (qB ?_))))
  refine Zj (α := Nat) (fun u => ⟨[(9, iA u), (10, iA x.2.2), (0, .own q 1 0 n), (1, iA a), (2, iA b), (3, .fn (.func 52) [])], [(q, .rows 9 1 (x.1.map fun x => [sA x]))], [], 141⟩) (fun u => x.2.1 ≤ u ∧ u ≤ b ∧ SAdj tLt a u x.1) (fun u => b - u) x.2.1 ⟨Nat.le_refl _, hJ.2.2.1, hJ.2.2.2.2⟩ ?_ ?_
  ·exact Zb [0] ⟨rfl, rfl, rfl, rfl, rfl, rfl, trivial⟩ rfl (by decide) rfl rfl
  rintro u hJ1
  refine qS (qS ?_)
  refine Zz [0, 0, 3, 7, 15, 15, 15, 111, 239, 15, 15, 1039, 3599, 7695, 16383, 32767, 65535, 131071] 18 rfl (by kernel_rfl) ?_
  refine cM2 (cM2 ?_)
  refine ce eI ?_
  refine cM2 (cTM (cTM (cTM ?_)))
  refine Zc (wT rfl rfl rfl rfl) rfl (fun hg => (Z1 u rfl (Ze hg rfl) (Ze hg rfl) (by (try simp at hg) <;> omega) (by (try simp at hg) <;> omega) (by omega))) ?_
  refine Z0d 0 (wT rfl rfl rfl rfl) rfl rfl (fun hg => (Ze hg rfl)) rfl (fun hg => by (try simp at hg) <;> omega) (fun _ => Z3) ?_
  refine cTM (cTM ?_)
  refine Zc (wT rfl rfl rfl rfl) rfl (fun hg => (Z9 rfl (Ze hg rfl) rfl (Z0c (by omega)))) ?_
  refine Zc (wT rfl rfl rfl rfl) rfl (fun hg => (Z1 (u - 1) rfl (Ze hg rfl) (Ze hg rfl) (by (try simp at hg) <;> omega) (by (try simp at hg) <;> omega) (by omega))) ?_
  refine Z0d 0 (wT rfl rfl rfl rfl) rfl rfl (fun hg => (Ze hg rfl)) rfl (fun hg => by (try simp at hg) <;> omega) (fun _ => Z3) ?_
  refine Zc (wT rfl rfl rfl rfl) rfl (fun hg => (Z8 [] rfl (Ze hg rfl) (Zg (Ze hg rfl) (Zg (Ze hg rfl) Z05)) (Z25 _ _) List.nodup_nil)) ?_
  refine Zc (wT rfl rfl rfl rfl) rfl (fun hg => (Zr rfl (Ze hg rfl) rfl rfl)) ?_
  refine Zc (wT rfl rfl rfl rfl) rfl (fun hg => (Z03 rfl (Ze hg rfl))) ?_
  refine ce (Zs rfl rfl rfl (fun h => h)) ?_
  refine .done (qN ?_)
  refine Z2 rfl ?_ ?_
  ·intro hc
   have hle : u < b := by have := Z27 hc; simpa using this
   have hv := Z28 hc
   refine qK (qB (qR (qM ?_)))
   refine qe eP ?_
   refine qA (qN ?_)
   refine ⟨(u + 1), ⟨by omega, by omega, hJ1.2.2.succ (Z1u hv)⟩, (by omega), ?_⟩
   exact qp [0] ⟨rfl, rfl, rfl, rfl, rfl, rfl, trivial⟩
  ·intro hc
   refine qX (qS (qS (qR (qM (qM ?_)))))
   refine qe eI ?_
   refine qN ?_
   refine Z2 rfl ?_ ?_
   ·intro hc
    have heq : u = b := by simp at hc; omega
    refine qS (qR (qA (qN (qE ?_))))
    exact Zf rfl (Z7 rfl Z4) (.cons_cons _ .slnil) (gp (x.1, true) ⟨hJ.1, fun _ => heq ▸ hJ1.2.2⟩ rfl rfl)
   ·intro hc
    have hne : u < b := by simp at hc; omega
    refine qK (qS (qS (qR (qM (qM ?_)))))
    refine qe eL ?_
    refine qe eI ?_
    refine qN ?_
    refine Z2 rfl ?_ ?_
    ·intro hc
     refine qS (qR (qA (qN (qE ?_))))
     exact Zf rfl (Z7 rfl Z4) (.cons_cons _ .slnil) (gp (x.1, false) ⟨hJ.1, nofun⟩ rfl rfl)
    ·intro hc
     refine qK (qS ?_)
     refine Z08 [0, 0, 0, 0, 8, 0, 0, 64, 224, 480, 0, 0, 3072, 7168, 16355, 32739, 65535, 131071] [15, 17] [9, 13] rfl (by kernel_rfl) ?_
     refine wM2 (wM2 (wM2 (wM2 ?_)))
     refine we eL ?_
     refine wM2 (wM2 ?_)
     refine we eL ?_
     refine we (eO (u - 1)) ?_
     refine wLs 0 ?_
     refine wM2 (wM2 ?_)
     refine we (eO u) ?_
     refine wLs 0 ?_
     refine we (eO u) ?_
     refine Z07 0 rfl (w0 rfl) rfl rfl rfl rfl (by first | omega | (simp; omega)) rfl rfl ?_
     refine we (eO (u - 1)) ?_
     refine Z07 0 rfl (w0 rfl) rfl rfl rfl rfl (by first | omega | (simp; omega)) rfl rfl ?_
     refine .done (qS (qS (qR (qM (qM ?_)))))
     refine qe eL ?_
     refine qe eI ?_
     refine qN ?_
     refine Z2 rfl ?_ ?_
     ·intro hc
      have hsw : Sw a b l (swp x.1 u (u - 1)) := .step _ _ hJ.1 (by omega) (by omega) (by omega)
      have hu2 : a + 2 ≤ u := by simp at hc; omega
      have hs0 : SAdj tLt a (u - 1) (swp x.1 u (u - 1)) := (hJ1.2.2.le (by omega)).swp_ge (by omega) (by omega) (by omega) (by omega)
      refine qS (qR (qM ?_))
      refine qe (Zv (y := iA (u - 1 : Nat)) (eL) (congrArg iA (by omega))) ?_
      refine qA (qN (qB ?_))
      refine Zj (α := List Str × Nat) (fun y => ⟨[(11, iA y.2), (9, iA u), (10, iA x.2.2), (0, .own q 1 0 n), (1, iA a), (2, iA b), (3, .fn (.func 52) [])], [(q, .rows 9 1 (y.1.map fun x => [sA x]))], [], 141⟩) (fun y => Sw a b l y.1 ∧ a ≤ y.2 ∧ y.2 ≤ u - 1 ∧ Ins tLt a y.2 (u - 1) y.1) (fun y => y.2) ((swp x.1 u (u - 1)), u - 1) ⟨hsw, (by (try simp only) <;> omega), (by (try simp only) <;> omega), Ins.start hs0⟩ ?_ ?_
      ·exact Zb [0] ⟨rfl, rfl, rfl, rfl, rfl, rfl, rfl, trivial⟩ rfl (by decide) rfl rfl
      rintro y hJ3
      have hm3 := hJ3.1.len
      refine qS (qS (qR (qM ?_)))
      refine qe eI ?_
      refine qN ?_
      refine Z2 rfl ?_ ?_
      ·intro hc
       have hy1 : 1 ≤ y.2 := by simp at hc; omega
       refine qK (qS (qB (qS (qS ?_))))
       refine Zz [0, 0, 0, 6, 14, 0, 0, 64, 224, 480, 1023, 2047, 4095] 13 rfl (by kernel_rfl) ?_
       refine cM2 (cM2 (cM2 ?_))
       refine ce (Z1 y.2 rfl rfl rfl (by omega) (by omega) (by omega)) ?_
       refine Za 0 (w0 rfl) rfl rfl rfl rfl (Z1d (by omega)) Z3 ?_
       refine cM2 (cM2 ?_)
       refine ce eL ?_
       refine ce (eO (y.2 - 1)) ?_
       refine Za 0 (w0 rfl) rfl rfl rfl rfl (Z1d (by omega)) Z3 ?_
       refine ce (Z8 [] rfl rfl rfl (Z25 _ _) List.nodup_nil) ?_
       refine ce eI ?_
       refine ce (Z03 rfl rfl) ?_
       refine .done (qN ?_)
       refine Z2 rfl ?_ ?_
       ·intro hc
        have hsw := hJ3.1
        have hsa : SAdj tLt a u y.1 := (hJ3.2.2.2.done (.inr (Z1u hc))).le (by omega)
        refine qX (qS (qR (qM (qM ?_))))
        refine qe eL ?_
        refine qe eI ?_
        refine qN ?_
        refine Z2 rfl ?_ ?_
        ·intro hc
         have hu3 : u + 2 ≤ b := by simp at hc; omega
         refine qS (qR (qM ?_))
         refine qe eP ?_
         refine qA (qN (qB ?_))
         refine Zj (α := List Str × Nat) (fun w => ⟨[(12, iA w.2), (9, iA u), (10, iA x.2.2), (0, .own q 1 0 n), (1, iA a), (2, iA b), (3, .fn (.func 52) [])], [(q, .rows 9 1 (w.1.map fun x => [sA x]))], [], 141⟩) (fun w => Sw a b l w.1 ∧ u + 1 ≤ w.2 ∧ w.2 ≤ b ∧ SAdj tLt a u w.1) (fun w => b - w.2) (y.1, u + 1) ⟨hsw, (by (try simp only) <;> omega), (by (try simp only) <;> omega), hsa⟩ ?_ ?_
         ·exact Zb [0] ⟨rfl, rfl, rfl, rfl, rfl, rfl, rfl, trivial⟩ rfl (by decide) rfl rfl
         rintro w hJ4
         have hm4 := hJ4.1.len
         refine qS (qS (qR (qM (qM ?_))))
         refine qe eI ?_
         refine qN ?_
         refine Z2 rfl ?_ ?_
         ·intro hc
          have hw1 : w.2 < b := by simpa using hc
          refine qK (qS (qB (qS (qS ?_))))
          refine Zz [0, 0, 0, 6, 14, 0, 0, 64, 224, 480, 1023, 2047, 4095] 13 rfl (by kernel_rfl) ?_
          refine cM2 (cM2 (cM2 ?_))
          refine ce (Z1 w.2 rfl rfl rfl (by omega) (by omega) (by omega)) ?_
          refine Za 0 (w0 rfl) rfl rfl rfl rfl (Z1d (by omega)) Z3 ?_
          refine cM2 (cM2 ?_)
          refine ce eL ?_
          refine ce (eO (w.2 - 1)) ?_
          refine Za 0 (w0 rfl) rfl rfl rfl rfl (Z1d (by omega)) Z3 ?_
          refine ce (Z8 [] rfl rfl rfl (Z25 _ _) List.nodup_nil) ?_
          refine ce eI ?_
          refine ce (Z03 rfl rfl) ?_
          refine .done (qN ?_)
          refine Z2 rfl ?_ ?_
          ·intro hc
           have hsw := hJ4.1
           have hsa := hJ4.2.2.2
           refine qX (qR (qM ?_))
           refine qe eP ?_
           refine qA (qN ?_)
           refine ⟨(w.1, u, x.2.2 + 1), ⟨hsw, (by (try simp only) <;> omega), (by (try simp only) <;> omega), (by (try simp only) <;> omega), hsa⟩, (by (try simp only) <;> omega), ?_⟩
           exact qp [0] ⟨rfl, rfl, rfl, rfl, rfl, rfl, trivial⟩
          ·intro hc
           refine qK ?_
           refine Z08 [0, 0, 0, 0, 8, 0, 0, 64, 224, 480, 0, 0, 3072, 7168, 16355, 32739, 65535, 131071] [15, 17] [9, 13] rfl (by kernel_rfl) ?_
           refine wM2 (wM2 (wM2 (wM2 ?_)))
           refine we eL ?_
           refine wM2 (wM2 ?_)
           refine we eL ?_
           refine we (eO (w.2 - 1)) ?_
           refine wLs 0 ?_
           refine wM2 (wM2 ?_)
           refine we (Z1 w.2 rfl rfl rfl (by omega) (by omega) (by omega)) ?_
           refine wLs 0 ?_
           refine we (Z1 w.2 rfl rfl rfl (by omega) (by omega) (by omega)) ?_
           refine Z07 0 rfl (w0 rfl) rfl rfl rfl rfl (by first | omega | (simp; omega)) rfl rfl ?_
           refine we (eO (w.2 - 1)) ?_
           refine Z07 0 rfl (w0 rfl) rfl rfl rfl rfl (by first | omega | (simp; omega)) rfl rfl ?_
           refine .done (qR (qM ?_))
           refine qe eP ?_
           refine qA (qN ?_)
           refine ⟨(swp w.1 w.2 (w.2 - 1), w.2 + 1), ⟨.step _ _ hJ4.1 (by (try simp only) <;> omega) (by (try simp only) <;> omega) (by (try simp only) <;> omega), (by (try simp only) <;> omega), (by (try simp only) <;> omega), hJ4.2.2.2.swp_ge (by (try simp only) <;> omega) (by (try simp only) <;> omega) (by (try simp only) <;> omega) (by (try simp only) <;> omega)⟩, (by (try simp only) <;> omega), ?_⟩
           exact qp [0] ⟨rfl, rfl, rfl, rfl, rfl, rfl, rfl, trivial⟩
         ·intro hc
          have hsw := hJ4.1
          have hsa := hJ4.2.2.2
          refine qX (qR (qM ?_))
          refine qe eP ?_
          refine qA (qN ?_)
          refine ⟨(w.1, u, x.2.2 + 1), ⟨hsw, (by (try simp only) <;> omega), (by (try simp only) <;> omega), (by (try simp only) <;> omega), hsa⟩, (by (try simp only) <;> omega), ?_⟩
          exact qp [0] ⟨rfl, rfl, rfl, rfl, rfl, rfl, trivial⟩
        ·intro hc
         refine qK (qR (qM ?_))
         refine qe eP ?_
         refine qA (qN ?_)
         refine ⟨(y.1, u, x.2.2 + 1), ⟨hsw, (by (try simp only) <;> omega), (by (try simp only) <;> omega), (by (try simp only) <;> omega), hsa⟩, (by (try simp only) <;> omega), ?_⟩
         exact qp [0] ⟨rfl, rfl, rfl, rfl, rfl, rfl, trivial⟩
       ·intro hc
        have hlt := Z2c hc
        have hgt := (hbd.sw hJ3.1).gt (j := y.2) (by omega) (by omega) hy1 hlt
        refine qK ?_
        refine Z08 [0, 0, 0, 0, 8, 0, 0, 64, 224, 480, 0, 0, 3072, 7168, 16355, 32739, 65535, 131071] [15, 17] [9, 13] rfl (by kernel_rfl) ?_
        refine wM2 (wM2 (wM2 (wM2 ?_)))
        refine we eL ?_
        refine wM2 (wM2 ?_)
        refine we eL ?_
        refine we (eO (y.2 - 1)) ?_
        refine wLs 0 ?_
        refine wM2 (wM2 ?_)
        refine we (Z1 y.2 rfl rfl rfl (by omega) (by omega) (by omega)) ?_
        refine wLs 0 ?_
        refine we (Z1 y.2 rfl rfl rfl (by omega) (by omega) (by omega)) ?_
        refine Z07 0 rfl (w0 rfl) rfl rfl rfl rfl (by first | omega | (simp; omega)) rfl rfl ?_
        refine we (eO (y.2 - 1)) ?_
        refine Z07 0 rfl (w0 rfl) rfl rfl rfl rfl (by first | omega | (simp; omega)) rfl rfl ?_
        refine .done (qR (qM ?_))
        refine qe eL ?_
        refine qA (qN ?_)
        refine ⟨(swp y.1 y.2 (y.2 - 1), y.2 - 1), ⟨.step _ _ hJ3.1 (by (try simp only) <;> omega) (by (try simp only) <;> omega) (by (try simp only) <;> omega), (by (try simp only) <;> omega), (by (try simp only) <;> omega), hJ3.2.2.2.step tLtT.ok hgt (by (try simp only) <;> omega) (by (try simp only) <;> omega) hlt⟩, (by (try simp only) <;> omega), ?_⟩
        exact qp [0] ⟨(congrArg (fun n => some (iA n)) (by (try simp only) <;> omega)), rfl, rfl, rfl, rfl, rfl, rfl, trivial⟩
      ·intro hc
       have hy0 : y.2 = 0 := by simp at hc; omega
       have hsw := hJ3.1
       have hsa : SAdj tLt a u y.1 := (hJ3.2.2.2.done (.inl (by omega))).le (by omega)
       refine qX (qS (qR (qM (qM ?_))))
       refine qe eL ?_
       refine qe eI ?_
       refine qN ?_
       refine Z2 rfl ?_ ?_
       ·intro hc
        have hu3 : u + 2 ≤ b := by simp at hc; omega
        refine qS (qR (qM ?_))
        refine qe eP ?_
        refine qA (qN (qB ?_))
        refine Zj (α := List Str × Nat) (fun w => ⟨[(12, iA w.2), (9, iA u), (10, iA x.2.2), (0, .own q 1 0 n), (1, iA a), (2, iA b), (3, .fn (.func 52) [])], [(q, .rows 9 1 (w.1.map fun x => [sA x]))], [], 141⟩) (fun w => Sw a b l w.1 ∧ u + 1 ≤ w.2 ∧ w.2 ≤ b ∧ SAdj tLt a u w.1) (fun w => b - w.2) (y.1, u + 1) ⟨hsw, (by (try simp only) <;> omega), (by (try simp only) <;> omega), hsa⟩ ?_ ?_
        ·exact Zb [0] ⟨rfl, rfl, rfl, rfl, rfl, rfl, rfl, trivial⟩ rfl (by decide) rfl rfl
        rintro w hJ4
        have hm4 := hJ4.1.len
        refine qS (qS (qR (qM (qM ?_))))
        refine qe eI ?_
        refine qN ?_
        refine Z2 rfl ?_ ?_
        ·intro hc
         have hw1 : w.2 < b := by simpa using hc
         refine qK (qS (qB (qS (qS ?_))))
         refine Zz [0, 0, 0, 6, 14, 0, 0, 64, 224, 480, 1023, 2047, 4095] 13 rfl (by kernel_rfl) ?_
         refine cM2 (cM2 (cM2 ?_))
         refine ce (Z1 w.2 rfl rfl rfl (by omega) (by omega) (by omega)) ?_
         refine Za 0 (w0 rfl) rfl rfl rfl rfl (Z1d (by omega)) Z3 ?_
         refine cM2 (cM2 ?_)
         refine ce eL ?_
         refine ce (eO (w.2 - 1)) ?_
         refine Za 0 (w0 rfl) rfl rfl rfl rfl (Z1d (by omega)) Z3 ?_
         refine ce (Z8 [] rfl rfl rfl (Z25 _ _) List.nodup_nil) ?_
         refine ce eI ?_
         refine ce (Z03 rfl rfl) ?_
         refine .done (qN ?_)
         refine Z2 rfl ?_ ?_
         ·intro hc
          have hsw := hJ4.1
          have hsa := hJ4.2.2.2
          refine qX (qR (qM ?_))
          refine qe eP ?_
          refine qA (qN ?_)
          refine ⟨(w.1, u, x.2.2 + 1), ⟨hsw, (by (try simp only) <;> omega), (by (try simp only) <;> omega), (by (try simp only) <;> omega), hsa⟩, (by (try simp only) <;> omega), ?_⟩
          exact qp [0] ⟨rfl, rfl, rfl, rfl, rfl, rfl, trivial⟩
         ·intro hc
          refine qK ?_
          refine Z08 [0, 0, 0, 0, 8, 0, 0, 64, 224, 480, 0, 0, 3072, 7168, 16355, 32739, 65535, 131071] [15, 17] [9, 13] rfl (by kernel_rfl) ?_
          refine wM2 (wM2 (wM2 (wM2 ?_)))
          refine we eL ?_
          refine wM2 (wM2 ?_)
          refine we eL ?_
          refine we (eO (w.2 - 1)) ?_
          refine wLs 0 ?_
          refine wM2 (wM2 ?_)
          refine we (Z1 w.2 rfl rfl rfl (by omega) (by omega) (by omega)) ?_
          refine wLs 0 ?_
          refine we (Z1 w.2 rfl rfl rfl (by omega) (by omega) (by omega)) ?_
          refine Z07 0 rfl (w0 rfl) rfl rfl rfl rfl (by first | omega | (simp; omega)) rfl rfl ?_
          refine we (eO (w.2 - 1)) ?_
          refine Z07 0 rfl (w0 rfl) rfl rfl rfl rfl (by first | omega | (simp; omega)) rfl rfl ?_
          refine .done (qR (qM ?_))
          refine qe eP ?_
          refine qA (qN ?_)
          refine ⟨(swp w.1 w.2 (w.2 - 1), w.2 + 1), ⟨.step _ _ hJ4.1 (by (try simp only) <;> omega) (by (try simp only) <;> omega) (by (try simp only) <;> omega), (by (try simp only) <;> omega), (by (try simp only) <;> omega), hJ4.2.2.2.swp_ge (by (try simp only) <;> omega) (by (try simp only) <;> omega) (by (try simp only) <;> omega) (by (try simp only) <;> omega)⟩, (by (try simp only) <;> omega), ?_⟩
          exact qp [0] ⟨rfl, rfl, rfl, rfl, rfl, rfl, rfl, trivial⟩
        ·intro hc
         have hsw := hJ4.1
         have hsa := hJ4.2.2.2
         refine qX (qR (qM ?_))
         refine qe eP ?_
         refine qA (qN ?_)
         refine ⟨(w.1, u, x.2.2 + 1), ⟨hsw, (by (try simp only) <;> omega), (by (try simp only) <;> omega), (by (try simp only) <;> omega), hsa⟩, (by (try simp only) <;> omega), ?_⟩
         exact qp [0] ⟨rfl, rfl, rfl, rfl, rfl, rfl, trivial⟩
       ·intro hc
        refine qK (qR (qM ?_))
        refine qe eP ?_
        refine qA (qN ?_)
        refine ⟨(y.1, u, x.2.2 + 1), ⟨hsw, (by (try simp only) <;> omega), (by (try simp only) <;> omega), (by (try simp only) <;> omega), hsa⟩, (by (try simp only) <;> omega), ?_⟩
        exact qp [0] ⟨rfl, rfl, rfl, rfl, rfl, rfl, trivial⟩
     ·intro hc
      have hsw : Sw a b l (swp x.1 u (u - 1)) := .step _ _ hJ.1 (by omega) (by omega) (by omega)
      have hu2 : u = a + 1 := by simp at hc; omega
      have hsa : SAdj tLt a u (swp x.1 u (u - 1)) := SAdj.refl1 (by omega)
      refine qK (qS (qR (qM (qM ?_))))
      refine qe eL ?_
      refine qe eI ?_
      refine qN ?_
      refine Z2 rfl ?_ ?_
      ·intro hc
       have hu3 : u + 2 ≤ b := by simp at hc; omega
       refine qS (qR (qM ?_))
       refine qe eP ?_
       refine qA (qN (qB ?_))
       refine Zj (α := List Str × Nat) (fun w => ⟨[(12, iA w.2), (9, iA u), (10, iA x.2.2), (0, .own q 1 0 n), (1, iA a), (2, iA b), (3, .fn (.func 52) [])], [(q, .rows 9 1 (w.1.map fun x => [sA x]))], [], 141⟩) (fun w => Sw a b l w.1 ∧ u + 1 ≤ w.2 ∧ w.2 ≤ b ∧ SAdj tLt a u w.1) (fun w => b - w.2) ((swp x.1 u (u - 1)), u + 1) ⟨hsw, (by (try simp only) <;> omega), (by (try simp only) <;> omega), hsa⟩ ?_ ?_
       ·exact Zb [0] ⟨rfl, rfl, rfl, rfl, rfl, rfl, rfl, trivial⟩ rfl (by decide) rfl rfl
       rintro w hJ4
       have hm4 := hJ4.1.len
       refine qS (qS (qR (qM (qM ?_))))
       refine qe eI ?_
       refine qN ?_
       refine Z2 rfl ?_ ?_
       ·intro hc
        have hw1 : w.2 < b := by simpa using hc
        refine qK (qS (qB (qS (qS ?_))))
        refine Zz [0, 0, 0, 6, 14, 0, 0, 64, 224, 480, 1023, 2047, 4095] 13 rfl (by kernel_rfl) ?_
        refine cM2 (cM2 (cM2 ?_))
        refine ce (Z1 w.2 rfl rfl rfl (by omega) (by omega) (by omega)) ?_
        refine Za 0 (w0 rfl) rfl rfl rfl rfl (Z1d (by omega)) Z3 ?_
        refine cM2 (cM2 ?_)
        refine ce eL ?_
        refine ce (eO (w.2 - 1)) ?_
        refine Za 0 (w0 rfl) rfl rfl rfl rfl (Z1d (by omega)) Z3 ?_
        refine ce (Z8 [] rfl rfl rfl (Z25 _ _) List.nodup_nil) ?_
        refine ce eI ?_
        refine ce (Z03 rfl rfl) ?_
        refine .done (qN ?_)
        refine Z2 rfl ?_ ?_
        ·intro hc
         have hsw := hJ4.1
         have hsa := hJ4.2.2.2
         refine qX (qR (qM ?_))
         refine qe eP ?_
         refine qA (qN ?_)
         refine ⟨(w.1, u, x.2.2 + 1), ⟨hsw, (by (try simp only) <;> omega), (by (try simp only) <;> omega), (by (try simp only) <;> omega), hsa⟩, (by (try simp only) <;> omega), ?_⟩
         exact qp [0] ⟨rfl, rfl, rfl, rfl, rfl, rfl, trivial⟩
        ·intro hc
         refine qK ?_
         refine Z08 [0, 0, 0, 0, 8, 0, 0, 64, 224, 480, 0, 0, 3072, 7168, 16355, 32739, 65535, 131071] [15, 17] [9, 13] rfl (by kernel_rfl) ?_
         refine wM2 (wM2 (wM2 (wM2 ?_)))
         refine we eL ?_
         refine wM2 (wM2 ?_)
         refine we eL ?_
         refine we (eO (w.2 - 1)) ?_
         refine wLs 0 ?_
         refine wM2 (wM2 ?_)
         refine we (Z1 w.2 rfl rfl rfl (by omega) (by omega) (by omega)) ?_
         refine wLs 0 ?_
         refine we (Z1 w.2 rfl rfl rfl (by omega) (by omega) (by omega)) ?_
         refine Z07 0 rfl (w0 rfl) rfl rfl rfl rfl (by first | omega | (simp; omega)) rfl rfl ?_
         refine we (eO (w.2 - 1)) ?_
         refine Z07 0 rfl (w0 rfl) rfl rfl rfl rfl (by first | omega | (simp; omega)) rfl rfl ?_
         refine .done (qR (qM ?_))
         refine qe eP ?_
         refine qA (qN ?_)
         refine ⟨(swp w.1 w.2 (w.2 - 1), w.2 + 1), ⟨.step _ _ hJ4.1 (by (try simp only) <;> omega) (by (try simp only) <;> omega) (by (try simp only) <;> omega), (by (try simp only) <;> omega), (by (try simp only) <;> omega), hJ4.2.2.2.swp_ge (by (try simp only) <;> omega) (by (try simp only) <;> omega) (by (try simp only) <;> omega) (by (try simp only) <;> omega)⟩, (by (try simp only) <;> omega), ?_⟩
         exact qp [0] ⟨rfl, rfl, rfl, rfl, rfl, rfl, rfl, trivial⟩
       ·intro hc
        have hsw := hJ4.1
        have hsa := hJ4.2.2.2
        refine qX (qR (qM ?_))
        refine qe eP ?_
        refine qA (qN ?_)
        refine ⟨(w.1, u, x.2.2 + 1), ⟨hsw, (by (try simp only) <;> omega), (by (try simp only) <;> omega), (by (try simp only) <;> omega), hsa⟩, (by (try simp only) <;> omega), ?_⟩
        exact qp [0] ⟨rfl, rfl, rfl, rfl, rfl, rfl, trivial⟩
      ·intro hc
       refine qK (qR (qM ?_))
       refine qe eP ?_
       refine qA (qN ?_)
       refine ⟨((swp x.1 u (u - 1)), u, x.2.2 + 1), ⟨hsw, (by (try simp only) <;> omega), (by (try simp only) <;> omega), (by (try simp only) <;> omega), hsa⟩, (by (try simp only) <;> omega), ?_⟩
       exact qp [0] ⟨rfl, rfl, rfl, rfl, rfl, rfl, trivial⟩
 ·intro hc
  refine qX (qS (qR (qA (qN (qE ?_)))))
  exact Zf rfl (Z7 rfl Z4) (.cons_cons _ .slnil) (gp (x.1, false) ⟨hJ.1, nofun⟩ rfl rfl)
theorem Zfp (x : Nat) (hx : x < 18446744073709551616) : ACalls Tryz.prog 149 [xA x] [] (GSome (fun k : Nat => iA k) (fun k => k ≤ 64 ∧ (0 < x → 2 ^ k ≤ 2 * x))) := by
 refine Zd (n := 25) Tryz.func149 rfl (by decide +kernel) rfl rfl ?_
 refine qS (qR ?_)
 refine qe (Zv (y := iA (0 : Nat)) (Z0y rfl rfl) (rfl)) ?_
 refine qN (qS (qS (qR (qM ?_))))
 refine qe eI ?_
 refine qN ?_
 refine Z2 rfl ?_ ?_
 ·intro hc
  refine qS (qR (qM ?_))
  refine qe (Zv (y := xA (x / 2 ^ 32 : Nat)) (Z3f rfl rfl rfl (by decide)) (congrArg xA (Zga x 32 (by decide)))) ?_
  refine qA (qN (qR ?_))
  refine qe (Zv (y := iA (32 : Nat)) (Z0y rfl rfl) (rfl)) ?_
  refine qN (qS (qS ?_))
  refine Z0h 0 rfl (fun y1 hy1 => ?_)
  refine Z0h 2 rfl (fun n1 hn1 => ?_)
  have j1 : LenJ x y1 n1 := by rw [hy1, hn1]; exact LenJ.shr (LenJ.start x) 32 (by have := hc; simp at this; omega)
  have b1 : y1 < 4294967296 := by rw [hy1]; simp at hc; omega
  have e1 : n1 ≤ 32 := by rw [hn1]; omega
  refine qR (qM ?_)
  refine qe eI ?_
  refine qN ?_
  refine Z2 rfl ?_ ?_
  ·intro hc
   refine qS (qR (qM ?_))
   refine qe (Zv (y := xA (y1 / 2 ^ 16 : Nat)) (Z3f rfl rfl rfl (by decide)) (congrArg xA (Zga y1 16 (by decide)))) ?_
   refine qA (qN (qR (qM ?_)))
   refine qe (Zv (y := iA (n1 + 16 : Nat)) (eP) (congrArg iA (by omega))) ?_
   refine qA (qN (qS (qS ?_)))
   refine Z0h 0 rfl (fun y2 hy2 => ?_)
   refine Z0h 2 rfl (fun n2 hn2 => ?_)
   have j2 : LenJ x y2 n2 := by rw [hy2, hn2]; exact LenJ.shr j1 16 (by have := hc; simp at this; omega)
   have b2 : y2 < 65536 := by rw [hy2]; simp at hc; omega
   have e2 : n2 ≤ 48 := by rw [hn2]; omega
   refine qR (qM ?_)
   refine qe eI ?_
   refine qN ?_
   refine Z2 rfl ?_ ?_
   ·intro hc
    refine qS (qR (qM ?_))
    refine qe (Zv (y := xA (y2 / 2 ^ 8 : Nat)) (Z3f rfl rfl rfl (by decide)) (congrArg xA (Zga y2 8 (by decide)))) ?_
    refine qA (qN (qR (qM ?_)))
    refine qe (Zv (y := iA (n2 + 8 : Nat)) (eP) (congrArg iA (by omega))) ?_
    refine qA (qN (qS ?_))
    refine Z0h 0 rfl (fun y3 hy3 => ?_)
    refine Z0h 2 rfl (fun n3 hn3 => ?_)
    have j3 : LenJ x y3 n3 := by rw [hy3, hn3]; exact LenJ.shr j2 8 (by have := hc; simp at this; omega)
    have b3 : y3 < 256 := by rw [hy3]; simp at hc; omega
    have e3 : n3 ≤ 56 := by rw [hn3]; omega
    refine qR (qM (qM ?_))
    refine qe (Zv (y := uA (y3 : Nat)) (Z0i rfl rfl) (congrArg uA (Z3l (by omega)))) ?_
    refine qe (Zv (y := uA (byteAt len8 (y3 : Nat))) (Z18 rfl rfl rfl (by first | (exact Z20 (by decide +kernel) (by omega)) | omega) (by first | (exact Z20 (by decide +kernel) (by omega)) | omega)) (Z2h (by decide +kernel) _)) ?_
    refine qe (Zv (y := iA (byteAt len8 (y3 : Nat))) (Z0i rfl rfl) (congrArg iA (Z1r (by have := Z0u ⟨y3, b3⟩; simp only at this; omega)))) ?_
    refine qe (Z9 rfl rfl rfl (Zn (by (have := Z0u ⟨y3, b3⟩; simp only at this; omega)))) ?_
    refine qA (qN (qE ?_))
    exact Z0p rfl (Z7 rfl Z4) (Z6d (n3 + (byteAt len8 (y3 : Nat)).toNat) ⟨by have := Z0u ⟨y3, b3⟩; simp only at this; omega, fun hx => j3.fin (Z0u ⟨y3, b3⟩).2.2 hx⟩ (congrArg iA (by have := Z0u ⟨y3, b3⟩; simp only at this; omega)))
   ·intro hc
    refine qK (qS ?_)
    refine Z0h 0 rfl (fun y3 hy3 => ?_)
    refine Z0h 2 rfl (fun n3 hn3 => ?_)
    have j3 : LenJ x y3 n3 := by rw [hy3, hn3]; exact j2
    have b3 : y3 < 256 := by rw [hy3]; simp at hc; omega
    have e3 : n3 ≤ 56 := by rw [hn3]; omega
    refine qR (qM (qM ?_))
    refine qe (Zv (y := uA (y3 : Nat)) (Z0i rfl rfl) (congrArg uA (Z3l (by omega)))) ?_
    refine qe (Zv (y := uA (byteAt len8 (y3 : Nat))) (Z18 rfl rfl rfl (by first | (exact Z20 (by decide +kernel) (by omega)) | omega) (by first | (exact Z20 (by decide +kernel) (by omega)) | omega)) (Z2h (by decide +kernel) _)) ?_
    refine qe (Zv (y := iA (byteAt len8 (y3 : Nat))) (Z0i rfl rfl) (congrArg iA (Z1r (by have := Z0u ⟨y3, b3⟩; simp only at this; omega)))) ?_
    refine qe (Z9 rfl rfl rfl (Zn (by (have := Z0u ⟨y3, b3⟩; simp only at this; omega)))) ?_
    refine qA (qN (qE ?_))
    exact Z0p rfl (Z7 rfl Z4) (Z6d (n3 + (byteAt len8 (y3 : Nat)).toNat) ⟨by have := Z0u ⟨y3, b3⟩; simp only at this; omega, fun hx => j3.fin (Z0u ⟨y3, b3⟩).2.2 hx⟩ (congrArg iA (by have := Z0u ⟨y3, b3⟩; simp only at this; omega)))
  ·intro hc
   refine qK (qS (qS ?_))
   refine Z0h 0 rfl (fun y2 hy2 => ?_)
   refine Z0h 2 rfl (fun n2 hn2 => ?_)
   have j2 : LenJ x y2 n2 := by rw [hy2, hn2]; exact j1
   have b2 : y2 < 65536 := by rw [hy2]; simp at hc; omega
   have e2 : n2 ≤ 48 := by rw [hn2]; omega
   refine qR (qM ?_)
   refine qe eI ?_
   refine qN ?_
   refine Z2 rfl ?_ ?_
   ·intro hc
    refine qS (qR (qM ?_))
    refine qe (Zv (y := xA (y2 / 2 ^ 8 : Nat)) (Z3f rfl rfl rfl (by decide)) (congrArg xA (Zga y2 8 (by decide)))) ?_
    refine qA (qN (qR (qM ?_)))
    refine qe (Zv (y := iA (n2 + 8 : Nat)) (eP) (congrArg iA (by omega))) ?_
    refine qA (qN (qS ?_))
    refine Z0h 0 rfl (fun y3 hy3 => ?_)
    refine Z0h 2 rfl (fun n3 hn3 => ?_)
    have j3 : LenJ x y3 n3 := by rw [hy3, hn3]; exact LenJ.shr j2 8 (by have := hc; simp at this; omega)
    have b3 : y3 < 256 := by rw [hy3]; simp at hc; omega
    have e3 : n3 ≤ 56 := by rw [hn3]; omega
    refine qR (qM (qM ?_))
    refine qe (Zv (y := uA (y3 : Nat)) (Z0i rfl rfl) (congrArg uA (Z3l (by omega)))) ?_
    refine qe (Zv (y := uA (byteAt len8 (y3 : Nat))) (Z18 rfl rfl rfl (by first | (exact Z20 (by decide +kernel) (by omega)) | omega) (by first | (exact Z20 (by decide +kernel) (by omega)) | omega)) (Z2h (by decide +kernel) _)) ?_
    refine qe (Zv (y := iA (byteAt len8 (y3 : Nat))) (Z0i rfl rfl) (congrArg iA (Z1r (by have := Z0u ⟨y3, b3⟩; simp only at this; omega)))) ?_
    refine qe (Z9 rfl rfl rfl (Zn (by (have := Z0u ⟨y3, b3⟩; simp only at this; omega)))) ?_
    refine qA (qN (qE ?_))
    exact Z0p rfl (Z7 rfl Z4) (Z6d (n3 + (byteAt len8 (y3 : Nat)).toNat) ⟨by have := Z0u ⟨y3, b3⟩; simp only at this; omega, fun hx => j3.fin (Z0u ⟨y3, b3⟩).2.2 hx⟩ (congrArg iA (by have := Z0u ⟨y3, b3⟩; simp only at this; omega)))
   ·intro hc
    refine qK (qS ?_)
    refine Z0h 0 rfl (fun y3 hy3 => ?_)
    refine Z0h 2 rfl (fun n3 hn3 => ?_)
    have j3 : LenJ x y3 n3 := by rw [hy3, hn3]; exact j2
    have b3 : y3 < 256 := by rw [hy3]; simp at hc; omega
    have e3 : n3 ≤ 56 := by rw [hn3]; omega
    refine qR (qM (qM ?_))
    refine qe (Zv (y := uA (y3 : Nat)) (Z0i rfl rfl) (congrArg uA (Z3l (by omega)))) ?_
    refine qe (Zv (y := uA (byteAt len8 (y3 : Nat))) (Z18 rfl rfl rfl (by first | (exact Z20 (by decide +kernel) (by omega)) | omega) (by first | (exact Z20 (by decide +kernel) (by omega)) | omega)) (Z2h (by decide +kernel) _)) ?_
    refine qe (Zv (y := iA (byteAt len8 (y3 : Nat))) (Z0i rfl rfl) (congrArg iA (Z1r (by have := Z0u ⟨y3, b3⟩; simp only at this; omega)))) ?_
    refine qe (Z9 rfl rfl rfl (Zn (by (have := Z0u ⟨y3, b3⟩; simp only at this; omega)))) ?_
    refine qA (qN (qE ?_))
    exact Z0p rfl (Z7 rfl Z4) (Z6d (n3 + (byteAt len8 (y3 : Nat)).toNat) ⟨by have := Z0u ⟨y3, b3⟩; simp only at this; omega, fun hx => j3.fin (Z0u ⟨y3, b3⟩).2.2 hx⟩ (congrArg iA (by have := Z0u ⟨y3, b3⟩; simp only at this; omega)))
 ·intro hc
  refine qK (qS (qS ?_))
  refine Z0h 0 rfl (fun y1 hy1 => ?_)
  refine Z0h 2 rfl (fun n1 hn1 => ?_)
  have j1 : LenJ x y1 n1 := by rw [hy1, hn1]; exact (LenJ.start x)
  have b1 : y1 < 4294967296 := by rw [hy1]; simp at hc; omega
  have e1 : n1 ≤ 32 := by rw [hn1]; omega
  refine qR (qM ?_)
  refine qe eI ?_
  refine qN ?_
  refine Z2 rfl ?_ ?_
  ·intro hc
   refine qS (qR (qM ?_))
   refine qe (Zv (y := xA (y1 / 2 ^ 16 : Nat)) (Z3f rfl rfl rfl (by decide)) (congrArg xA (Zga y1 16 (by decide)))) ?_
   refine qA (qN (qR (qM ?_)))
   refine qe (Zv (y := iA (n1 + 16 : Nat)) (eP) (congrArg iA (by omega))) ?_
   refine qA (qN (qS (qS ?_)))
   refine Z0h 0 rfl (fun y2 hy2 => ?_)
   refine Z0h 2 rfl (fun n2 hn2 => ?_)
   have j2 : LenJ x y2 n2 := by rw [hy2, hn2]; exact LenJ.shr j1 16 (by have := hc; simp at this; omega)
   have b2 : y2 < 65536 := by rw [hy2]; simp at hc; omega
   have e2 : n2 ≤ 48 := by rw [hn2]; omega
   refine qR (qM ?_)
   refine qe eI ?_
   refine qN ?_
   refine Z2 rfl ?_ ?_
   ·intro hc
    refine qS (qR (qM ?_))
    refine qe (Zv (y := xA (y2 / 2 ^ 8 : Nat)) (Z3f rfl rfl rfl (by decide)) (congrArg xA (Zga y2 8 (by decide)))) ?_
    refine qA (qN (qR (qM ?_)))
    refine qe (Zv (y := iA (n2 + 8 : Nat)) (eP) (congrArg iA (by omega))) ?_
    refine qA (qN (qS ?_))
    refine Z0h 0 rfl (fun y3 hy3 => ?_)
    refine Z0h 2 rfl (fun n3 hn3 => ?_)
    have j3 : LenJ x y3 n3 := by rw [hy3, hn3]; exact LenJ.shr j2 8 (by have := hc; simp at this; omega)
    have b3 : y3 < 256 := by rw [hy3]; simp at hc; omega
    have e3 : n3 ≤ 56 := by rw [hn3]; omega
    refine qR (qM (qM ?_))
    refine qe (Zv (y := uA (y3 : Nat)) (Z0i rfl rfl) (congrArg uA (Z3l (by omega)))) ?_
    refine qe (Zv (y := uA (byteAt len8 (y3 : Nat))) (Z18 rfl rfl rfl (by first | (exact Z20 (by decide +kernel) (by omega)) | omega) (by first | (exact Z20 (by decide +kernel) (by omega)) | omega)) (Z2h (by decide +kernel) _)) ?_
    refine qe (Zv (y := iA (byteAt len8 (y3 : Nat))) (Z0i rfl rfl) (congrArg iA (Z1r (by have := Z0u ⟨y3, b3⟩; simp only at this; omega)))) ?_
    refine qe (Z9 rfl rfl rfl (Zn (by (have := Z0u ⟨y3, b3⟩; simp only at this; omega)))) ?_
    refine qA (qN (qE ?_))
    exact Z0p rfl (Z7 rfl Z4) (Z6d (n3 + (byteAt len8 (y3 : Nat)).toNat) ⟨by have := Z0u ⟨y3, b3⟩; simp only at this; omega, fun hx => j3.fin (Z0u ⟨y3, b3⟩).2.2 hx⟩ (congrArg iA (by have := Z0u ⟨y3, b3⟩; simp only at this; omega)))
   ·intro hc
    refine qK (qS ?_)
    refine Z0h 0 rfl (fun y3 hy3 => ?_)
    refine Z0h 2 rfl (fun n3 hn3 => ?_)
    have j3 : LenJ x y3 n3 := by rw [hy3, hn3]; exact j2
    have b3 : y3 < 256 := by rw [hy3]; simp at hc; omega
    have e3 : n3 ≤ 56 := by rw [hn3]; omega
    refine qR (qM (qM ?_))
    refine qe (Zv (y := uA (y3 : Nat)) (Z0i rfl rfl) (congrArg uA (Z3l (by omega)))) ?_
    refine qe (Zv (y := uA (byteAt len8 (y3 : Nat))) (Z18 rfl rfl rfl (by first | (exact Z20 (by decide +kernel) (by omega)) | omega) (by first | (exact Z20 (by decide +kernel) (by omega)) | omega)) (Z2h (by decide +kernel) _)) ?_
    refine qe (Zv (y := iA (byteAt len8 (y3 : Nat))) (Z0i rfl rfl) (congrArg iA (Z1r (by have := Z0u ⟨y3, b3⟩; simp only at this; omega)))) ?_
    refine qe (Z9 rfl rfl rfl (Zn (by (have := Z0u ⟨y3, b3⟩; simp only at this; omega)))) ?_
    refine qA (qN (qE ?_))
    exact Z0p rfl (Z7 rfl Z4) (Z6d (n3 + (byteAt len8 (y3 : Nat)).toNat) ⟨by have := Z0u ⟨y3, b3⟩; simp only at this; omega, fun hx => j3.fin (Z0u ⟨y3, b3⟩).2.2 hx⟩ (congrArg iA (by have := Z0u ⟨y3, b3⟩; simp only at this; omega)))
  ·intro hc
   refine qK (qS (qS ?_))
   refine Z0h 0 rfl (fun y2 hy2 => ?_)
   refine Z0h 2 rfl (fun n2 hn2 => ?_)
   have j2 : LenJ x y2 n2 := by rw [hy2, hn2]; exact j1
   have b2 : y2 < 65536 := by rw [hy2]; simp at hc; omega
   have e2 : n2 ≤ 48 := by rw [hn2]; omega
   refine qR (qM ?_)
   refine qe eI ?_
   refine qN ?_
   refine Z2 rfl ?_ ?_
   ·intro hc
    refine qS (qR (qM ?_))
    refine qe (Zv (y := xA (y2 / 2 ^ 8 : Nat)) (Z3f rfl rfl rfl (by decide)) (congrArg xA (Zga y2 8 (by decide)))) ?_
    refine qA (qN (qR (qM ?_)))
    refine qe (Zv (y := iA (n2 + 8 : Nat)) (eP) (congrArg iA (by omega))) ?_
    refine qA (qN (qS ?_))
    refine Z0h 0 rfl (fun y3 hy3 => ?_)
    refine Z0h 2 rfl (fun n3 hn3 => ?_)
    have j3 : LenJ x y3 n3 := by rw [hy3, hn3]; exact LenJ.shr j2 8 (by have := hc; simp at this; omega)
    have b3 : y3 < 256 := by rw [hy3]; simp at hc; omega
    have e3 : n3 ≤ 56 := by rw [hn3]; omega
    refine qR (qM (qM ?_))
    refine qe (Zv (y := uA (y3 : Nat)) (Z0i rfl rfl) (congrArg uA (Z3l (by omega)))) ?_
    refine qe (Zv (y := uA (byteAt len8 (y3 : Nat))) (Z18 rfl rfl rfl (by first | (exact Z20 (by decide +kernel) (by omega)) | omega) (by first | (exact Z20 (by decide +kernel) (by omega)) | omega)) (Z2h (by decide +kernel) _)) ?_
    refine qe (Zv (y := iA (byteAt len8 (y3 : Nat))) (Z0i rfl rfl) (congrArg iA (Z1r (by have := Z0u ⟨y3, b3⟩; simp only at this; omega)))) ?_
    refine qe (Z9 rfl rfl rfl (Zn (by (have := Z0u ⟨y3, b3⟩; simp only at this; omega)))) ?_
    refine qA (qN (qE ?_))
    exact Z0p rfl (Z7 rfl Z4) (Z6d (n3 + (byteAt len8 (y3 : Nat)).toNat) ⟨by have := Z0u ⟨y3, b3⟩; simp only at this; omega, fun hx => j3.fin (Z0u ⟨y3, b3⟩).2.2 hx⟩ (congrArg iA (by have := Z0u ⟨y3, b3⟩; simp only at this; omega)))
   ·intro hc
    refine qK (qS ?_)
    refine Z0h 0 rfl (fun y3 hy3 => ?_)
    refine Z0h 2 rfl (fun n3 hn3 => ?_)
    have j3 : LenJ x y3 n3 := by rw [hy3, hn3]; exact j2
    have b3 : y3 < 256 := by rw [hy3]; simp at hc; omega
    have e3 : n3 ≤ 56 := by rw [hn3]; omega
    refine qR (qM (qM ?_))
    refine qe (Zv (y := uA (y3 : Nat)) (Z0i rfl rfl) (congrArg uA (Z3l (by omega)))) ?_
    refine qe (Zv (y := uA (byteAt len8 (y3 : Nat))) (Z18 rfl rfl rfl (by first | (exact Z20 (by decide +kernel) (by omega)) | omega) (by first | (exact Z20 (by decide +kernel) (by omega)) | omega)) (Z2h (by decide +kernel) _)) ?_
    refine qe (Zv (y := iA (byteAt len8 (y3 : Nat))) (Z0i rfl rfl) (congrArg iA (Z1r (by have := Z0u ⟨y3, b3⟩; simp only at this; omega)))) ?_
    refine qe (Z9 rfl rfl rfl (Zn (by (have := Z0u ⟨y3, b3⟩; simp only at this; omega)))) ?_
    refine qA (qN (qE ?_))
    exact Z0p rfl (Z7 rfl Z4) (Z6d (n3 + (byteAt len8 (y3 : Nat)).toNat) ⟨by have := Z0u ⟨y3, b3⟩; simp only at this; omega, fun hx => j3.fin (Z0u ⟨y3, b3⟩).2.2 hx⟩ (congrArg iA (by have := Z0u ⟨y3, b3⟩; simp only at this; omega)))
theorem Z48 (x : Nat) (hx : x < 18446744073709551616) : ACalls Tryz.prog 125 [xA x] [] (GSome (fun k : Nat => iA k) (fun k => k ≤ 64 ∧ (0 < x → 2 ^ k ≤ 2 * x))) := by
 refine Zd (n := 8) Tryz.func125 rfl (by decide +kernel) rfl rfl ?_
 refine qS (qR (qA (qN (qS ?_))))
 refine Z2 rfl ?_ ?_
 ·intro hc
  simp at hc
 ·intro hc
  refine qK (qS (qR (qM ?_)))
  refine Z23 (w0 rfl) rfl rfl rfl rfl (Zfp x hx) (fun v1 hv1 => ?_)
  refine qA (qN (qE ?_))
  exact Z0p rfl (Z7 rfl Z4) (Z6d _ hv1 rfl)
theorem Z5n (x : Nat) (h0 : 0 < x) (hx : x ≤ 140737488355328) : ACalls Tryz.prog 177 [iA x] [] (GSome (fun m : Nat => xA m) (fun m => 0 < m ∧ m ≤ 2 * x)) := by
 refine Zd (n := 7) Tryz.func177 rfl (by decide +kernel) rfl rfl ?_
 refine qS (qR (qA (qN (qS (qR (qM ?_))))))
 refine qe (Zv (y := xA x) (Z0i rfl rfl) (congrArg xA (Z37 (by omega)))) ?_
 refine Z23 (w0 rfl) rfl rfl rfl rfl (Z48 x (by omega)) (fun v1 hv1 => ?_)
 refine qe (Zv (y := xA (2 ^ v1 : Nat)) (Z8v rfl rfl rfl (by omega)) (congrArg xA (Zg8 h0 hx hv1))) ?_
 refine qA (qN (qE ?_))
 exact Z0p rfl (Z7 rfl Z4) (Z6d (2 ^ v1) ⟨Nat.two_pow_pos _, hv1.2 h0⟩ rfl)
theorem Z8r (si : Nat) (c : Int) : ACalls Tryz.prog 178 [.ptr si 1 0 0] [(si, .rows 186 1 [[xA c]])] (GP (fun v : Int => xA v) (fun v => [(si, .rows 186 1 [[xA v]])]) (fun _ => True)) := by
 refine Zd (n := 33) Tryz.func178 rfl (by decide +kernel) rfl rfl ?_
 refine qS (qR (qA (qN (qS ?_))))
 refine Z0j 9 rfl (by kernel_rfl) ?_
 refine cM2 ?_
 refine ce (Z02 rfl rfl rfl) ?_
 refine Za 0 (w0 rfl) rfl rfl rfl rfl rfl Z3 ?_
 refine cM2 ?_
 refine ce (Z02 rfl rfl rfl) ?_
 refine Za 0 (w0 rfl) rfl rfl rfl rfl rfl Z3 ?_
 refine ce (Z8v rfl rfl rfl (by decide)) ?_
 refine ce (Z3r rfl (by simp) rfl rfl) ?_
 refine ce (Z02 rfl rfl rfl) ?_
 refine .done ?_
 refine Zw 0 (w0 rfl) rfl rfl rfl rfl rfl rfl rfl rfl rfl ?_
 refine qN (qS ?_)
 refine Z0j 9 rfl (by kernel_rfl) ?_
 refine cM2 ?_
 refine ce (Z02 rfl rfl rfl) ?_
 refine Za 0 (w0 rfl) rfl rfl rfl rfl rfl Z3 ?_
 refine cM2 ?_
 refine ce (Z02 rfl rfl rfl) ?_
 refine Za 0 (w0 rfl) rfl rfl rfl rfl rfl Z3 ?_
 refine ce (Z3f rfl rfl rfl (by decide)) ?_
 refine ce (Z3r rfl (by simp) rfl rfl) ?_
 refine ce (Z02 rfl rfl rfl) ?_
 refine .done ?_
 refine Zw 0 (w0 rfl) rfl rfl rfl rfl rfl rfl rfl rfl rfl ?_
 refine qN (qS ?_)
 refine Z0j 9 rfl (by kernel_rfl) ?_
 refine cM2 ?_
 refine ce (Z02 rfl rfl rfl) ?_
 refine Za 0 (w0 rfl) rfl rfl rfl rfl rfl Z3 ?_
 refine cM2 ?_
 refine ce (Z02 rfl rfl rfl) ?_
 refine Za 0 (w0 rfl) rfl rfl rfl rfl rfl Z3 ?_
 refine ce (Z8v rfl rfl rfl (by decide)) ?_
 refine ce (Z3r rfl (by simp) rfl rfl) ?_
 refine ce (Z02 rfl rfl rfl) ?_
 refine .done ?_
 refine Zw 0 (w0 rfl) rfl rfl rfl rfl rfl rfl rfl rfl rfl ?_
 refine qN (qS (qR (qM ?_)))
 refine qe (Z02 rfl rfl rfl) ?_
 refine qL 0 Z3 ?_
 refine qA (qN (qE ?_))
 exact Zf rfl (Z7 rfl Z4) (.cons_cons _ .slnil) (gp _ trivial rfl rfl)
theorem Zdd (q n : Nat) (l : List Str) (hn : l.length = n) (hN : n ≤ 140737488355328) (a b : Nat) (hab : a + 12 < b) (hb : b ≤ n) : ACalls Tryz.prog 142 [.own q 1 0 n, iA a, iA b, .fn (.func 52) []] [(q, .rows 9 1 (l.map fun x => [sA x]))] (GP (fun _ : List Str => mkRes []) (fun m => [(q, .rows 9 1 (m.map fun x => [sA x]))]) (fun m => Sw a b l m)) := by
 refine Zd (n := 67) Tryz.func142 rfl (by decide +kernel) rfl rfl ?_
 refine qS (qR (qM (qM ?_)))
 refine qe (Zv (y := iA (b - a : Nat)) (eL) (congrArg iA (by omega))) ?_
 refine qA (qN (qS (qR (qM ?_))))
 refine qe eI ?_
 refine qN ?_
 refine Z2 rfl ?_ ?_
 ·intro hc
  refine qS (qR (qM ?_))
  refine qe (Z0i rfl rfl) ?_
  refine Zy (w0 rfl) rfl (fun id => Z0b id rfl rfl rfl) (fun id1 => ?_)
  refine Zw 0 (w0 rfl) rfl rfl rfl rfl rfl rfl rfl rfl rfl ?_
  refine qN (qS (qR (qM ?_)))
  refine Z23 (w0 rfl) rfl rfl rfl rfl (Z5n (b - a) (by omega) (by omega)) (fun v2 hv2 => ?_)
  refine qA (qN (qS (qR (qM (qM ?_)))))
  refine qe (Zv (y := iA ((b - a) / 4 : Nat)) (Z0r rfl rfl rfl (by decide) (Z0l (b - a) 4 (by omega))) (congrArg iA (Z1p (b - a) 4))) ?_
  refine qe (Z9 rfl rfl rfl (Z1c (by omega))) ?_
  refine qe eP ?_
  refine qe (Zv (y := iA (a + (b - a) / 4 * 2 - 1 : Nat)) (eL) (congrArg iA (by omega))) ?_
  refine qA (qN (qB ?_))
  refine Zj (α := List Str × Nat × Int) (fun x => ⟨[(11, iA x.2.1), (8, iA (b - a : Nat)), (9, .ptr id1 1 0 0), (10, xA v2), (0, .own q 1 0 n), (1, iA a), (3, .fn (.func 52) [])], [(q, .rows 9 1 (x.1.map fun x => [sA x])), (id1, .rows 186 1 [[xA x.2.2]])], [], 67⟩) (fun x => Sw a b l x.1 ∧ a ≤ x.2.1) (fun x => a + (b - a) / 4 * 2 + 2 - x.2.1) (l, a + (b - a) / 4 * 2 - 1, IntKind.u64.wrap (b - a : Nat)) ⟨.refl, (by (try simp only) <;> omega)⟩ ?_ ?_
  ·exact Zb [1, 0] ⟨rfl, rfl, rfl, rfl, rfl, rfl, rfl, trivial⟩ rfl (by decide) rfl rfl
  rintro x hJ
  have hm := hJ.1.len
  refine qS (qS (qR (qM (qM (qM ?_)))))
  refine qe (Zv (y := iA ((b - a : Nat) / 4 : Nat)) (Z0r rfl rfl rfl (by decide) (Z0l (b - a : Nat) 4 (by omega))) (congrArg iA (Z1p (b - a : Nat) 4))) ?_
  refine qe (Z9 rfl rfl rfl (Z1c (by omega))) ?_
  refine qe eP ?_
  refine qe (Zv (y := iA (a + (b - a) / 4 * 2 + 1 : Nat)) (eP) (congrArg iA (by omega))) ?_
  refine qe eI ?_
  refine qN ?_
  refine Z2 rfl ?_ ?_
  ·intro hc
   have hx : x.2.1 ≤ a + (b - a) / 4 * 2 + 1 := by simp at hc; omega
   refine qK (qS (qB (qS (qR ?_))))
   refine Z5 [_] _ (w0 rfl) rfl rfl rfl rfl (Zk (k := 1) rfl) (Z8r _ _) (fun v3 hv3 => ?_)
   refine qM ?_
   refine qe (Z9 rfl rfl rfl rfl) ?_
   refine qe (Z3r rfl (by simp) rfl rfl) ?_
   refine qe (Z0i rfl rfl) ?_
   refine qA (qN (qS (qS ?_)))
   refine Z6t 12 rfl (fun ot hot => ?_)
   have ho := Zb4 (v := v3) (m := v2) hv2.1 (by omega)
   rw [← hot] at ho
   refine qR (qM (qM ?_))
   refine qe eI ?_
   refine qN ?_
   refine Z2 rfl ?_ ?_
   ·intro hc
    have hge : ((b - a : Nat) : Int) ≤ ot := by simpa using hc
    refine qR (qM (qM ?_))
    refine qe eL ?_
    refine qA (qN ?_)
    refine Z2j 12 rfl (show _ = (((ot - (b - a : Nat)).toNat : Nat) : Int) by omega) ?_
    refine Z08 [0, 0, 0, 0, 0, 24, 0, 0, 0, 384, 960, 1984, 0, 0, 12288, 28672, 65475, 131011, 262143, 524287] [17, 19] [11, 15] rfl (by kernel_rfl) ?_
    refine wM2 (wM2 (wM2 (wM2 (wM2 ?_))))
    refine we eP ?_
    refine wM2 (wM2 (wM2 ?_))
    refine we eP ?_
    refine we (eO (a + (ot - (b - a : Nat)).toNat)) ?_
    refine wLs 1 ?_
    refine wM2 (wM2 ?_)
    refine we (Z1 x.2.1 rfl rfl rfl (by omega) (by omega) (by omega)) ?_
    refine wLs 1 ?_
    refine we (Z1 x.2.1 rfl rfl rfl (by omega) (by omega) (by omega)) ?_
    refine Z07 1 rfl (w0 rfl) rfl rfl rfl rfl (by first | omega | (simp; omega)) rfl rfl ?_
    refine we (eO (a + (ot - (b - a : Nat)).toNat)) ?_
    refine Z07 1 rfl (w0 rfl) rfl rfl rfl rfl (by first | omega | (simp; omega)) rfl rfl ?_
    refine .done (qR (qM ?_))
    refine qe eP ?_
    refine qA (qN ?_)
    refine ⟨(swp x.1 x.2.1 (a + (ot - (b - a : Nat)).toNat), x.2.1 + 1, v3), ⟨.step _ _ hJ.1 (by (try simp only) <;> omega) (by (try simp only) <;> omega) (by (try simp only) <;> omega), (by (try simp only) <;> omega)⟩, (by (try simp only) <;> omega), ?_⟩
    exact qp [1, 0] ⟨rfl, rfl, rfl, rfl, rfl, rfl, rfl, trivial⟩
   ·intro hc
    have hlt : ot < ((b - a : Nat) : Int) := by simpa using hc
    refine qK ?_
    refine Z2j 12 rfl (show _ = ((ot.toNat : Nat) : Int) by omega) ?_
    refine Z08 [0, 0, 0, 0, 0, 24, 0, 0, 0, 384, 960, 1984, 0, 0, 12288, 28672, 65475, 131011, 262143, 524287] [17, 19] [11, 15] rfl (by kernel_rfl) ?_
    refine wM2 (wM2 (wM2 (wM2 (wM2 ?_))))
    refine we eP ?_
    refine wM2 (wM2 (wM2 ?_))
    refine we eP ?_
    refine we (eO (a + ot.toNat)) ?_
    refine wLs 1 ?_
    refine wM2 (wM2 ?_)
    refine we (Z1 x.2.1 rfl rfl rfl (by omega) (by omega) (by omega)) ?_
    refine wLs 1 ?_
    refine we (Z1 x.2.1 rfl rfl rfl (by omega) (by omega) (by omega)) ?_
    refine Z07 1 rfl (w0 rfl) rfl rfl rfl rfl (by first | omega | (simp; omega)) rfl rfl ?_
    refine we (eO (a + ot.toNat)) ?_
    refine Z07 1 rfl (w0 rfl) rfl rfl rfl rfl (by first | omega | (simp; omega)) rfl rfl ?_
    refine .done (qR (qM ?_))
    refine qe eP ?_
    refine qA (qN ?_)
    refine ⟨(swp x.1 x.2.1 (a + ot.toNat), x.2.1 + 1, v3), ⟨.step _ _ hJ.1 (by (try simp only) <;> omega) (by (try simp only) <;> omega) (by (try simp only) <;> omega), (by (try simp only) <;> omega)⟩, (by (try simp only) <;> omega), ?_⟩
    exact qp [1, 0] ⟨rfl, rfl, rfl, rfl, rfl, rfl, rfl, trivial⟩
  ·intro hc
   refine qX ?_
   exact Zf rfl Z4 (.cons_cons _ (.cons _ .slnil)) (gp x.1 hJ.1 rfl rfl)
 ·intro hc
  exfalso; simp at hc; omega
set_option maxHeartbeats 1000000 in
theorem Zgk (q n : Nat) (hN : n ≤ 140737488355328) (k : Nat) : ∀ (l : List Str) (hn : l.length = n) (a b : Nat) (lim : Int) (hk : b - a ≤ k) (ha : a ≤ b) (hb : b ≤ n) (hbd : Bd tLt a b l), ACalls Tryz.prog 124 [.own q 1 0 n, iA a, iA b, iA lim, .fn (.func 52) []] [(q, .rows 9 1 (l.map fun x => [sA x]))] (GP (fun _ : List Str => mkRes []) (fun m => [(q, .rows 9 1 (m.map fun x => [sA x]))]) (fun m => Sw a b l m ∧ SOn tLt a b m)) := by
 induction k using Nat.strongRecOn with
 | _ k ih =>
 intro l hn a b lim hk ha hb hbd
 refine Zd (n := 148) Tryz.func124 rfl (by decide +kernel) rfl rfl ?_
 refine qS (qR (qA (qN (qS (qR (qA (qN (qB ?_))))))))
 refine Zj (α := List Str × Nat × Nat × Int × Bool × Bool) (fun x => ⟨[(10, bA x.2.2.2.2.1), (11, bA x.2.2.2.2.2), (0, .own q 1 0 n), (1, iA x.2.1), (2, iA x.2.2.1), (3, iA x.2.2.2.1), (4, .fn (.func 52) [])], [(q, .rows 9 1 (x.1.map fun x => [sA x]))], [], 148⟩) (fun x => Rest tLt a b l x.2.1 x.2.2.1 x.1) (fun x => x.2.2.1 - x.2.1) (l, a, b, lim, true, true) (Rest.start ha hbd) ?_ ?_
 ·exact Zb [0] ⟨rfl, rfl, rfl, rfl, rfl, rfl, rfl, trivial⟩ rfl (by decide) rfl rfl
 rintro x hJ
 have hm := hJ.sw.len
 have hA := hJ.ha
 have hB := hJ.hb
 have hAB := hJ.hab
 refine qB (qS (qR (qM (qM ?_))))
 refine qe (Zv (y := iA (x.2.2.1 - x.2.1 : Nat)) (eL) (congrArg iA (by omega))) ?_
 refine qA (qN (qS (qS (qR (qM ?_)))))
 refine qe eI ?_
 refine qN ?_
 refine Z2 rfl ?_ ?_
 ·intro hc
  refine qS (qR (qM (qM (qM (qM ?_)))))
  refine Z5 [_] _ (w0 rfl) rfl rfl rfl rfl (Zk (k := 0) rfl) (Zai q n x.1 (by omega) hN x.2.1 x.2.2.1 hAB (by omega)) (fun v1 hv1 => ?_)
  refine qN (qE ?_)
  exact Zf rfl Z4 (.cons_cons _ .slnil) (gp v1 ⟨hJ.sw.trans (hv1.1.mono hA hB (by omega)), hJ.fin _ hv1.1 (hv1.2.on tLtT.ok)⟩ rfl rfl)
 ·intro hc
  have hlen : 12 < x.2.2.1 - x.2.1 := by simp at hc; omega
  refine qK (qS (qS (qR (qM ?_))))
  refine qe eI ?_
  refine qN ?_
  refine Z2 rfl ?_ ?_
  ·intro hc
   refine qS (qR (qM (qM (qM (qM ?_)))))
   refine Z5 [_] _ (w0 rfl) rfl rfl rfl rfl (Zk (k := 0) rfl) (Z8n q n x.1 (by omega) hN x.2.1 x.2.2.1 hAB (by omega)) (fun v2 hv2 => ?_)
   refine qN (qE ?_)
   exact Zf rfl Z4 (.cons_cons _ .slnil) (gp v2 ⟨hJ.sw.trans (hv2.1.mono hA hB (by omega)), hJ.fin _ hv2.1 hv2.2⟩ rfl rfl)
  ·intro hc
   refine qK (qS (qS (qR (qM ?_))))
   refine qe (Z03 rfl rfl) ?_
   refine qN ?_
   refine Z2 rfl ?_ ?_
   ·intro hc
    refine qS (qR (qM (qM (qM (qM ?_)))))
    refine Z5 [_] _ (w0 rfl) rfl rfl rfl rfl (Zk (k := 0) rfl) (Zdd q n x.1 (by omega) hN x.2.1 x.2.2.1 (by omega) (by omega)) (fun v3 hv3 => ?_)
    have hJ1 := hJ.move (by omega) hv3
    refine qN (qR (qM ?_))
    refine qe (Z9 rfl rfl rfl rfl) ?_
    refine qA (qN (qS (qR (qM (qM (qM (qM ?_)))))))
    refine Z5 [_] _ (w0 rfl) rfl rfl rfl rfl (Zk (k := 0) rfl) (Z9j q n _ (by have := hJ1.sw.len; omega) hN x.2.1 x.2.2.1 (by omega) (by omega)) (fun v4 hv4 => ?_)
    refine qM ?_
    refine qe (Zi rfl rfl rfl) ?_
    refine qe (Zi rfl rfl rfl) ?_
    refine qA (qA (qN (qS (qS ?_))))
    refine Z0h 13 rfl (fun pv hpv => ?_)
    have hp : x.2.1 ≤ pv ∧ pv < x.2.2.1 := by rw [hpv]; exact hv4
    refine qR (qM ?_)
    refine qe eI ?_
    refine qN ?_
    refine Z2 rfl ?_ ?_
    ·intro hc
     refine qS (qR (qM (qM (qM (qM ?_)))))
     refine Z5 [_] _ (w0 rfl) rfl rfl rfl rfl (Zk (k := 0) rfl) (Zez q n _ (by have := hJ1.sw.len; omega) hN x.2.1 x.2.2.1 (by omega) (by omega)) (fun v5 hv5 => ?_)
     have hJ2 := hJ1.move (by omega) hv5
     refine qN (qS (qR (qM ?_)))
     refine qe eL ?_
     refine qM (qM ?_)
     refine qe eL ?_
     refine qe (Zv (y := iA (x.2.2.1 - 1 - (pv - x.2.1) : Nat)) (eL) (congrArg iA (by omega))) ?_
     refine qA (qN (qR (qA (qN (qS (qS ?_))))))
     refine Z0h 13 rfl (fun p2 hp2 => ?_)
     have hp2' : x.2.1 ≤ p2 ∧ p2 < x.2.2.1 := by omega
     refine qR (qM (qM (qTM ?_)))
     refine qe (Zs rfl rfl rfl (fun h => h)) ?_
     refine qM (qTM ?_)
     refine Zp (wT rfl rfl rfl rfl) rfl (fun hg => (Zr rfl (Ze hg rfl) rfl rfl)) ?_
     refine qe (Zs rfl rfl rfl (fun h => h)) ?_
     refine qN ?_
     refine Z2 rfl ?_ ?_
     ·intro hc
      refine qS (qR (qM (qM (qM (qM ?_)))))
      refine Z5 [_] _ (w0 rfl) rfl rfl rfl rfl (Zk (k := 0) rfl) (Z3q q n _ (by have := hJ2.sw.len; omega) hN x.2.1 x.2.2.1 (by omega) (by omega) hJ2.bd) (fun v6 hv6 => ?_)
      have hJ3 := hJ2.move (by omega) hv6.1
      refine qN ?_
      refine Z2 rfl ?_ ?_
      ·intro hc
       refine qE ?_
       exact Zf rfl Z4 (.cons_cons _ .slnil) (gp v6.1 ⟨hJ3.sw, hJ2.fin _ hv6.1 ((hv6.2 hc).on tLtT.ok)⟩ rfl rfl)
      ·intro hc
       have hl3 := hJ3.sw.len
       refine qK (qS (qS ?_))
       refine Zz [0, 1, 3, 7, 7, 7, 39, 119, 247, 7, 7, 1543, 3591, 8191, 16383, 32767, 65535] 17 rfl (by kernel_rfl) ?_
       refine cM2 ?_
       refine ce eI ?_
       refine cM2 (cTM (cTM (cTM ?_)))
       refine Zc (wT rfl rfl rfl rfl) rfl (fun hg => (Z9 rfl (Ze hg rfl) rfl (Z0c (by omega)))) ?_
       refine Zc (wT rfl rfl rfl rfl) rfl (fun hg => (Z1 (x.2.1 - 1) rfl (Ze hg rfl) (Ze hg rfl) (by (try simp at hg) <;> omega) (by (try simp at hg) <;> omega) (by omega))) ?_
       refine Z0d 0 (wT rfl rfl rfl rfl) rfl rfl (fun hg => (Ze hg rfl)) rfl (fun hg => by (try simp at hg) <;> omega) (fun _ => Z3) ?_
       refine cTM (cTM ?_)
       refine Zc (wT rfl rfl rfl rfl) rfl (fun hg => (Z1 p2 rfl (Ze hg rfl) (Ze hg rfl) (by (try simp at hg) <;> omega) (by (try simp at hg) <;> omega) (by omega))) ?_
       refine Z0d 0 (wT rfl rfl rfl rfl) rfl rfl (fun hg => (Ze hg rfl)) rfl (fun hg => by (try simp at hg) <;> omega) (fun _ => Z3) ?_
       refine Zc (wT rfl rfl rfl rfl) rfl (fun hg => (Z8 [] rfl (Ze hg rfl) (Zg (Ze hg rfl) (Zg (Ze hg rfl) Z05)) (Z25 _ _) List.nodup_nil)) ?_
       refine Zc (wT rfl rfl rfl rfl) rfl (fun hg => (Zr rfl (Ze hg rfl) rfl rfl)) ?_
       refine Zc (wT rfl rfl rfl rfl) rfl (fun hg => (Z03 rfl (Ze hg rfl))) ?_
       refine ce (Zs rfl rfl rfl (fun h => h)) ?_
       refine .done (qN ?_)
       refine Z2 rfl ?_ ?_
       ·intro hc
        have ha0 : 0 < x.2.1 := by have := Z27 hc; simpa using this
        have hpe := Z1u (Z28 hc)
        refine qS (qR (qM (qM (qM (qM (qM ?_))))))
        refine Z5 [_] _ (w0 rfl) rfl rfl rfl rfl (Zk (k := 0) rfl) (Z2t q n _ (by omega) hN x.2.1 x.2.2.1 p2 hp2'.1 hp2'.2 (by omega)) (fun v7 hv7 => ?_)
        refine qA (qN (qS (qR (qM (qA (qN (qX ?_)))))))
        refine ⟨(v7.1, v7.2, x.2.2.1, IntKind.i64.wrap (x.2.2.2.1 - 1), x.2.2.2.2.1, x.2.2.2.2.2), (by obtain ⟨j, e, he⟩ := hv7.2.2.2.2; exact (hJ3.move (by omega) hv7.1).equal tLtT.ok (by omega) ha0 (by rw [hv7.1.out (.inl (by omega)), hv7.2.2.2.1]; exact hpe) he e hv7.2.1 hv7.2.2.1), (by (try simp only) <;> (have := hv7.2.1; omega)), ?_⟩
        exact qp [0] ⟨rfl, rfl, rfl, rfl, rfl, rfl, rfl, trivial⟩
       ·intro hc
        refine qK (qS (qR (qM (qM (qM (qM (qM ?_)))))))
        refine Z5 [_] _ (w0 rfl) rfl rfl rfl rfl (Zk (k := 0) rfl) (Z3c q n _ (by omega) hN x.2.1 x.2.2.1 p2 hp2'.1 hp2'.2 (by omega)) (fun v8 hv8 => ?_)
        refine qM ?_
        refine qe (Zi rfl rfl rfl) ?_
        refine qe (Zi rfl rfl rfl) ?_
        refine qA (qA (qN (qS (qR (qM (qA (qN (qS ?_))))))))
        have hJ4 := hJ3.move (by omega) hv8.1
        have hl4 := hJ4.sw.len
        have hmid : x.2.1 ≤ v8.2.1 ∧ v8.2.1 < x.2.2.1 := ⟨hv8.2.1, hv8.2.2.1⟩
        refine qR (qM (qM ?_))
        refine qe eL ?_
        refine qM (qM ?_)
        refine qe eL ?_
        refine qA (qA (qN (qS (qR (qM ?_)))))
        refine qe (Zv (y := iA ((x.2.2.1 - x.2.1) / 8 : Nat)) (Z0r rfl rfl rfl (by decide) (Z0l (x.2.2.1 - x.2.1) 8 (by omega))) (congrArg iA (Z1p (x.2.2.1 - x.2.1) 8))) ?_
        refine qA (qN (qS (qR (qM (qM ?_)))))
        refine qe eI ?_
        refine qN ?_
        refine Z2 rfl ?_ ?_
        ·intro hc
         refine qS (qR (qM (qM ?_)))
         refine qe eI ?_
         refine qA (qN (qS ?_))
         refine Z0f 10 rfl (fun wb hwb => ?_)
         refine qR (qM (qM (qM (qM (qM ?_)))))
         refine Z5 [_] _ (w0 rfl) rfl rfl rfl rfl (Zk (k := 0) rfl) (ih (v8.2.1 - x.2.1) (by omega) _ (by omega) x.2.1 v8.2.1 _ (Nat.le_refl _) (by omega) (by omega) (hJ4.bd.le (by omega))) (fun v9 hv9 => ?_)
         refine qN (qR (qM ?_))
         refine qe eP ?_
         refine qA (qN ?_)
         refine ⟨(v9, v8.2.1 + 1, x.2.2.1, IntKind.i64.wrap (x.2.2.2.1 - 1), wb, v8.2.2), (hJ4.lower tLtT.ok (by omega) hmid hv8.2.2.2 hv9.1 hv9.2), (by (try simp only) <;> omega), ?_⟩
         exact qp [0] ⟨rfl, rfl, rfl, rfl, rfl, rfl, rfl, trivial⟩
        ·intro hc
         refine qS (qR (qM (qM ?_)))
         refine qe eI ?_
         refine qA (qN (qS ?_))
         refine Z0f 10 rfl (fun wb hwb => ?_)
         refine qR (qM (qM ?_))
         refine qe eP ?_
         refine qM (qM (qM ?_))
         refine Z5 [_] _ (w0 rfl) rfl rfl rfl rfl (Zk (k := 0) rfl) (ih (x.2.2.1 - (v8.2.1 + 1)) (by omega) _ (by omega) (v8.2.1 + 1) x.2.2.1 _ (Nat.le_refl _) (by omega) (by omega) hv8.2.2.2.bd) (fun v10 hv10 => ?_)
         refine qN (qR (qM (qA (qN ?_))))
         refine ⟨(v10, x.2.1, v8.2.1, IntKind.i64.wrap (x.2.2.2.1 - 1), wb, v8.2.2), (hJ4.upper tLtT.ok (by omega) hmid hv8.2.2.2 hv10.1 hv10.2), (by (try simp only) <;> omega), ?_⟩
         exact qp [0] ⟨rfl, rfl, rfl, rfl, rfl, rfl, rfl, trivial⟩
     ·intro hc
      have hJ3 := hJ2
      have hl3 := hJ3.sw.len
      refine qK (qS (qS ?_))
      refine Zz [0, 1, 3, 7, 7, 7, 39, 119, 247, 7, 7, 1543, 3591, 8191, 16383, 32767, 65535] 17 rfl (by kernel_rfl) ?_
      refine cM2 ?_
      refine ce eI ?_
      refine cM2 (cTM (cTM (cTM ?_)))
      refine Zc (wT rfl rfl rfl rfl) rfl (fun hg => (Z9 rfl (Ze hg rfl) rfl (Z0c (by omega)))) ?_
      refine Zc (wT rfl rfl rfl rfl) rfl (fun hg => (Z1 (x.2.1 - 1) rfl (Ze hg rfl) (Ze hg rfl) (by (try simp at hg) <;> omega) (by (try simp at hg) <;> omega) (by omega))) ?_
      refine Z0d 0 (wT rfl rfl rfl rfl) rfl rfl (fun hg => (Ze hg rfl)) rfl (fun hg => by (try simp at hg) <;> omega) (fun _ => Z3) ?_
      refine cTM (cTM ?_)
      refine Zc (wT rfl rfl rfl rfl) rfl (fun hg => (Z1 p2 rfl (Ze hg rfl) (Ze hg rfl) (by (try simp at hg) <;> omega) (by (try simp at hg) <;> omega) (by omega))) ?_
      refine Z0d 0 (wT rfl rfl rfl rfl) rfl rfl (fun hg => (Ze hg rfl)) rfl (fun hg => by (try simp at hg) <;> omega) (fun _ => Z3) ?_
      refine Zc (wT rfl rfl rfl rfl) rfl (fun hg => (Z8 [] rfl (Ze hg rfl) (Zg (Ze hg rfl) (Zg (Ze hg rfl) Z05)) (Z25 _ _) List.nodup_nil)) ?_
      refine Zc (wT rfl rfl rfl rfl) rfl (fun hg => (Zr rfl (Ze hg rfl) rfl rfl)) ?_
      refine Zc (wT rfl rfl rfl rfl) rfl (fun hg => (Z03 rfl (Ze hg rfl))) ?_
      refine ce (Zs rfl rfl rfl (fun h => h)) ?_
      refine .done (qN ?_)
      refine Z2 rfl ?_ ?_
      ·intro hc
       have ha0 : 0 < x.2.1 := by have := Z27 hc; simpa using this
       have hpe := Z1u (Z28 hc)
       refine qS (qR (qM (qM (qM (qM (qM ?_))))))
       refine Z5 [_] _ (w0 rfl) rfl rfl rfl rfl (Zk (k := 0) rfl) (Z2t q n _ (by omega) hN x.2.1 x.2.2.1 p2 hp2'.1 hp2'.2 (by omega)) (fun v11 hv11 => ?_)
       refine qA (qN (qS (qR (qM (qA (qN (qX ?_)))))))
       refine ⟨(v11.1, v11.2, x.2.2.1, IntKind.i64.wrap (x.2.2.2.1 - 1), x.2.2.2.2.1, x.2.2.2.2.2), (by obtain ⟨j, e, he⟩ := hv11.2.2.2.2; exact (hJ3.move (by omega) hv11.1).equal tLtT.ok (by omega) ha0 (by rw [hv11.1.out (.inl (by omega)), hv11.2.2.2.1]; exact hpe) he e hv11.2.1 hv11.2.2.1), (by (try simp only) <;> (have := hv11.2.1; omega)), ?_⟩
       exact qp [0] ⟨rfl, rfl, rfl, rfl, rfl, rfl, rfl, trivial⟩
      ·intro hc
       refine qK (qS (qR (qM (qM (qM (qM (qM ?_)))))))
       refine Z5 [_] _ (w0 rfl) rfl rfl rfl rfl (Zk (k := 0) rfl) (Z3c q n _ (by omega) hN x.2.1 x.2.2.1 p2 hp2'.1 hp2'.2 (by omega)) (fun v12 hv12 => ?_)
       refine qM ?_
       refine qe (Zi rfl rfl rfl) ?_
       refine qe (Zi rfl rfl rfl) ?_
       refine qA (qA (qN (qS (qR (qM (qA (qN (qS ?_))))))))
       have hJ4 := hJ3.move (by omega) hv12.1
       have hl4 := hJ4.sw.len
       have hmid : x.2.1 ≤ v12.2.1 ∧ v12.2.1 < x.2.2.1 := ⟨hv12.2.1, hv12.2.2.1⟩
       refine qR (qM (qM ?_))
       refine qe eL ?_
       refine qM (qM ?_)
       refine qe eL ?_
       refine qA (qA (qN (qS (qR (qM ?_)))))
       refine qe (Zv (y := iA ((x.2.2.1 - x.2.1) / 8 : Nat)) (Z0r rfl rfl rfl (by decide) (Z0l (x.2.2.1 - x.2.1) 8 (by omega))) (congrArg iA (Z1p (x.2.2.1 - x.2.1) 8))) ?_
       refine qA (qN (qS (qR (qM (qM ?_)))))
       refine qe eI ?_
       refine qN ?_
       refine Z2 rfl ?_ ?_
       ·intro hc
        refine qS (qR (qM (qM ?_)))
        refine qe eI ?_
        refine qA (qN (qS ?_))
        refine Z0f 10 rfl (fun wb hwb => ?_)
        refine qR (qM (qM (qM (qM (qM ?_)))))
        refine Z5 [_] _ (w0 rfl) rfl rfl rfl rfl (Zk (k := 0) rfl) (ih (v12.2.1 - x.2.1) (by omega) _ (by omega) x.2.1 v12.2.1 _ (Nat.le_refl _) (by omega) (by omega) (hJ4.bd.le (by omega))) (fun v13 hv13 => ?_)
        refine qN (qR (qM ?_))
        refine qe eP ?_
        refine qA (qN ?_)
        refine ⟨(v13, v12.2.1 + 1, x.2.2.1, IntKind.i64.wrap (x.2.2.2.1 - 1), wb, v12.2.2), (hJ4.lower tLtT.ok (by omega) hmid hv12.2.2.2 hv13.1 hv13.2), (by (try simp only) <;> omega), ?_⟩
        exact qp [0] ⟨rfl, rfl, rfl, rfl, rfl, rfl, rfl, trivial⟩
       ·intro hc
        refine qS (qR (qM (qM ?_)))
        refine qe eI ?_
        refine qA (qN (qS ?_))
        refine Z0f 10 rfl (fun wb hwb => ?_)
        refine qR (qM (qM ?_))
        refine qe eP ?_
        refine qM (qM (qM ?_))
        refine Z5 [_] _ (w0 rfl) rfl rfl rfl rfl (Zk (k := 0) rfl) (ih (x.2.2.1 - (v12.2.1 + 1)) (by omega) _ (by omega) (v12.2.1 + 1) x.2.2.1 _ (Nat.le_refl _) (by omega) (by omega) hv12.2.2.2.bd) (fun v14 hv14 => ?_)
        refine qN (qR (qM (qA (qN ?_))))
        refine ⟨(v14, x.2.1, v12.2.1, IntKind.i64.wrap (x.2.2.2.1 - 1), wb, v12.2.2), (hJ4.upper tLtT.ok (by omega) hmid hv12.2.2.2 hv14.1 hv14.2), (by (try simp only) <;> omega), ?_⟩
        exact qp [0] ⟨rfl, rfl, rfl, rfl, rfl, rfl, rfl, trivial⟩
    ·intro hc
     have hJ2 := hJ1
     refine qK (qS (qS ?_))
     refine Z0h 13 rfl (fun p2 hp2 => ?_)
     have hp2' : x.2.1 ≤ p2 ∧ p2 < x.2.2.1 := by omega
     refine qR (qM (qM (qTM ?_)))
     refine qe (Zs rfl rfl rfl (fun h => h)) ?_
     refine qM (qTM ?_)
     refine Zp (wT rfl rfl rfl rfl) rfl (fun hg => (Zr rfl (Ze hg rfl) rfl rfl)) ?_
     refine qe (Zs rfl rfl rfl (fun h => h)) ?_
     refine qN ?_
     refine Z2 rfl ?_ ?_
     ·intro hc
      refine qS (qR (qM (qM (qM (qM ?_)))))
      refine Z5 [_] _ (w0 rfl) rfl rfl rfl rfl (Zk (k := 0) rfl) (Z3q q n _ (by have := hJ2.sw.len; omega) hN x.2.1 x.2.2.1 (by omega) (by omega) hJ2.bd) (fun v15 hv15 => ?_)
      have hJ3 := hJ2.move (by omega) hv15.1
      refine qN ?_
      refine Z2 rfl ?_ ?_
      ·intro hc
       refine qE ?_
       exact Zf rfl Z4 (.cons_cons _ .slnil) (gp v15.1 ⟨hJ3.sw, hJ2.fin _ hv15.1 ((hv15.2 hc).on tLtT.ok)⟩ rfl rfl)
      ·intro hc
       have hl3 := hJ3.sw.len
       refine qK (qS (qS ?_))
       refine Zz [0, 1, 3, 7, 7, 7, 39, 119, 247, 7, 7, 1543, 3591, 8191, 16383, 32767, 65535] 17 rfl (by kernel_rfl) ?_
       refine cM2 ?_
       refine ce eI ?_
       refine cM2 (cTM (cTM (cTM ?_)))
       refine Zc (wT rfl rfl rfl rfl) rfl (fun hg => (Z9 rfl (Ze hg rfl) rfl (Z0c (by omega)))) ?_
       refine Zc (wT rfl rfl rfl rfl) rfl (fun hg => (Z1 (x.2.1 - 1) rfl (Ze hg rfl) (Ze hg rfl) (by (try simp at hg) <;> omega) (by (try simp at hg) <;> omega) (by omega))) ?_
       refine Z0d 0 (wT rfl rfl rfl rfl) rfl rfl (fun hg => (Ze hg rfl)) rfl (fun hg => by (try simp at hg) <;> omega) (fun _ => Z3) ?_
       refine cTM (cTM ?_)
       refine Zc (wT rfl rfl rfl rfl) rfl (fun hg => (Z1 p2 rfl (Ze hg rfl) (Ze hg rfl) (by (try simp at hg) <;> omega) (by (try simp at hg) <;> omega) (by omega))) ?_
       refine Z0d 0 (wT rfl rfl rfl rfl) rfl rfl (fun hg => (Ze hg rfl)) rfl (fun hg => by (try simp at hg) <;> omega) (fun _ => Z3) ?_
       refine Zc (wT rfl rfl rfl rfl) rfl (fun hg => (Z8 [] rfl (Ze hg rfl) (Zg (Ze hg rfl) (Zg (Ze hg rfl) Z05)) (Z25 _ _) List.nodup_nil)) ?_
       refine Zc (wT rfl rfl rfl rfl) rfl (fun hg => (Zr rfl (Ze hg rfl) rfl rfl)) ?_
       refine Zc (wT rfl rfl rfl rfl) rfl (fun hg => (Z03 rfl (Ze hg rfl))) ?_
       refine ce (Zs rfl rfl rfl (fun h => h)) ?_
       refine .done (qN ?_)
       refine Z2 rfl ?_ ?_
       ·intro hc
        have ha0 : 0 < x.2.1 := by have := Z27 hc; simpa using this
        have hpe := Z1u (Z28 hc)
        refine qS (qR (qM (qM (qM (qM (qM ?_))))))
        refine Z5 [_] _ (w0 rfl) rfl rfl rfl rfl (Zk (k := 0) rfl) (Z2t q n _ (by omega) hN x.2.1 x.2.2.1 p2 hp2'.1 hp2'.2 (by omega)) (fun v16 hv16 => ?_)
        refine qA (qN (qS (qR (qM (qA (qN (qX ?_)))))))
        refine ⟨(v16.1, v16.2, x.2.2.1, IntKind.i64.wrap (x.2.2.2.1 - 1), x.2.2.2.2.1, x.2.2.2.2.2), (by obtain ⟨j, e, he⟩ := hv16.2.2.2.2; exact (hJ3.move (by omega) hv16.1).equal tLtT.ok (by omega) ha0 (by rw [hv16.1.out (.inl (by omega)), hv16.2.2.2.1]; exact hpe) he e hv16.2.1 hv16.2.2.1), (by (try simp only) <;> (have := hv16.2.1; omega)), ?_⟩
        exact qp [0] ⟨rfl, rfl, rfl, rfl, rfl, rfl, rfl, trivial⟩
       ·intro hc
        refine qK (qS (qR (qM (qM (qM (qM (qM ?_)))))))
        refine Z5 [_] _ (w0 rfl) rfl rfl rfl rfl (Zk (k := 0) rfl) (Z3c q n _ (by omega) hN x.2.1 x.2.2.1 p2 hp2'.1 hp2'.2 (by omega)) (fun v17 hv17 => ?_)
        refine qM ?_
        refine qe (Zi rfl rfl rfl) ?_
        refine qe (Zi rfl rfl rfl) ?_
        refine qA (qA (qN (qS (qR (qM (qA (qN (qS ?_))))))))
        have hJ4 := hJ3.move (by omega) hv17.1
        have hl4 := hJ4.sw.len
        have hmid : x.2.1 ≤ v17.2.1 ∧ v17.2.1 < x.2.2.1 := ⟨hv17.2.1, hv17.2.2.1⟩
        refine qR (qM (qM ?_))
        refine qe eL ?_
        refine qM (qM ?_)
        refine qe eL ?_
        refine qA (qA (qN (qS (qR (qM ?_)))))
        refine qe (Zv (y := iA ((x.2.2.1 - x.2.1) / 8 : Nat)) (Z0r rfl rfl rfl (by decide) (Z0l (x.2.2.1 - x.2.1) 8 (by omega))) (congrArg iA (Z1p (x.2.2.1 - x.2.1) 8))) ?_
        refine qA (qN (qS (qR (qM (qM ?_)))))
        refine qe eI ?_
        refine qN ?_
        refine Z2 rfl ?_ ?_
        ·intro hc
         refine qS (qR (qM (qM ?_)))
         refine qe eI ?_
         refine qA (qN (qS ?_))
         refine Z0f 10 rfl (fun wb hwb => ?_)
         refine qR (qM (qM (qM (qM (qM ?_)))))
         refine Z5 [_] _ (w0 rfl) rfl rfl rfl rfl (Zk (k := 0) rfl) (ih (v17.2.1 - x.2.1) (by omega) _ (by omega) x.2.1 v17.2.1 _ (Nat.le_refl _) (by omega) (by omega) (hJ4.bd.le (by omega))) (fun v18 hv18 => ?_)
         refine qN (qR (qM ?_))
         refine qe eP ?_
         refine qA (qN ?_)
         refine ⟨(v18, v17.2.1 + 1, x.2.2.1, IntKind.i64.wrap (x.2.2.2.1 - 1), wb, v17.2.2), (hJ4.lower tLtT.ok (by omega) hmid hv17.2.2.2 hv18.1 hv18.2), (by (try simp only) <;> omega), ?_⟩
         exact qp [0] ⟨rfl, rfl, rfl, rfl, rfl, rfl, rfl, trivial⟩
        ·intro hc
         refine qS (qR (qM (qM ?_)))
         refine qe eI ?_
         refine qA (qN (qS ?_))
         refine Z0f 10 rfl (fun wb hwb => ?_)
         refine qR (qM (qM ?_))
         refine qe eP ?_
         refine qM (qM (qM ?_))
         refine Z5 [_] _ (w0 rfl) rfl rfl rfl rfl (Zk (k := 0) rfl) (ih (x.2.2.1 - (v17.2.1 + 1)) (by omega) _ (by omega) (v17.2.1 + 1) x.2.2.1 _ (Nat.le_refl _) (by omega) (by omega) hv17.2.2.2.bd) (fun v19 hv19 => ?_)
         refine qN (qR (qM (qA (qN ?_))))
         refine ⟨(v19, x.2.1, v17.2.1, IntKind.i64.wrap (x.2.2.2.1 - 1), wb, v17.2.2), (hJ4.upper tLtT.ok (by omega) hmid hv17.2.2.2 hv19.1 hv19.2), (by (try simp only) <;> omega), ?_⟩
         exact qp [0] ⟨rfl, rfl, rfl, rfl, rfl, rfl, rfl, trivial⟩
     ·intro hc
      have hJ3 := hJ2
      have hl3 := hJ3.sw.len
      refine qK (qS (qS ?_))
      refine Zz [0, 1, 3, 7, 7, 7, 39, 119, 247, 7, 7, 1543, 3591, 8191, 16383, 32767, 65535] 17 rfl (by kernel_rfl) ?_
      refine cM2 ?_
      refine ce eI ?_
      refine cM2 (cTM (cTM (cTM ?_)))
      refine Zc (wT rfl rfl rfl rfl) rfl (fun hg => (Z9 rfl (Ze hg rfl) rfl (Z0c (by omega)))) ?_
      refine Zc (wT rfl rfl rfl rfl) rfl (fun hg => (Z1 (x.2.1 - 1) rfl (Ze hg rfl) (Ze hg rfl) (by (try simp at hg) <;> omega) (by (try simp at hg) <;> omega) (by omega))) ?_
      refine Z0d 0 (wT rfl rfl rfl rfl) rfl rfl (fun hg => (Ze hg rfl)) rfl (fun hg => by (try simp at hg) <;> omega) (fun _ => Z3) ?_
      refine cTM (cTM ?_)
      refine Zc (wT rfl rfl rfl rfl) rfl (fun hg => (Z1 p2 rfl (Ze hg rfl) (Ze hg rfl) (by (try simp at hg) <;> omega) (by (try simp at hg) <;> omega) (by omega))) ?_
      refine Z0d 0 (wT rfl rfl rfl rfl) rfl rfl (fun hg => (Ze hg rfl)) rfl (fun hg => by (try simp at hg) <;> omega) (fun _ => Z3) ?_
      refine Zc (wT rfl rfl rfl rfl) rfl (fun hg => (Z8 [] rfl (Ze hg rfl) (Zg (Ze hg rfl) (Zg (Ze hg rfl) Z05)) (Z25 _ _) List.nodup_nil)) ?_
      refine Zc (wT rfl rfl rfl rfl) rfl (fun hg => (Zr rfl (Ze hg rfl) rfl rfl)) ?_
      refine Zc (wT rfl rfl rfl rfl) rfl (fun hg => (Z03 rfl (Ze hg rfl))) ?_
      refine ce (Zs rfl rfl rfl (fun h => h)) ?_
      refine .done (qN ?_)
      refine Z2 rfl ?_ ?_
      ·intro hc
       have ha0 : 0 < x.2.1 := by have := Z27 hc; simpa using this
       have hpe := Z1u (Z28 hc)
       refine qS (qR (qM (qM (qM (qM (qM ?_))))))
       refine Z5 [_] _ (w0 rfl) rfl rfl rfl rfl (Zk (k := 0) rfl) (Z2t q n _ (by omega) hN x.2.1 x.2.2.1 p2 hp2'.1 hp2'.2 (by omega)) (fun v20 hv20 => ?_)
       refine qA (qN (qS (qR (qM (qA (qN (qX ?_)))))))
       refine ⟨(v20.1, v20.2, x.2.2.1, IntKind.i64.wrap (x.2.2.2.1 - 1), x.2.2.2.2.1, x.2.2.2.2.2), (by obtain ⟨j, e, he⟩ := hv20.2.2.2.2; exact (hJ3.move (by omega) hv20.1).equal tLtT.ok (by omega) ha0 (by rw [hv20.1.out (.inl (by omega)), hv20.2.2.2.1]; exact hpe) he e hv20.2.1 hv20.2.2.1), (by (try simp only) <;> (have := hv20.2.1; omega)), ?_⟩
       exact qp [0] ⟨rfl, rfl, rfl, rfl, rfl, rfl, rfl, trivial⟩
      ·intro hc
       refine qK (qS (qR (qM (qM (qM (qM (qM ?_)))))))
       refine Z5 [_] _ (w0 rfl) rfl rfl rfl rfl (Zk (k := 0) rfl) (Z3c q n _ (by omega) hN x.2.1 x.2.2.1 p2 hp2'.1 hp2'.2 (by omega)) (fun v21 hv21 => ?_)
       refine qM ?_
       refine qe (Zi rfl rfl rfl) ?_
       refine qe (Zi rfl rfl rfl) ?_
       refine qA (qA (qN (qS (qR (qM (qA (qN (qS ?_))))))))
       have hJ4 := hJ3.move (by omega) hv21.1
       have hl4 := hJ4.sw.len
       have hmid : x.2.1 ≤ v21.2.1 ∧ v21.2.1 < x.2.2.1 := ⟨hv21.2.1, hv21.2.2.1⟩
       refine qR (qM (qM ?_))
       refine qe eL ?_
       refine qM (qM ?_)
       refine qe eL ?_
       refine qA (qA (qN (qS (qR (qM ?_)))))
       refine qe (Zv (y := iA ((x.2.2.1 - x.2.1) / 8 : Nat)) (Z0r rfl rfl rfl (by decide) (Z0l (x.2.2.1 - x.2.1) 8 (by omega))) (congrArg iA (Z1p (x.2.2.1 - x.2.1) 8))) ?_
       refine qA (qN (qS (qR (qM (qM ?_)))))
       refine qe eI ?_
       refine qN ?_
       refine Z2 rfl ?_ ?_
       ·intro hc
        refine qS (qR (qM (qM ?_)))
        refine qe eI ?_
        refine qA (qN (qS ?_))
        refine Z0f 10 rfl (fun wb hwb => ?_)
        refine qR (qM (qM (qM (qM (qM ?_)))))
        refine Z5 [_] _ (w0 rfl) rfl rfl rfl rfl (Zk (k := 0) rfl) (ih (v21.2.1 - x.2.1) (by omega) _ (by omega) x.2.1 v21.2.1 _ (Nat.le_refl _) (by omega) (by omega) (hJ4.bd.le (by omega))) (fun v22 hv22 => ?_)
        refine qN (qR (qM ?_))
        refine qe eP ?_
        refine qA (qN ?_)
        refine ⟨(v22, v21.2.1 + 1, x.2.2.1, IntKind.i64.wrap (x.2.2.2.1 - 1), wb, v21.2.2), (hJ4.lower tLtT.ok (by omega) hmid hv21.2.2.2 hv22.1 hv22.2), (by (try simp only) <;> omega), ?_⟩
        exact qp [0] ⟨rfl, rfl, rfl, rfl, rfl, rfl, rfl, trivial⟩
       ·intro hc
        refine qS (qR (qM (qM ?_)))
        refine qe eI ?_
        refine qA (qN (qS ?_))
        refine Z0f 10 rfl (fun wb hwb => ?_)
        refine qR (qM (qM ?_))
        refine qe eP ?_
        refine qM (qM (qM ?_))
        refine Z5 [_] _ (w0 rfl) rfl rfl rfl rfl (Zk (k := 0) rfl) (ih (x.2.2.1 - (v21.2.1 + 1)) (by omega) _ (by omega) (v21.2.1 + 1) x.2.2.1 _ (Nat.le_refl _) (by omega) (by omega) hv21.2.2.2.bd) (fun v23 hv23 => ?_)
        refine qN (qR (qM (qA (qN ?_))))
        refine ⟨(v23, x.2.1, v21.2.1, IntKind.i64.wrap (x.2.2.2.1 - 1), wb, v21.2.2), (hJ4.upper tLtT.ok (by omega) hmid hv21.2.2.2 hv23.1 hv23.2), (by (try simp only) <;> omega), ?_⟩
        exact qp [0] ⟨rfl, rfl, rfl, rfl, rfl, rfl, rfl, trivial⟩
   ·intro hc
    have hJ1 := hJ
    refine qK (qS (qR (qM (qM (qM (qM ?_))))))
    refine Z5 [_] _ (w0 rfl) rfl rfl rfl rfl (Zk (k := 0) rfl) (Z9j q n _ (by have := hJ1.sw.len; omega) hN x.2.1 x.2.2.1 (by omega) (by omega)) (fun v24 hv24 => ?_)
    refine qM ?_
    refine qe (Zi rfl rfl rfl) ?_
    refine qe (Zi rfl rfl rfl) ?_
    refine qA (qA (qN (qS (qS ?_))))
    refine Z0h 13 rfl (fun pv hpv => ?_)
    have hp : x.2.1 ≤ pv ∧ pv < x.2.2.1 := by rw [hpv]; exact hv24
    refine qR (qM ?_)
    refine qe eI ?_
    refine qN ?_
    refine Z2 rfl ?_ ?_
    ·intro hc
     refine qS (qR (qM (qM (qM (qM ?_)))))
     refine Z5 [_] _ (w0 rfl) rfl rfl rfl rfl (Zk (k := 0) rfl) (Zez q n _ (by have := hJ1.sw.len; omega) hN x.2.1 x.2.2.1 (by omega) (by omega)) (fun v25 hv25 => ?_)
     have hJ2 := hJ1.move (by omega) hv25
     refine qN (qS (qR (qM ?_)))
     refine qe eL ?_
     refine qM (qM ?_)
     refine qe eL ?_
     refine qe (Zv (y := iA (x.2.2.1 - 1 - (pv - x.2.1) : Nat)) (eL) (congrArg iA (by omega))) ?_
     refine qA (qN (qR (qA (qN (qS (qS ?_))))))
     refine Z0h 13 rfl (fun p2 hp2 => ?_)
     have hp2' : x.2.1 ≤ p2 ∧ p2 < x.2.2.1 := by omega
     refine qR (qM (qM (qTM ?_)))
     refine qe (Zs rfl rfl rfl (fun h => h)) ?_
     refine qM (qTM ?_)
     refine Zp (wT rfl rfl rfl rfl) rfl (fun hg => (Zr rfl (Ze hg rfl) rfl rfl)) ?_
     refine qe (Zs rfl rfl rfl (fun h => h)) ?_
     refine qN ?_
     refine Z2 rfl ?_ ?_
     ·intro hc
      refine qS (qR (qM (qM (qM (qM ?_)))))
      refine Z5 [_] _ (w0 rfl) rfl rfl rfl rfl (Zk (k := 0) rfl) (Z3q q n _ (by have := hJ2.sw.len; omega) hN x.2.1 x.2.2.1 (by omega) (by omega) hJ2.bd) (fun v26 hv26 => ?_)
      have hJ3 := hJ2.move (by omega) hv26.1
      refine qN ?_
      refine Z2 rfl ?_ ?_
      ·intro hc
       refine qE ?_
       exact Zf rfl Z4 (.cons_cons _ .slnil) (gp v26.1 ⟨hJ3.sw, hJ2.fin _ hv26.1 ((hv26.2 hc).on tLtT.ok)⟩ rfl rfl)
      ·intro hc
       have hl3 := hJ3.sw.len
       refine qK (qS (qS ?_))
       refine Zz [0, 1, 3, 7, 7, 7, 39, 119, 247, 7, 7, 1543, 3591, 8191, 16383, 32767, 65535] 17 rfl (by kernel_rfl) ?_
       refine cM2 ?_
       refine ce eI ?_
       refine cM2 (cTM (cTM (cTM ?_)))
       refine Zc (wT rfl rfl rfl rfl) rfl (fun hg => (Z9 rfl (Ze hg rfl) rfl (Z0c (by omega)))) ?_
       refine Zc (wT rfl rfl rfl rfl) rfl (fun hg => (Z1 (x.2.1 - 1) rfl (Ze hg rfl) (Ze hg rfl) (by (try simp at hg) <;> omega) (by (try simp at hg) <;> omega) (by omega))) ?_
       refine Z0d 0 (wT rfl rfl rfl rfl) rfl rfl (fun hg => (Ze hg rfl)) rfl (fun hg => by (try simp at hg) <;> omega) (fun _ => Z3) ?_
       refine cTM (cTM ?_)
       refine Zc (wT rfl rfl rfl rfl) rfl (fun hg => (Z1 p2 rfl (Ze hg rfl) (Ze hg rfl) (by (try simp at hg) <;> omega) (by (try simp at hg) <;> omega) (by omega))) ?_
       refine Z0d 0 (wT rfl rfl rfl rfl) rfl rfl (fun hg => (Ze hg rfl)) rfl (fun hg => by (try simp at hg) <;> omega) (fun _ => Z3) ?_
       refine Zc (wT rfl rfl rfl rfl) rfl (fun hg => (Z8 [] rfl (Ze hg rfl) (Zg (Ze hg rfl) (Zg (Ze hg rfl) Z05)) (Z25 _ _) List.nodup_nil)) ?_
       refine Zc (wT rfl rfl rfl rfl) rfl (fun hg => (Zr rfl (Ze hg rfl) rfl rfl)) ?_
       refine Zc (wT rfl rfl rfl rfl) rfl (fun hg => (Z03 rfl (Ze hg rfl))) ?_
       refine ce (Zs rfl rfl rfl (fun h => h)) ?_
       refine .done (qN ?_)
       refine Z2 rfl ?_ ?_
       ·intro hc
        have ha0 : 0 < x.2.1 := by have := Z27 hc; simpa using this
        have hpe := Z1u (Z28 hc)
        refine qS (qR (qM (qM (qM (qM (qM ?_))))))
        refine Z5 [_] _ (w0 rfl) rfl rfl rfl rfl (Zk (k := 0) rfl) (Z2t q n _ (by omega) hN x.2.1 x.2.2.1 p2 hp2'.1 hp2'.2 (by omega)) (fun v27 hv27 => ?_)
        refine qA (qN (qS (qR (qM (qA (qN (qX ?_)))))))
        refine ⟨(v27.1, v27.2, x.2.2.1, x.2.2.2.1, x.2.2.2.2.1, x.2.2.2.2.2), (by obtain ⟨j, e, he⟩ := hv27.2.2.2.2; exact (hJ3.move (by omega) hv27.1).equal tLtT.ok (by omega) ha0 (by rw [hv27.1.out (.inl (by omega)), hv27.2.2.2.1]; exact hpe) he e hv27.2.1 hv27.2.2.1), (by (try simp only) <;> (have := hv27.2.1; omega)), ?_⟩
        exact qp [0] ⟨rfl, rfl, rfl, rfl, rfl, rfl, rfl, trivial⟩
       ·intro hc
        refine qK (qS (qR (qM (qM (qM (qM (qM ?_)))))))
        refine Z5 [_] _ (w0 rfl) rfl rfl rfl rfl (Zk (k := 0) rfl) (Z3c q n _ (by omega) hN x.2.1 x.2.2.1 p2 hp2'.1 hp2'.2 (by omega)) (fun v28 hv28 => ?_)
        refine qM ?_
        refine qe (Zi rfl rfl rfl) ?_
        refine qe (Zi rfl rfl rfl) ?_
        refine qA (qA (qN (qS (qR (qM (qA (qN (qS ?_))))))))
        have hJ4 := hJ3.move (by omega) hv28.1
        have hl4 := hJ4.sw.len
        have hmid : x.2.1 ≤ v28.2.1 ∧ v28.2.1 < x.2.2.1 := ⟨hv28.2.1, hv28.2.2.1⟩
        refine qR (qM (qM ?_))
        refine qe eL ?_
        refine qM (qM ?_)
        refine qe eL ?_
        refine qA (qA (qN (qS (qR (qM ?_)))))
        refine qe (Zv (y := iA ((x.2.2.1 - x.2.1) / 8 : Nat)) (Z0r rfl rfl rfl (by decide) (Z0l (x.2.2.1 - x.2.1) 8 (by omega))) (congrArg iA (Z1p (x.2.2.1 - x.2.1) 8))) ?_
        refine qA (qN (qS (qR (qM (qM ?_)))))
        refine qe eI ?_
        refine qN ?_
        refine Z2 rfl ?_ ?_
        ·intro hc
         refine qS (qR (qM (qM ?_)))
         refine qe eI ?_
         refine qA (qN (qS ?_))
         refine Z0f 10 rfl (fun wb hwb => ?_)
         refine qR (qM (qM (qM (qM (qM ?_)))))
         refine Z5 [_] _ (w0 rfl) rfl rfl rfl rfl (Zk (k := 0) rfl) (ih (v28.2.1 - x.2.1) (by omega) _ (by omega) x.2.1 v28.2.1 _ (Nat.le_refl _) (by omega) (by omega) (hJ4.bd.le (by omega))) (fun v29 hv29 => ?_)
         refine qN (qR (qM ?_))
         refine qe eP ?_
         refine qA (qN ?_)
         refine ⟨(v29, v28.2.1 + 1, x.2.2.1, x.2.2.2.1, wb, v28.2.2), (hJ4.lower tLtT.ok (by omega) hmid hv28.2.2.2 hv29.1 hv29.2), (by (try simp only) <;> omega), ?_⟩
         exact qp [0] ⟨rfl, rfl, rfl, rfl, rfl, rfl, rfl, trivial⟩
        ·intro hc
         refine qS (qR (qM (qM ?_)))
         refine qe eI ?_
         refine qA (qN (qS ?_))
         refine Z0f 10 rfl (fun wb hwb => ?_)
         refine qR (qM (qM ?_))
         refine qe eP ?_
         refine qM (qM (qM ?_))
         refine Z5 [_] _ (w0 rfl) rfl rfl rfl rfl (Zk (k := 0) rfl) (ih (x.2.2.1 - (v28.2.1 + 1)) (by omega) _ (by omega) (v28.2.1 + 1) x.2.2.1 _ (Nat.le_refl _) (by omega) (by omega) hv28.2.2.2.bd) (fun v30 hv30 => ?_)
         refine qN (qR (qM (qA (qN ?_))))
         refine ⟨(v30, x.2.1, v28.2.1, x.2.2.2.1, wb, v28.2.2), (hJ4.upper tLtT.ok (by omega) hmid hv28.2.2.2 hv30.1 hv30.2), (by (try simp only) <;> omega), ?_⟩
         exact qp [0] ⟨rfl, rfl, rfl, rfl, rfl, rfl, rfl, trivial⟩
     ·intro hc
      have hJ3 := hJ2
      have hl3 := hJ3.sw.len
      refine qK (qS (qS ?_))
      refine Zz [0, 1, 3, 7, 7, 7, 39, 119, 247, 7, 7, 1543, 3591, 8191, 16383, 32767, 65535] 17 rfl (by kernel_rfl) ?_
      refine cM2 ?_
      refine ce eI ?_
      refine cM2 (cTM (cTM (cTM ?_)))
      refine Zc (wT rfl rfl rfl rfl) rfl (fun hg => (Z9 rfl (Ze hg rfl) rfl (Z0c (by omega)))) ?_
      refine Zc (wT rfl rfl rfl rfl) rfl (fun hg => (Z1 (x.2.1 - 1) rfl (Ze hg rfl) (Ze hg rfl) (by (try simp at hg) <;> omega) (by (try simp at hg) <;> omega) (by omega))) ?_
      refine Z0d 0 (wT rfl rfl rfl rfl) rfl rfl (fun hg => (Ze hg rfl)) rfl (fun hg => by (try simp at hg) <;> omega) (fun _ => Z3) ?_
      refine cTM (cTM ?_)
      refine Zc (wT rfl rfl rfl rfl) rfl (fun hg => (Z1 p2 rfl (Ze hg rfl) (Ze hg rfl) (by (try simp at hg) <;> omega) (by (try simp at hg) <;> omega) (by omega))) ?_
      refine Z0d 0 (wT rfl rfl rfl rfl) rfl rfl (fun hg => (Ze hg rfl)) rfl (fun hg => by (try simp at hg) <;> omega) (fun _ => Z3) ?_
      refine Zc (wT rfl rfl rfl rfl) rfl (fun hg => (Z8 [] rfl (Ze hg rfl) (Zg (Ze hg rfl) (Zg (Ze hg rfl) Z05)) (Z25 _ _) List.nodup_nil)) ?_
      refine Zc (wT rfl rfl rfl rfl) rfl (fun hg => (Zr rfl (Ze hg rfl) rfl rfl)) ?_
      refine Zc (wT rfl rfl rfl rfl) rfl (fun hg => (Z03 rfl (Ze hg rfl))) ?_
      refine ce (Zs rfl rfl rfl (fun h => h)) ?_
      refine .done (qN ?_)
      refine Z2 rfl ?_ ?_
      ·intro hc
       have ha0 : 0 < x.2.1 := by have := Z27 hc; simpa using this
       have hpe := Z1u (Z28 hc)
       refine qS (qR (qM (qM (qM (qM (qM ?_))))))
       refine Z5 [_] _ (w0 rfl) rfl rfl rfl rfl (Zk (k := 0) rfl) (Z2t q n _ (by omega) hN x.2.1 x.2.2.1 p2 hp2'.1 hp2'.2 (by omega)) (fun v31 hv31 => ?_)
       refine qA (qN (qS (qR (qM (qA (qN (qX ?_)))))))
       refine ⟨(v31.1, v31.2, x.2.2.1, x.2.2.2.1, x.2.2.2.2.1, x.2.2.2.2.2), (by obtain ⟨j, e, he⟩ := hv31.2.2.2.2; exact (hJ3.move (by omega) hv31.1).equal tLtT.ok (by omega) ha0 (by rw [hv31.1.out (.inl (by omega)), hv31.2.2.2.1]; exact hpe) he e hv31.2.1 hv31.2.2.1), (by (try simp only) <;> (have := hv31.2.1; omega)), ?_⟩
       exact qp [0] ⟨rfl, rfl, rfl, rfl, rfl, rfl, rfl, trivial⟩
      ·intro hc
       refine qK (qS (qR (qM (qM (qM (qM (qM ?_)))))))
       refine Z5 [_] _ (w0 rfl) rfl rfl rfl rfl (Zk (k := 0) rfl) (Z3c q n _ (by omega) hN x.2.1 x.2.2.1 p2 hp2'.1 hp2'.2 (by omega)) (fun v32 hv32 => ?_)
       refine qM ?_
       refine qe (Zi rfl rfl rfl) ?_
       refine qe (Zi rfl rfl rfl) ?_
       refine qA (qA (qN (qS (qR (qM (qA (qN (qS ?_))))))))
       have hJ4 := hJ3.move (by omega) hv32.1
       have hl4 := hJ4.sw.len
       have hmid : x.2.1 ≤ v32.2.1 ∧ v32.2.1 < x.2.2.1 := ⟨hv32.2.1, hv32.2.2.1⟩
       refine qR (qM (qM ?_))
       refine qe eL ?_
       refine qM (qM ?_)
       refine qe eL ?_
       refine qA (qA (qN (qS (qR (qM ?_)))))
       refine qe (Zv (y := iA ((x.2.2.1 - x.2.1) / 8 : Nat)) (Z0r rfl rfl rfl (by decide) (Z0l (x.2.2.1 - x.2.1) 8 (by omega))) (congrArg iA (Z1p (x.2.2.1 - x.2.1) 8))) ?_
       refine qA (qN (qS (qR (qM (qM ?_)))))
       refine qe eI ?_
       refine qN ?_
       refine Z2 rfl ?_ ?_
       ·intro hc
        refine qS (qR (qM (qM ?_)))
        refine qe eI ?_
        refine qA (qN (qS ?_))
        refine Z0f 10 rfl (fun wb hwb => ?_)
        refine qR (qM (qM (qM (qM (qM ?_)))))
        refine Z5 [_] _ (w0 rfl) rfl rfl rfl rfl (Zk (k := 0) rfl) (ih (v32.2.1 - x.2.1) (by omega) _ (by omega) x.2.1 v32.2.1 _ (Nat.le_refl _) (by omega) (by omega) (hJ4.bd.le (by omega))) (fun v33 hv33 => ?_)
        refine qN (qR (qM ?_))
        refine qe eP ?_
        refine qA (qN ?_)
        refine ⟨(v33, v32.2.1 + 1, x.2.2.1, x.2.2.2.1, wb, v32.2.2), (hJ4.lower tLtT.ok (by omega) hmid hv32.2.2.2 hv33.1 hv33.2), (by (try simp only) <;> omega), ?_⟩
        exact qp [0] ⟨rfl, rfl, rfl, rfl, rfl, rfl, rfl, trivial⟩
       ·intro hc
        refine qS (qR (qM (qM ?_)))
        refine qe eI ?_
        refine qA (qN (qS ?_))
        refine Z0f 10 rfl (fun wb hwb => ?_)
        refine qR (qM (qM ?_))
        refine qe eP ?_
        refine qM (qM (qM ?_))
        refine Z5 [_] _ (w0 rfl) rfl rfl rfl rfl (Zk (k := 0) rfl) (ih (x.2.2.1 - (v32.2.1 + 1)) (by omega) _ (by omega) (v32.2.1 + 1) x.2.2.1 _ (Nat.le_refl _) (by omega) (by omega) hv32.2.2.2.bd) (fun v34 hv34 => ?_)
        refine qN (qR (qM (qA (qN ?_))))
        refine ⟨(v34, x.2.1, v32.2.1, x.2.2.2.1, wb, v32.2.2), (hJ4.upper tLtT.ok (by omega) hmid hv32.2.2.2 hv34.1 hv34.2), (by (try simp only) <;> omega), ?_⟩
        exact qp [0] ⟨rfl, rfl, rfl, rfl, rfl, rfl, rfl, trivial⟩
    ·intro hc
     have hJ2 := hJ1
     refine qK (qS (qS ?_))
     refine Z0h 13 rfl (fun p2 hp2 => ?_)
     have hp2' : x.2.1 ≤ p2 ∧ p2 < x.2.2.1 := by omega
     refine qR (qM (qM (qTM ?_)))
     refine qe (Zs rfl rfl rfl (fun h => h)) ?_
     refine qM (qTM ?_)
     refine Zp (wT rfl rfl rfl rfl) rfl (fun hg => (Zr rfl (Ze hg rfl) rfl rfl)) ?_
     refine qe (Zs rfl rfl rfl (fun h => h)) ?_
     refine qN ?_
     refine Z2 rfl ?_ ?_
     ·intro hc
      refine qS (qR (qM (qM (qM (qM ?_)))))
      refine Z5 [_] _ (w0 rfl) rfl rfl rfl rfl (Zk (k := 0) rfl) (Z3q q n _ (by have := hJ2.sw.len; omega) hN x.2.1 x.2.2.1 (by omega) (by omega) hJ2.bd) (fun v35 hv35 => ?_)
      have hJ3 := hJ2.move (by omega) hv35.1
      refine qN ?_
      refine Z2 rfl ?_ ?_
      ·intro hc
       refine qE ?_
       exact Zf rfl Z4 (.cons_cons _ .slnil) (gp v35.1 ⟨hJ3.sw, hJ2.fin _ hv35.1 ((hv35.2 hc).on tLtT.ok)⟩ rfl rfl)
      ·intro hc
       have hl3 := hJ3.sw.len
       refine qK (qS (qS ?_))
       refine Zz [0, 1, 3, 7, 7, 7, 39, 119, 247, 7, 7, 1543, 3591, 8191, 16383, 32767, 65535] 17 rfl (by kernel_rfl) ?_
       refine cM2 ?_
       refine ce eI ?_
       refine cM2 (cTM (cTM (cTM ?_)))
       refine Zc (wT rfl rfl rfl rfl) rfl (fun hg => (Z9 rfl (Ze hg rfl) rfl (Z0c (by omega)))) ?_
       refine Zc (wT rfl rfl rfl rfl) rfl (fun hg => (Z1 (x.2.1 - 1) rfl (Ze hg rfl) (Ze hg rfl) (by (try simp at hg) <;> omega) (by (try simp at hg) <;> omega) (by omega))) ?_
       refine Z0d 0 (wT rfl rfl rfl rfl) rfl rfl (fun hg => (Ze hg rfl)) rfl (fun hg => by (try simp at hg) <;> omega) (fun _ => Z3) ?_
       refine cTM (cTM ?_)
       refine Zc (wT rfl rfl rfl rfl) rfl (fun hg => (Z1 p2 rfl (Ze hg rfl) (Ze hg rfl) (by (try simp at hg) <;> omega) (by (try simp at hg) <;> omega) (by omega))) ?_
       refine Z0d 0 (wT rfl rfl rfl rfl) rfl rfl (fun hg => (Ze hg rfl)) rfl (fun hg => by (try simp at hg) <;> omega) (fun _ => Z3) ?_
       refine Zc (wT rfl rfl rfl rfl) rfl (fun hg => (Z8 [] rfl (Ze hg rfl) (Zg (Ze hg rfl) (Zg (Ze hg rfl) Z05)) (Z25 _ _) List.nodup_nil)) ?_
       refine Zc (wT rfl rfl rfl rfl) rfl (fun hg => (Zr rfl (Ze hg rfl) rfl rfl)) ?_
       refine Zc (wT rfl rfl rfl rfl) rfl (fun hg => (Z03 rfl (Ze hg rfl))) ?_
       refine ce (Zs rfl rfl rfl (fun h => h)) ?_
       refine .done (qN ?_)
       refine Z2 rfl ?_ ?_
       ·intro hc
        have ha0 : 0 < x.2.1 := by have := Z27 hc; simpa using this
        have hpe := Z1u (Z28 hc)
        refine qS (qR (qM (qM (qM (qM (qM ?_))))))
        refine Z5 [_] _ (w0 rfl) rfl rfl rfl rfl (Zk (k := 0) rfl) (Z2t q n _ (by omega) hN x.2.1 x.2.2.1 p2 hp2'.1 hp2'.2 (by omega)) (fun v36 hv36 => ?_)
        refine qA (qN (qS (qR (qM (qA (qN (qX ?_)))))))
        refine ⟨(v36.1, v36.2, x.2.2.1, x.2.2.2.1, x.2.2.2.2.1, x.2.2.2.2.2), (by obtain ⟨j, e, he⟩ := hv36.2.2.2.2; exact (hJ3.move (by omega) hv36.1).equal tLtT.ok (by omega) ha0 (by rw [hv36.1.out (.inl (by omega)), hv36.2.2.2.1]; exact hpe) he e hv36.2.1 hv36.2.2.1), (by (try simp only) <;> (have := hv36.2.1; omega)), ?_⟩
        exact qp [0] ⟨rfl, rfl, rfl, rfl, rfl, rfl, rfl, trivial⟩
       ·intro hc
        refine qK (qS (qR (qM (qM (qM (qM (qM ?_)))))))
        refine Z5 [_] _ (w0 rfl) rfl rfl rfl rfl (Zk (k := 0) rfl) (Z3c q n _ (by omega) hN x.2.1 x.2.2.1 p2 hp2'.1 hp2'.2 (by omega)) (fun v37 hv37 => ?_)
        refine qM ?_
        refine qe (Zi rfl rfl rfl) ?_
        refine qe (Zi rfl rfl rfl) ?_
        refine qA (qA (qN (qS (qR (qM (qA (qN (qS ?_))))))))
        have hJ4 := hJ3.move (by omega) hv37.1
        have hl4 := hJ4.sw.len
        have hmid : x.2.1 ≤ v37.2.1 ∧ v37.2.1 < x.2.2.1 := ⟨hv37.2.1, hv37.2.2.1⟩
        refine qR (qM (qM ?_))
        refine qe eL ?_
        refine qM (qM ?_)
        refine qe eL ?_
        refine qA (qA (qN (qS (qR (qM ?_)))))
        refine qe (Zv (y := iA ((x.2.2.1 - x.2.1) / 8 : Nat)) (Z0r rfl rfl rfl (by decide) (Z0l (x.2.2.1 - x.2.1) 8 (by omega))) (congrArg iA (Z1p (x.2.2.1 - x.2.1) 8))) ?_
        refine qA (qN (qS (qR (qM (qM ?_)))))
        refine qe eI ?_
        refine qN ?_
        refine Z2 rfl ?_ ?_
        ·intro hc
         refine qS (qR (qM (qM ?_)))
         refine qe eI ?_
         refine qA (qN (qS ?_))
         refine Z0f 10 rfl (fun wb hwb => ?_)
         refine qR (qM (qM (qM (qM (qM ?_)))))
         refine Z5 [_] _ (w0 rfl) rfl rfl rfl rfl (Zk (k := 0) rfl) (ih (v37.2.1 - x.2.1) (by omega) _ (by omega) x.2.1 v37.2.1 _ (Nat.le_refl _) (by omega) (by omega) (hJ4.bd.le (by omega))) (fun v38 hv38 => ?_)
         refine qN (qR (qM ?_))
         refine qe eP ?_
         refine qA (qN ?_)
         refine ⟨(v38, v37.2.1 + 1, x.2.2.1, x.2.2.2.1, wb, v37.2.2), (hJ4.lower tLtT.ok (by omega) hmid hv37.2.2.2 hv38.1 hv38.2), (by (try simp only) <;> omega), ?_⟩
         exact qp [0] ⟨rfl, rfl, rfl, rfl, rfl, rfl, rfl, trivial⟩
        ·intro hc
         refine qS (qR (qM (qM ?_)))
         refine qe eI ?_
         refine qA (qN (qS ?_))
         refine Z0f 10 rfl (fun wb hwb => ?_)
         refine qR (qM (qM ?_))
         refine qe eP ?_
         refine qM (qM (qM ?_))
         refine Z5 [_] _ (w0 rfl) rfl rfl rfl rfl (Zk (k := 0) rfl) (ih (x.2.2.1 - (v37.2.1 + 1)) (by omega) _ (by omega) (v37.2.1 + 1) x.2.2.1 _ (Nat.le_refl _) (by omega) (by omega) hv37.2.2.2.bd) (fun v39 hv39 => ?_)
         refine qN (qR (qM (qA (qN ?_))))
         refine ⟨(v39, x.2.1, v37.2.1, x.2.2.2.1, wb, v37.2.2), (hJ4.upper tLtT.ok (by omega) hmid hv37.2.2.2 hv39.1 hv39.2), (by (try simp only) <;> omega), ?_⟩
         exact qp [0] ⟨rfl, rfl, rfl, rfl, rfl, rfl, rfl, trivial⟩
     ·intro hc
      have hJ3 := hJ2
      have hl3 := hJ3.sw.len
      refine qK (qS (qS ?_))
      refine Zz [0, 1, 3, 7, 7, 7, 39, 119, 247, 7, 7, 1543, 3591, 8191, 16383, 32767, 65535] 17 rfl (by kernel_rfl) ?_
      refine cM2 ?_
      refine ce eI ?_
      refine cM2 (cTM (cTM (cTM ?_)))
      refine Zc (wT rfl rfl rfl rfl) rfl (fun hg => (Z9 rfl (Ze hg rfl) rfl (Z0c (by omega)))) ?_
      refine Zc (wT rfl rfl rfl rfl) rfl (fun hg => (Z1 (x.2.1 - 1) rfl (Ze hg rfl) (Ze hg rfl) (by (try simp at hg) <;> omega) (by (try simp at hg) <;> omega) (by omega))) ?_
      refine Z0d 0 (wT rfl rfl rfl rfl) rfl rfl (fun hg => (Ze hg rfl)) rfl (fun hg => by (try simp at hg) <;> omega) (fun _ => Z3) ?_
      refine cTM (cTM ?_)
      refine Zc (wT rfl rfl rfl rfl) rfl (fun hg => (Z1 p2 rfl (Ze hg rfl) (Ze hg rfl) (by (try simp at hg) <;> omega) (by (try simp at hg) <;> omega) (by omega))) ?_
      refine Z0d 0 (wT rfl rfl rfl rfl) rfl rfl (fun hg => (Ze hg rfl)) rfl (fun hg => by (try simp at hg) <;> omega) (fun _ => Z3) ?_
      refine Zc (wT rfl rfl rfl rfl) rfl (fun hg => (Z8 [] rfl (Ze hg rfl) (Zg (Ze hg rfl) (Zg (Ze hg rfl) Z05)) (Z25 _ _) List.nodup_nil)) ?_
      refine Zc (wT rfl rfl rfl rfl) rfl (fun hg => (Zr rfl (Ze hg rfl) rfl rfl)) ?_
      refine Zc (wT rfl rfl rfl rfl) rfl (fun hg => (Z03 rfl (Ze hg rfl))) ?_
      refine ce (Zs rfl rfl rfl (fun h => h)) ?_
      refine .done (qN ?_)
      refine Z2 rfl ?_ ?_
      ·intro hc
       have ha0 : 0 < x.2.1 := by have := Z27 hc; simpa using this
       have hpe := Z1u (Z28 hc)
       refine qS (qR (qM (qM (qM (qM (qM ?_))))))
       refine Z5 [_] _ (w0 rfl) rfl rfl rfl rfl (Zk (k := 0) rfl) (Z2t q n _ (by omega) hN x.2.1 x.2.2.1 p2 hp2'.1 hp2'.2 (by omega)) (fun v40 hv40 => ?_)
       refine qA (qN (qS (qR (qM (qA (qN (qX ?_)))))))
       refine ⟨(v40.1, v40.2, x.2.2.1, x.2.2.2.1, x.2.2.2.2.1, x.2.2.2.2.2), (by obtain ⟨j, e, he⟩ := hv40.2.2.2.2; exact (hJ3.move (by omega) hv40.1).equal tLtT.ok (by omega) ha0 (by rw [hv40.1.out (.inl (by omega)), hv40.2.2.2.1]; exact hpe) he e hv40.2.1 hv40.2.2.1), (by (try simp only) <;> (have := hv40.2.1; omega)), ?_⟩
       exact qp [0] ⟨rfl, rfl, rfl, rfl, rfl, rfl, rfl, trivial⟩
      ·intro hc
       refine qK (qS (qR (qM (qM (qM (qM (qM ?_)))))))
       refine Z5 [_] _ (w0 rfl) rfl rfl rfl rfl (Zk (k := 0) rfl) (Z3c q n _ (by omega) hN x.2.1 x.2.2.1 p2 hp2'.1 hp2'.2 (by omega)) (fun v41 hv41 => ?_)
       refine qM ?_
       refine qe (Zi rfl rfl rfl) ?_
       refine qe (Zi rfl rfl rfl) ?_
       refine qA (qA (qN (qS (qR (qM (qA (qN (qS ?_))))))))
       have hJ4 := hJ3.move (by omega) hv41.1
       have hl4 := hJ4.sw.len
       have hmid : x.2.1 ≤ v41.2.1 ∧ v41.2.1 < x.2.2.1 := ⟨hv41.2.1, hv41.2.2.1⟩
       refine qR (qM (qM ?_))
       refine qe eL ?_
       refine qM (qM ?_)
       refine qe eL ?_
       refine qA (qA (qN (qS (qR (qM ?_)))))
       refine qe (Zv (y := iA ((x.2.2.1 - x.2.1) / 8 : Nat)) (Z0r rfl rfl rfl (by decide) (Z0l (x.2.2.1 - x.2.1) 8 (by omega))) (congrArg iA (Z1p (x.2.2.1 - x.2.1) 8))) ?_
       refine qA (qN (qS (qR (qM (qM ?_)))))
       refine qe eI ?_
       refine qN ?_
       refine Z2 rfl ?_ ?_
       ·intro hc
        refine qS (qR (qM (qM ?_)))
        refine qe eI ?_
        refine qA (qN (qS ?_))
        refine Z0f 10 rfl (fun wb hwb => ?_)
        refine qR (qM (qM (qM (qM (qM ?_)))))
        refine Z5 [_] _ (w0 rfl) rfl rfl rfl rfl (Zk (k := 0) rfl) (ih (v41.2.1 - x.2.1) (by omega) _ (by omega) x.2.1 v41.2.1 _ (Nat.le_refl _) (by omega) (by omega) (hJ4.bd.le (by omega))) (fun v42 hv42 => ?_)
        refine qN (qR (qM ?_))
        refine qe eP ?_
        refine qA (qN ?_)
        refine ⟨(v42, v41.2.1 + 1, x.2.2.1, x.2.2.2.1, wb, v41.2.2), (hJ4.lower tLtT.ok (by omega) hmid hv41.2.2.2 hv42.1 hv42.2), (by (try simp only) <;> omega), ?_⟩
        exact qp [0] ⟨rfl, rfl, rfl, rfl, rfl, rfl, rfl, trivial⟩
       ·intro hc
        refine qS (qR (qM (qM ?_)))
        refine qe eI ?_
        refine qA (qN (qS ?_))
        refine Z0f 10 rfl (fun wb hwb => ?_)
        refine qR (qM (qM ?_))
        refine qe eP ?_
        refine qM (qM (qM ?_))
        refine Z5 [_] _ (w0 rfl) rfl rfl rfl rfl (Zk (k := 0) rfl) (ih (x.2.2.1 - (v41.2.1 + 1)) (by omega) _ (by omega) (v41.2.1 + 1) x.2.2.1 _ (Nat.le_refl _) (by omega) (by omega) hv41.2.2.2.bd) (fun v43 hv43 => ?_)
        refine qN (qR (qM (qA (qN ?_))))
        refine ⟨(v43, x.2.1, v41.2.1, x.2.2.2.1, wb, v41.2.2), (hJ4.upper tLtT.ok (by omega) hmid hv41.2.2.2 hv43.1 hv43.2), (by (try simp only) <;> omega), ?_⟩
        exact qp [0] ⟨rfl, rfl, rfl, rfl, rfl, rfl, rfl, trivial⟩
theorem Zfu (q n : Nat) (l : List Str) (hn : l.length = n) (hN : n ≤ 140737488355328)  : ACalls Tryz.prog 93 [.own q 1 0 n, .fn (.func 52) []] [(q, .rows 9 1 (l.map fun x => [sA x]))] (GP (fun _ : List Str => mkRes []) (fun m => [(q, .rows 9 1 (m.map fun x => [sA x]))]) (fun m => m.Perm l ∧ SOn tLt 0 n m)) := by
 refine Zd (n := 14) Tryz.func93 rfl (by decide +kernel) rfl rfl ?_
 refine qS (qR (qM ?_))
 refine qe (Zx rfl rfl rfl rfl) ?_
 refine qA (qN (qR (qM (qM (qM ?_)))))
 refine qe (Zv (y := xA n) (Z0i rfl rfl) (congrArg xA (Z37 (by omega)))) ?_
 refine Z23 (w0 rfl) rfl rfl rfl rfl (Z48 n (by omega)) (fun v1 hv1 => ?_)
 refine qM ?_
 refine Z5 [_] _ (w0 rfl) rfl rfl rfl rfl (Zk (k := 0) rfl) (Zgk q n hN n l hn 0 n _ (by omega) (by omega) (Nat.le_refl _) (.inl rfl)) (fun v2 hv2 => ?_)
 refine qN ?_
 exact Zf rfl Z4 (.cons_cons _ .slnil) (gp v2 ⟨hv2.1.perm, hv2.2⟩ rfl rfl)
end Go.Sx
