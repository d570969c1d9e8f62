/- Rows of elements of several cells: loads, stores, in regions of each kind. -/
import Derived.Test.YtaphgfiboidpbaaBaSxDrawV
set_option linter.unusedSimpArgs false
set_option linter.unusedVariables false
set_option linter.unusedSectionVars false
namespace Go.Sx
open Go

section
variable {α : Type} [Inhabited α]
theorem own_getC {f : α → List AV} {l : List α} {i : Nat} (h : i < l.length) : (l.map f)[i]? = some (f (l.getD i default)) := by simp [h, List.getD]
theorem ld_aggC {P : Program} {t n : Nat} {f : α → List AV} {x : α} [k : TK P t true n] (hl : (f x).length = n) : Ld P t ((f x).drop 0) (.agg (f x)) := by
  have h := ld_agg (P := P) (t := t) (n := n) (l := (f x).drop 0) (by simp [hl])
  have e : ((f x).drop 0).take n = f x := by rw [List.drop_zero, ← hl, List.take_length]
  rw [e] at h; exact h
theorem set_cells {f : α → List AV} {n : Nat} {l : List α} {i : Nat} {x : α} (hl : ∀ x, (f x).length = n) :
    (l.map f).set i ((f (l.getD i default)).take 0 ++ cellsA (.agg (f x)) ++ (f (l.getD i default)).drop (0 + (cellsA (.agg (f x))).length)) = (l.set i x).map f := by
  rw [List.map_set]
  congr 1
  show [] ++ f x ++ (f (l.getD i default)).drop (0 + (f x).length) = f x
  rw [hl x, Nat.zero_add, List.drop_of_length_le (by rw [hl]; exact Nat.le_refl _)]
  simp
variable {P : Program} {ro : Option Nat} {Q : Exit → St → Prop} {s : St} {ops : Array Oper} {o : Oper} {rest : List Oper}
theorem aops_storeC {t n id el i : Nat} {b : Bool} {p q : Operand} {f : α → List AV} {l : List α} {x : α} (k : Nat) [kt : TK P t b n] (hl : ∀ x, (f x).length = n) (h1 : ∀ x, (f x).all one = true) (hw : Wanted ops s.T o true) (hd : dok o.dst s.n = true)
    (ho : o.op = .store t p q) (hp : ev s.T p = some (.ptr id n i 0)) (hH : s.H[k]? = some (id, .rows el n (l.map f))) (hi : i < l.length) (hq : ev s.T q = some (.agg (f x)))
    (h : AOps P ro ops rest Q { s with T := put s.T o.dst (.v undef), H := s.H.set k (id, .rows el n ((l.set i x).map f)) }) : AOps P ro ops (o :: rest) Q s := by
  refine aops_store k hw hd ho hp hH (own_getC hi) hq (hl x) (h1 x) (by rw [Nat.zero_add]; exact Nat.ble_eq ▸ Nat.le_refl n) ?_
  rw [set_cells hl]; exact h
theorem calm_gloadC {H0 : AHeap} {K : St → Prop} {kk : Nat} {M : List (Nat × (Nat × AObj))} {e : Bool} {t n : TypeId} {p : Operand} {id el i : Nat} {f : α → List AV} {l : List α} (k : Nat) (hw : Wanted ops s.T o e) (hd : dok o.dst s.n = true) (ho : o.op = .load t p) (hp : e = true → ev s.T p = some (.ptr id n i 0))
    (hH : H0[k]? = some (id, .rows el n (l.map f))) (hi : e = true → i < l.length) (hl : ∀ x, Ld P t ((f x).drop 0) (.agg (f x))) (h : Calm P ops H0 K (kk + 1) rest M { s with T := put s.T o.dst (cond e (.agg (f (l.getD i default))) (.v undef)) }) : Calm P ops H0 K kk (o :: rest) M s := by
  cases e
  · exact .off hw hd h
  · exact calm_load_ptr k hw hd ho (hp rfl) hH (own_getC (hi rfl)) (hl _) h
theorem effW_storeC {T : List (Nat × AV)} {t n id el i : Nat} {b : Bool} {p q : Operand} {f : α → List AV} {l : List α} {x : α} {H : AHeap} (k : Nat) [kt : TK P t b n] (hl : ∀ x, (f x).length = n) (h1 : ∀ x, (f x).all one = true)
    (ho : o.op = .store t p q) (hp : ev T p = some (.ptr id n i 0)) (hH : H[k]? = some (id, .rows el n (l.map f))) (hi : i < l.length) (hq : ev T q = some (.agg (f x))) : EffW P o T H (H.set k (id, .rows el n ((l.set i x).map f))) := by
  have h := effW_store (P := P) (b := b) k ho hp hH (own_getC hi) hq (hl x) (h1 x) (by rw [Nat.zero_add]; exact Nat.ble_eq ▸ Nat.le_refl n)
  rw [set_cells hl] at h; exact h
theorem wcalm_storeC {H0 : AHeap} {ws rs : List Nat} {K : St → Prop} {k : Nat} {t n id el i : Nat} {b : Bool} {p q : Operand} {f : α → List AV} {l : List α} {x : α} (j : Nat) [kt : TK P t b n] (hl : ∀ x, (f x).length = n) (h1 : ∀ x, (f x).all one = true) (hw : Wanted ops s.T o true) (hd : dok o.dst s.n = true)
    (ho : o.op = .store t p q) (hp : ev s.T p = some (.ptr id n i 0)) (hH : s.H[j]? = some (id, .rows el n (l.map f))) (hi : i < l.length) (hq : ev s.T q = some (.agg (f x))) (hk : ws.contains k = true)
    (h : WCalm P ops H0 ws rs K (k + 1) rest { s with T := put s.T o.dst (.v undef), H := s.H.set j (id, .rows el n ((l.set i x).map f)) }) : WCalm P ops H0 ws rs K k (o :: rest) s :=
  .write _ hw hd (effW_storeC j hl h1 ho hp hH hi hq) hk h
end
end Go.Sx
