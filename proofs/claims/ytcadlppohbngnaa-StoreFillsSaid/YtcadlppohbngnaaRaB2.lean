/- YtcadlppohbngnaaRaB2: texts of this claim, one behind the other. -/
import Derived.Lib.Bytealg
import Derived.Laws.Externs
import Derived.Test.YtcadlppohbngnaaRaB1
set_option linter.unusedVariables false
set_option linter.unusedSimpArgs false
set_option linter.unusedSectionVars false
set_option linter.unnecessarySimpa false
namespace Go.Sx
open Go
class Con (P : Program) (f : Nat) (xs : List AV) (x : outParam AV) : Prop where
 c : ACalls P f xs [] (Gives x)
structure Wk (A : Prop) : Prop where
 x : A
theorem wY {ops : Array Oper} {o : Oper} {T : List (Nat × AV)} {g t : Nat} {b : Bool} {og : Oper} (h : o.guard = some (g, b)) (h1 : ops[g]? = some og) (h2 : og.dst = some t) (h3 : lk T t = some (.v (.bool b))) : Wanted ops T o true := by
 cases b
 ·exact wF h h1 h2 h3
 ·exact wT h h1 h2 h3
theorem wZ {ops : Array Oper} {o : Oper} {T : List (Nat × AV)} {g t : Nat} {b : Bool} {og : Oper} (h : o.guard = some (g, b)) (h1 : ops[g]? = some og) (h2 : og.dst = some t) (h3 : lk T t = some (.v (.bool (!b)))) : Wanted ops T o false := by
 cases b
 ·exact wF h h1 h2 h3
 ·exact wT h h1 h2 h3
section
variable {P : Program} {t : TypeId} {r : List AV}
theorem Z1t {x1 x2 : AV} [h : TK P t true 2] : Ld P t (x1 :: x2 :: r) (.agg [x1, x2]) := .inr ⟨2, h.tk, by simp, rfl⟩
theorem Zam {x1 x2 x3 : AV} [h : TK P t true 3] : Ld P t (x1 :: x2 :: x3 :: r) (.agg [x1, x2, x3]) := .inr ⟨3, h.tk, by simp, rfl⟩
theorem Zan {x1 x2 x3 x4 : AV} [h : TK P t true 4] : Ld P t (x1 :: x2 :: x3 :: x4 :: r) (.agg [x1, x2, x3, x4]) := .inr ⟨4, h.tk, by simp, rfl⟩
theorem Zao {x1 x2 x3 x4 x5 : AV} [h : TK P t true 5] : Ld P t (x1 :: x2 :: x3 :: x4 :: x5 :: r) (.agg [x1, x2, x3, x4, x5]) := .inr ⟨5, h.tk, by simp, rfl⟩
theorem Zap {x1 x2 x3 x4 x5 x6 x7 : AV} [h : TK P t true 7] : Ld P t (x1 :: x2 :: x3 :: x4 :: x5 :: x6 :: x7 :: r) (.agg [x1, x2, x3, x4, x5, x6, x7]) := .inr ⟨7, h.tk, by simp, rfl⟩
end
def maskOf (ms : List Nat) (o : Oper) : Nat := o.after.foldl (fun m e => bif Region.binds .any e then m ||| (1 <<< e.on) ||| ms.getD e.on 0 else m) 0
def masksOf (l : List Oper) : List Nat := l.foldl (fun ms o => ms ++ [maskOf ms o]) []
section
variable {P : Program} {ro : Option Nat} {Q : Exit → St → Prop} {ops : Array Oper} {rest : List Oper} {T : List (Nat × AV)} {H : AHeap} {D : List Nat} {n d ty : Nat} {po : String} {af : Array Edge} {p q : Operand} {x y : AV} {t t' : TypeId} {H0 : AHeap} {KK : St → Prop} {kk : Nat} {M : List (Nat × (Nat × AObj))}
theorem zM  (h : AOps P ro ops rest Q ⟨(d, x) :: T, H, D, n⟩) (hp : ev T p = some x := by rfl) (hd : Nat.blt d n = true := by rfl) : AOps P ro ops ({ dst := some d, op := .move p, type := ty, pos := po, after := af, guard := none } :: rest) Q ⟨T, H, D, n⟩ := Z0 (w0 rfl) hd (Z0g rfl hp) h
theorem zcM  (h : Calm P ops H0 KK (kk + 1) rest M ⟨(d, x) :: T, H, D, n⟩) (hp : ev T p = some x := by rfl) (hd : Nat.blt d n = true := by rfl) : Calm P ops H0 KK kk ({ dst := some d, op := .move p, type := ty, pos := po, after := af, guard := none } :: rest) M ⟨T, H, D, n⟩ := Z2 (w0 rfl) hd (Z0g rfl hp) h
theorem Zed  {g gt : Nat} {gb : Bool} {og : Oper} (h : Calm P ops H0 KK (kk + 1) rest M ⟨(d, x) :: T, H, D, n⟩) (g1 : ops[g]? = some og := by rfl) (g2 : og.dst = some gt := by rfl) (g3 : lk T gt = some (.v (.bool gb)) := by rfl) (hp : ev T p = some x := by rfl) (hd : Nat.blt d n = true := by rfl) : Calm P ops H0 KK kk ({ dst := some d, op := .move p, type := ty, pos := po, after := af, guard := some (g, gb) } :: rest) M ⟨T, H, D, n⟩ := Z2 (wY rfl g1 g2 g3) hd (Z0g rfl hp) h
theorem zgM  {g gt : Nat} {gb : Bool} {og : Oper} (h : AOps P ro ops rest Q ⟨(d, x) :: T, H, D, n⟩) (g1 : ops[g]? = some og := by rfl) (g2 : og.dst = some gt := by rfl) (g3 : lk T gt = some (.v (.bool gb)) := by rfl) (hp : ev T p = some x := by rfl) (hd : Nat.blt d n = true := by rfl) : AOps P ro ops ({ dst := some d, op := .move p, type := ty, pos := po, after := af, guard := some (g, gb) } :: rest) Q ⟨T, H, D, n⟩ := Z0 (wY rfl g1 g2 g3) hd (Z0g rfl hp) h
theorem zA  (h : AOps P ro ops rest Q ⟨(d, x) :: T, H, D, n⟩) (hp : ev T p = some x := by rfl) (hd : Nat.blt d n = true := by rfl) : AOps P ro ops ({ dst := some d, op := .assign p, type := ty, pos := po, after := af, guard := none } :: rest) Q ⟨T, H, D, n⟩ := Z0 (w0 rfl) hd (Zp rfl hp) h
theorem zcA  (h : Calm P ops H0 KK (kk + 1) rest M ⟨(d, x) :: T, H, D, n⟩) (hp : ev T p = some x := by rfl) (hd : Nat.blt d n = true := by rfl) : Calm P ops H0 KK kk ({ dst := some d, op := .assign p, type := ty, pos := po, after := af, guard := none } :: rest) M ⟨T, H, D, n⟩ := Z2 (w0 rfl) hd (Zp rfl hp) h
theorem Ze7  {g gt : Nat} {gb : Bool} {og : Oper} (h : Calm P ops H0 KK (kk + 1) rest M ⟨(d, x) :: T, H, D, n⟩) (g1 : ops[g]? = some og := by rfl) (g2 : og.dst = some gt := by rfl) (g3 : lk T gt = some (.v (.bool gb)) := by rfl) (hp : ev T p = some x := by rfl) (hd : Nat.blt d n = true := by rfl) : Calm P ops H0 KK kk ({ dst := some d, op := .assign p, type := ty, pos := po, after := af, guard := some (g, gb) } :: rest) M ⟨T, H, D, n⟩ := Z2 (wY rfl g1 g2 g3) hd (Zp rfl hp) h
theorem zgA  {g gt : Nat} {gb : Bool} {og : Oper} (h : AOps P ro ops rest Q ⟨(d, x) :: T, H, D, n⟩) (g1 : ops[g]? = some og := by rfl) (g2 : og.dst = some gt := by rfl) (g3 : lk T gt = some (.v (.bool gb)) := by rfl) (hp : ev T p = some x := by rfl) (hd : Nat.blt d n = true := by rfl) : AOps P ro ops ({ dst := some d, op := .assign p, type := ty, pos := po, after := af, guard := some (g, gb) } :: rest) Q ⟨T, H, D, n⟩ := Z0 (wY rfl g1 g2 g3) hd (Zp rfl hp) h
theorem zI {b : BinOp} {k : IntKind} {u v : Int} {z : Bool} (h : AOps P ro ops rest Q ⟨(d, .v (.bool z)) :: T, H, D, n⟩) (hp : ev T p = some (.v (.int k u)) := by rfl) (hq : ev T q = some (.v (.int k v)) := by rfl) (hz : icmp b u v = some z := by rfl) (hd : Nat.blt d n = true := by rfl) : AOps P ro ops ({ dst := some d, op := .binOp b t p q t', type := ty, pos := po, after := af, guard := none } :: rest) Q ⟨T, H, D, n⟩ := Z0 (w0 rfl) hd (Z25 rfl hp hq hz) h
theorem zcI {b : BinOp} {k : IntKind} {u v : Int} {z : Bool} (h : Calm P ops H0 KK (kk + 1) rest M ⟨(d, .v (.bool z)) :: T, H, D, n⟩) (hp : ev T p = some (.v (.int k u)) := by rfl) (hq : ev T q = some (.v (.int k v)) := by rfl) (hz : icmp b u v = some z := by rfl) (hd : Nat.blt d n = true := by rfl) : Calm P ops H0 KK kk ({ dst := some d, op := .binOp b t p q t', type := ty, pos := po, after := af, guard := none } :: rest) M ⟨T, H, D, n⟩ := Z2 (w0 rfl) hd (Z25 rfl hp hq hz) h
theorem Ze9 {b : BinOp} {k : IntKind} {u v : Int} {z : Bool} {g gt : Nat} {gb : Bool} {og : Oper} (h : Calm P ops H0 KK (kk + 1) rest M ⟨(d, .v (.bool z)) :: T, H, D, n⟩) (g1 : ops[g]? = some og := by rfl) (g2 : og.dst = some gt := by rfl) (g3 : lk T gt = some (.v (.bool gb)) := by rfl) (hp : ev T p = some (.v (.int k u)) := by rfl) (hq : ev T q = some (.v (.int k v)) := by rfl) (hz : icmp b u v = some z := by rfl) (hd : Nat.blt d n = true := by rfl) : Calm P ops H0 KK kk ({ dst := some d, op := .binOp b t p q t', type := ty, pos := po, after := af, guard := some (g, gb) } :: rest) M ⟨T, H, D, n⟩ := Z2 (wY rfl g1 g2 g3) hd (Z25 rfl hp hq hz) h
theorem zgI {b : BinOp} {k : IntKind} {u v : Int} {z : Bool} {g gt : Nat} {gb : Bool} {og : Oper} (h : AOps P ro ops rest Q ⟨(d, .v (.bool z)) :: T, H, D, n⟩) (g1 : ops[g]? = some og := by rfl) (g2 : og.dst = some gt := by rfl) (g3 : lk T gt = some (.v (.bool gb)) := by rfl) (hp : ev T p = some (.v (.int k u)) := by rfl) (hq : ev T q = some (.v (.int k v)) := by rfl) (hz : icmp b u v = some z := by rfl) (hd : Nat.blt d n = true := by rfl) : AOps P ro ops ({ dst := some d, op := .binOp b t p q t', type := ty, pos := po, after := af, guard := some (g, gb) } :: rest) Q ⟨T, H, D, n⟩ := Z0 (wY rfl g1 g2 g3) hd (Z25 rfl hp hq hz) h
theorem zU {b : BinOp} {u v : ByteArray} {z : Bool} (h : AOps P ro ops rest Q ⟨(d, .v (.bool z)) :: T, H, D, n⟩) (hp : ev T p = some (.v (.string u)) := by rfl) (hq : ev T q = some (.v (.string v)) := by rfl) (hz : scmp b u v = some z := by rfl) (hd : Nat.blt d n = true := by rfl) : AOps P ro ops ({ dst := some d, op := .binOp b t p q t', type := ty, pos := po, after := af, guard := none } :: rest) Q ⟨T, H, D, n⟩ := Z0 (w0 rfl) hd (Zq rfl hp hq hz) h
theorem zcU {b : BinOp} {u v : ByteArray} {z : Bool} (h : Calm P ops H0 KK (kk + 1) rest M ⟨(d, .v (.bool z)) :: T, H, D, n⟩) (hp : ev T p = some (.v (.string u)) := by rfl) (hq : ev T q = some (.v (.string v)) := by rfl) (hz : scmp b u v = some z := by rfl) (hd : Nat.blt d n = true := by rfl) : Calm P ops H0 KK kk ({ dst := some d, op := .binOp b t p q t', type := ty, pos := po, after := af, guard := none } :: rest) M ⟨T, H, D, n⟩ := Z2 (w0 rfl) hd (Zq rfl hp hq hz) h
theorem Zef {b : BinOp} {u v : ByteArray} {z : Bool} {g gt : Nat} {gb : Bool} {og : Oper} (h : Calm P ops H0 KK (kk + 1) rest M ⟨(d, .v (.bool z)) :: T, H, D, n⟩) (g1 : ops[g]? = some og := by rfl) (g2 : og.dst = some gt := by rfl) (g3 : lk T gt = some (.v (.bool gb)) := by rfl) (hp : ev T p = some (.v (.string u)) := by rfl) (hq : ev T q = some (.v (.string v)) := by rfl) (hz : scmp b u v = some z := by rfl) (hd : Nat.blt d n = true := by rfl) : Calm P ops H0 KK kk ({ dst := some d, op := .binOp b t p q t', type := ty, pos := po, after := af, guard := some (g, gb) } :: rest) M ⟨T, H, D, n⟩ := Z2 (wY rfl g1 g2 g3) hd (Zq rfl hp hq hz) h
theorem zgU {b : BinOp} {u v : ByteArray} {z : Bool} {g gt : Nat} {gb : Bool} {og : Oper} (h : AOps P ro ops rest Q ⟨(d, .v (.bool z)) :: T, H, D, n⟩) (g1 : ops[g]? = some og := by rfl) (g2 : og.dst = some gt := by rfl) (g3 : lk T gt = some (.v (.bool gb)) := by rfl) (hp : ev T p = some (.v (.string u)) := by rfl) (hq : ev T q = some (.v (.string v)) := by rfl) (hz : scmp b u v = some z := by rfl) (hd : Nat.blt d n = true := by rfl) : AOps P ro ops ({ dst := some d, op := .binOp b t p q t', type := ty, pos := po, after := af, guard := some (g, gb) } :: rest) Q ⟨T, H, D, n⟩ := Z0 (wY rfl g1 g2 g3) hd (Zq rfl hp hq hz) h
theorem zUt {b : BinOp} {u v : ByteArray} (h : AOps P ro ops rest Q ⟨(d, .v (.bool true)) :: T, H, D, n⟩) (hp : ev T p = some (.v (.string u)) := by rfl) (hq : ev T q = some (.v (.string v)) := by rfl) (hz : scmp b u v = some true := by decide +kernel) (hd : Nat.blt d n = true := by rfl) : AOps P ro ops ({ dst := some d, op := .binOp b t p q t', type := ty, pos := po, after := af, guard := none } :: rest) Q ⟨T, H, D, n⟩ := Z0 (w0 rfl) hd (Zq rfl hp hq hz) h
theorem Ze6 {b : BinOp} {u v : ByteArray} (h : Calm P ops H0 KK (kk + 1) rest M ⟨(d, .v (.bool true)) :: T, H, D, n⟩) (hp : ev T p = some (.v (.string u)) := by rfl) (hq : ev T q = some (.v (.string v)) := by rfl) (hz : scmp b u v = some true := by decide +kernel) (hd : Nat.blt d n = true := by rfl) : Calm P ops H0 KK kk ({ dst := some d, op := .binOp b t p q t', type := ty, pos := po, after := af, guard := none } :: rest) M ⟨T, H, D, n⟩ := Z2 (w0 rfl) hd (Zq rfl hp hq hz) h
theorem Zcn {b : BinOp} {u v : ByteArray} {g gt : Nat} {gb : Bool} {og : Oper} (h : Calm P ops H0 KK (kk + 1) rest M ⟨(d, .v (.bool true)) :: T, H, D, n⟩) (g1 : ops[g]? = some og := by rfl) (g2 : og.dst = some gt := by rfl) (g3 : lk T gt = some (.v (.bool gb)) := by rfl) (hp : ev T p = some (.v (.string u)) := by rfl) (hq : ev T q = some (.v (.string v)) := by rfl) (hz : scmp b u v = some true := by decide +kernel) (hd : Nat.blt d n = true := by rfl) : Calm P ops H0 KK kk ({ dst := some d, op := .binOp b t p q t', type := ty, pos := po, after := af, guard := some (g, gb) } :: rest) M ⟨T, H, D, n⟩ := Z2 (wY rfl g1 g2 g3) hd (Zq rfl hp hq hz) h
theorem Zf3 {b : BinOp} {u v : ByteArray} {g gt : Nat} {gb : Bool} {og : Oper} (h : AOps P ro ops rest Q ⟨(d, .v (.bool true)) :: T, H, D, n⟩) (g1 : ops[g]? = some og := by rfl) (g2 : og.dst = some gt := by rfl) (g3 : lk T gt = some (.v (.bool gb)) := by rfl) (hp : ev T p = some (.v (.string u)) := by rfl) (hq : ev T q = some (.v (.string v)) := by rfl) (hz : scmp b u v = some true := by decide +kernel) (hd : Nat.blt d n = true := by rfl) : AOps P ro ops ({ dst := some d, op := .binOp b t p q t', type := ty, pos := po, after := af, guard := some (g, gb) } :: rest) Q ⟨T, H, D, n⟩ := Z0 (wY rfl g1 g2 g3) hd (Zq rfl hp hq hz) h
theorem zUf {b : BinOp} {u v : ByteArray} (h : AOps P ro ops rest Q ⟨(d, .v (.bool false)) :: T, H, D, n⟩) (hp : ev T p = some (.v (.string u)) := by rfl) (hq : ev T q = some (.v (.string v)) := by rfl) (hz : scmp b u v = some false := by decide +kernel) (hd : Nat.blt d n = true := by rfl) : AOps P ro ops ({ dst := some d, op := .binOp b t p q t', type := ty, pos := po, after := af, guard := none } :: rest) Q ⟨T, H, D, n⟩ := Z0 (w0 rfl) hd (Zq rfl hp hq hz) h
theorem Ze5 {b : BinOp} {u v : ByteArray} (h : Calm P ops H0 KK (kk + 1) rest M ⟨(d, .v (.bool false)) :: T, H, D, n⟩) (hp : ev T p = some (.v (.string u)) := by rfl) (hq : ev T q = some (.v (.string v)) := by rfl) (hz : scmp b u v = some false := by decide +kernel) (hd : Nat.blt d n = true := by rfl) : Calm P ops H0 KK kk ({ dst := some d, op := .binOp b t p q t', type := ty, pos := po, after := af, guard := none } :: rest) M ⟨T, H, D, n⟩ := Z2 (w0 rfl) hd (Zq rfl hp hq hz) h
theorem Zcm {b : BinOp} {u v : ByteArray} {g gt : Nat} {gb : Bool} {og : Oper} (h : Calm P ops H0 KK (kk + 1) rest M ⟨(d, .v (.bool false)) :: T, H, D, n⟩) (g1 : ops[g]? = some og := by rfl) (g2 : og.dst = some gt := by rfl) (g3 : lk T gt = some (.v (.bool gb)) := by rfl) (hp : ev T p = some (.v (.string u)) := by rfl) (hq : ev T q = some (.v (.string v)) := by rfl) (hz : scmp b u v = some false := by decide +kernel) (hd : Nat.blt d n = true := by rfl) : Calm P ops H0 KK kk ({ dst := some d, op := .binOp b t p q t', type := ty, pos := po, after := af, guard := some (g, gb) } :: rest) M ⟨T, H, D, n⟩ := Z2 (wY rfl g1 g2 g3) hd (Zq rfl hp hq hz) h
theorem Zf2 {b : BinOp} {u v : ByteArray} {g gt : Nat} {gb : Bool} {og : Oper} (h : AOps P ro ops rest Q ⟨(d, .v (.bool false)) :: T, H, D, n⟩) (g1 : ops[g]? = some og := by rfl) (g2 : og.dst = some gt := by rfl) (g3 : lk T gt = some (.v (.bool gb)) := by rfl) (hp : ev T p = some (.v (.string u)) := by rfl) (hq : ev T q = some (.v (.string v)) := by rfl) (hz : scmp b u v = some false := by decide +kernel) (hd : Nat.blt d n = true := by rfl) : AOps P ro ops ({ dst := some d, op := .binOp b t p q t', type := ty, pos := po, after := af, guard := some (g, gb) } :: rest) Q ⟨T, H, D, n⟩ := Z0 (wY rfl g1 g2 g3) hd (Zq rfl hp hq hz) h
theorem zK {b : BinOp} {z : Bool} {e : Nat} (h : AOps P ro ops rest Q ⟨(d, .v (.bool z)) :: T, H, D, n⟩) (hp : ev T p = some (.v (.pointer none)) := by rfl) (hq : ev T q = some (.v (.pointer none)) := by rfl) (hb : pcmp b true = some z := by rfl) [hu : UD P t (.pointer e)] (hd : Nat.blt d n = true := by rfl) : AOps P ro ops ({ dst := some d, op := .binOp b t p q t', type := ty, pos := po, after := af, guard := none } :: rest) Q ⟨T, H, D, n⟩ := Z0 (w0 rfl) hd (Z5i rfl hp hq hb) h
theorem zcK {b : BinOp} {z : Bool} {e : Nat} (h : Calm P ops H0 KK (kk + 1) rest M ⟨(d, .v (.bool z)) :: T, H, D, n⟩) (hp : ev T p = some (.v (.pointer none)) := by rfl) (hq : ev T q = some (.v (.pointer none)) := by rfl) (hb : pcmp b true = some z := by rfl) [hu : UD P t (.pointer e)] (hd : Nat.blt d n = true := by rfl) : Calm P ops H0 KK kk ({ dst := some d, op := .binOp b t p q t', type := ty, pos := po, after := af, guard := none } :: rest) M ⟨T, H, D, n⟩ := Z2 (w0 rfl) hd (Z5i rfl hp hq hb) h
theorem Zeb {b : BinOp} {z : Bool} {e : Nat} {g gt : Nat} {gb : Bool} {og : Oper} (h : Calm P ops H0 KK (kk + 1) rest M ⟨(d, .v (.bool z)) :: T, H, D, n⟩) (g1 : ops[g]? = some og := by rfl) (g2 : og.dst = some gt := by rfl) (g3 : lk T gt = some (.v (.bool gb)) := by rfl) (hp : ev T p = some (.v (.pointer none)) := by rfl) (hq : ev T q = some (.v (.pointer none)) := by rfl) (hb : pcmp b true = some z := by rfl) [hu : UD P t (.pointer e)] (hd : Nat.blt d n = true := by rfl) : Calm P ops H0 KK kk ({ dst := some d, op := .binOp b t p q t', type := ty, pos := po, after := af, guard := some (g, gb) } :: rest) M ⟨T, H, D, n⟩ := Z2 (wY rfl g1 g2 g3) hd (Z5i rfl hp hq hb) h
theorem zgK {b : BinOp} {z : Bool} {e : Nat} {g gt : Nat} {gb : Bool} {og : Oper} (h : AOps P ro ops rest Q ⟨(d, .v (.bool z)) :: T, H, D, n⟩) (g1 : ops[g]? = some og := by rfl) (g2 : og.dst = some gt := by rfl) (g3 : lk T gt = some (.v (.bool gb)) := by rfl) (hp : ev T p = some (.v (.pointer none)) := by rfl) (hq : ev T q = some (.v (.pointer none)) := by rfl) (hb : pcmp b true = some z := by rfl) [hu : UD P t (.pointer e)] (hd : Nat.blt d n = true := by rfl) : AOps P ro ops ({ dst := some d, op := .binOp b t p q t', type := ty, pos := po, after := af, guard := some (g, gb) } :: rest) Q ⟨T, H, D, n⟩ := Z0 (wY rfl g1 g2 g3) hd (Z5i rfl hp hq hb) h
theorem zJ {b : BinOp} {z : Bool} {e id sz i c : Nat} (h : AOps P ro ops rest Q ⟨(d, .v (.bool z)) :: T, H, D, n⟩) (hp : ev T p = some (.ptr id sz i c) := by rfl) (hq : ev T q = some (.v (.pointer none)) := by rfl) (hb : pcmp b false = some z := by rfl) [hu : UD P t (.pointer e)] (hd : Nat.blt d n = true := by rfl) : AOps P ro ops ({ dst := some d, op := .binOp b t p q t', type := ty, pos := po, after := af, guard := none } :: rest) Q ⟨T, H, D, n⟩ := Z0 (w0 rfl) hd (Z5j rfl hp hq hb) h
theorem zcJ {b : BinOp} {z : Bool} {e id sz i c : Nat} (h : Calm P ops H0 KK (kk + 1) rest M ⟨(d, .v (.bool z)) :: T, H, D, n⟩) (hp : ev T p = some (.ptr id sz i c) := by rfl) (hq : ev T q = some (.v (.pointer none)) := by rfl) (hb : pcmp b false = some z := by rfl) [hu : UD P t (.pointer e)] (hd : Nat.blt d n = true := by rfl) : Calm P ops H0 KK kk ({ dst := some d, op := .binOp b t p q t', type := ty, pos := po, after := af, guard := none } :: rest) M ⟨T, H, D, n⟩ := Z2 (w0 rfl) hd (Z5j rfl hp hq hb) h
theorem Zea {b : BinOp} {z : Bool} {e id sz i c : Nat} {g gt : Nat} {gb : Bool} {og : Oper} (h : Calm P ops H0 KK (kk + 1) rest M ⟨(d, .v (.bool z)) :: T, H, D, n⟩) (g1 : ops[g]? = some og := by rfl) (g2 : og.dst = some gt := by rfl) (g3 : lk T gt = some (.v (.bool gb)) := by rfl) (hp : ev T p = some (.ptr id sz i c) := by rfl) (hq : ev T q = some (.v (.pointer none)) := by rfl) (hb : pcmp b false = some z := by rfl) [hu : UD P t (.pointer e)] (hd : Nat.blt d n = true := by rfl) : Calm P ops H0 KK kk ({ dst := some d, op := .binOp b t p q t', type := ty, pos := po, after := af, guard := some (g, gb) } :: rest) M ⟨T, H, D, n⟩ := Z2 (wY rfl g1 g2 g3) hd (Z5j rfl hp hq hb) h
theorem zgJ {b : BinOp} {z : Bool} {e id sz i c : Nat} {g gt : Nat} {gb : Bool} {og : Oper} (h : AOps P ro ops rest Q ⟨(d, .v (.bool z)) :: T, H, D, n⟩) (g1 : ops[g]? = some og := by rfl) (g2 : og.dst = some gt := by rfl) (g3 : lk T gt = some (.v (.bool gb)) := by rfl) (hp : ev T p = some (.ptr id sz i c) := by rfl) (hq : ev T q = some (.v (.pointer none)) := by rfl) (hb : pcmp b false = some z := by rfl) [hu : UD P t (.pointer e)] (hd : Nat.blt d n = true := by rfl) : AOps P ro ops ({ dst := some d, op := .binOp b t p q t', type := ty, pos := po, after := af, guard := some (g, gb) } :: rest) Q ⟨T, H, D, n⟩ := Z0 (wY rfl g1 g2 g3) hd (Z5j rfl hp hq hb) h
theorem zP {u v : Int} (h : AOps P ro ops rest Q ⟨(d, .v (.int .i64 (u + v))) :: T, H, D, n⟩) (hp : ev T p = some (.v (.int .i64 u)) := by rfl) (hq : ev T q = some (.v (.int .i64 v)) := by rfl) (hz : -9223372036854775808 ≤ u + v ∧ u + v ≤ 9223372036854775807 := by first | omega | decide +kernel) (hd : Nat.blt d n = true := by rfl) : AOps P ro ops ({ dst := some d, op := .binOp .add t p q t', type := ty, pos := po, after := af, guard := none } :: rest) Q ⟨T, H, D, n⟩ := Z0 (w0 rfl) hd (Zy rfl hp hq (Z20 hz)) h
theorem zcP {u v : Int} (h : Calm P ops H0 KK (kk + 1) rest M ⟨(d, .v (.int .i64 (u + v))) :: T, H, D, n⟩) (hp : ev T p = some (.v (.int .i64 u)) := by rfl) (hq : ev T q = some (.v (.int .i64 v)) := by rfl) (hz : -9223372036854775808 ≤ u + v ∧ u + v ≤ 9223372036854775807 := by first | omega | decide +kernel) (hd : Nat.blt d n = true := by rfl) : Calm P ops H0 KK kk ({ dst := some d, op := .binOp .add t p q t', type := ty, pos := po, after := af, guard := none } :: rest) M ⟨T, H, D, n⟩ := Z2 (w0 rfl) hd (Zy rfl hp hq (Z20 hz)) h
theorem Zee {u v : Int} {g gt : Nat} {gb : Bool} {og : Oper} (h : Calm P ops H0 KK (kk + 1) rest M ⟨(d, .v (.int .i64 (u + v))) :: T, H, D, n⟩) (g1 : ops[g]? = some og := by rfl) (g2 : og.dst = some gt := by rfl) (g3 : lk T gt = some (.v (.bool gb)) := by rfl) (hp : ev T p = some (.v (.int .i64 u)) := by rfl) (hq : ev T q = some (.v (.int .i64 v)) := by rfl) (hz : -9223372036854775808 ≤ u + v ∧ u + v ≤ 9223372036854775807 := by first | omega | decide +kernel) (hd : Nat.blt d n = true := by rfl) : Calm P ops H0 KK kk ({ dst := some d, op := .binOp .add t p q t', type := ty, pos := po, after := af, guard := some (g, gb) } :: rest) M ⟨T, H, D, n⟩ := Z2 (wY rfl g1 g2 g3) hd (Zy rfl hp hq (Z20 hz)) h
theorem zgP {u v : Int} {g gt : Nat} {gb : Bool} {og : Oper} (h : AOps P ro ops rest Q ⟨(d, .v (.int .i64 (u + v))) :: T, H, D, n⟩) (g1 : ops[g]? = some og := by rfl) (g2 : og.dst = some gt := by rfl) (g3 : lk T gt = some (.v (.bool gb)) := by rfl) (hp : ev T p = some (.v (.int .i64 u)) := by rfl) (hq : ev T q = some (.v (.int .i64 v)) := by rfl) (hz : -9223372036854775808 ≤ u + v ∧ u + v ≤ 9223372036854775807 := by first | omega | decide +kernel) (hd : Nat.blt d n = true := by rfl) : AOps P ro ops ({ dst := some d, op := .binOp .add t p q t', type := ty, pos := po, after := af, guard := some (g, gb) } :: rest) Q ⟨T, H, D, n⟩ := Z0 (wY rfl g1 g2 g3) hd (Zy rfl hp hq (Z20 hz)) h
theorem zL {u v : Int} (h : AOps P ro ops rest Q ⟨(d, .v (.int .i64 (u - v))) :: T, H, D, n⟩) (hp : ev T p = some (.v (.int .i64 u)) := by rfl) (hq : ev T q = some (.v (.int .i64 v)) := by rfl) (hz : -9223372036854775808 ≤ u - v ∧ u - v ≤ 9223372036854775807 := by first | omega | decide +kernel) (hd : Nat.blt d n = true := by rfl) : AOps P ro ops ({ dst := some d, op := .binOp .sub t p q t', type := ty, pos := po, after := af, guard := none } :: rest) Q ⟨T, H, D, n⟩ := Z0 (w0 rfl) hd (Zy rfl hp hq (Z21 hz)) h
theorem zcL {u v : Int} (h : Calm P ops H0 KK (kk + 1) rest M ⟨(d, .v (.int .i64 (u - v))) :: T, H, D, n⟩) (hp : ev T p = some (.v (.int .i64 u)) := by rfl) (hq : ev T q = some (.v (.int .i64 v)) := by rfl) (hz : -9223372036854775808 ≤ u - v ∧ u - v ≤ 9223372036854775807 := by first | omega | decide +kernel) (hd : Nat.blt d n = true := by rfl) : Calm P ops H0 KK kk ({ dst := some d, op := .binOp .sub t p q t', type := ty, pos := po, after := af, guard := none } :: rest) M ⟨T, H, D, n⟩ := Z2 (w0 rfl) hd (Zy rfl hp hq (Z21 hz)) h
theorem Zec {u v : Int} {g gt : Nat} {gb : Bool} {og : Oper} (h : Calm P ops H0 KK (kk + 1) rest M ⟨(d, .v (.int .i64 (u - v))) :: T, H, D, n⟩) (g1 : ops[g]? = some og := by rfl) (g2 : og.dst = some gt := by rfl) (g3 : lk T gt = some (.v (.bool gb)) := by rfl) (hp : ev T p = some (.v (.int .i64 u)) := by rfl) (hq : ev T q = some (.v (.int .i64 v)) := by rfl) (hz : -9223372036854775808 ≤ u - v ∧ u - v ≤ 9223372036854775807 := by first | omega | decide +kernel) (hd : Nat.blt d n = true := by rfl) : Calm P ops H0 KK kk ({ dst := some d, op := .binOp .sub t p q t', type := ty, pos := po, after := af, guard := some (g, gb) } :: rest) M ⟨T, H, D, n⟩ := Z2 (wY rfl g1 g2 g3) hd (Zy rfl hp hq (Z21 hz)) h
theorem zgL {u v : Int} {g gt : Nat} {gb : Bool} {og : Oper} (h : AOps P ro ops rest Q ⟨(d, .v (.int .i64 (u - v))) :: T, H, D, n⟩) (g1 : ops[g]? = some og := by rfl) (g2 : og.dst = some gt := by rfl) (g3 : lk T gt = some (.v (.bool gb)) := by rfl) (hp : ev T p = some (.v (.int .i64 u)) := by rfl) (hq : ev T q = some (.v (.int .i64 v)) := by rfl) (hz : -9223372036854775808 ≤ u - v ∧ u - v ≤ 9223372036854775807 := by first | omega | decide +kernel) (hd : Nat.blt d n = true := by rfl) : AOps P ro ops ({ dst := some d, op := .binOp .sub t p q t', type := ty, pos := po, after := af, guard := some (g, gb) } :: rest) Q ⟨T, H, D, n⟩ := Z0 (wY rfl g1 g2 g3) hd (Zy rfl hp hq (Z21 hz)) h
theorem zNt {u : Bool} (h : AOps P ro ops rest Q ⟨(d, .v (.bool (!u))) :: T, H, D, n⟩) (hp : ev T p = some (.v (.bool u)) := by rfl) (hd : Nat.blt d n = true := by rfl) : AOps P ro ops ({ dst := some d, op := .unOp .not t p, type := ty, pos := po, after := af, guard := none } :: rest) Q ⟨T, H, D, n⟩ := Z0 (w0 rfl) hd (Z2o rfl hp) h
theorem Ze1 {u : Bool} (h : Calm P ops H0 KK (kk + 1) rest M ⟨(d, .v (.bool (!u))) :: T, H, D, n⟩) (hp : ev T p = some (.v (.bool u)) := by rfl) (hd : Nat.blt d n = true := by rfl) : Calm P ops H0 KK kk ({ dst := some d, op := .unOp .not t p, type := ty, pos := po, after := af, guard := none } :: rest) M ⟨T, H, D, n⟩ := Z2 (w0 rfl) hd (Z2o rfl hp) h
theorem Zci {u : Bool} {g gt : Nat} {gb : Bool} {og : Oper} (h : Calm P ops H0 KK (kk + 1) rest M ⟨(d, .v (.bool (!u))) :: T, H, D, n⟩) (g1 : ops[g]? = some og := by rfl) (g2 : og.dst = some gt := by rfl) (g3 : lk T gt = some (.v (.bool gb)) := by rfl) (hp : ev T p = some (.v (.bool u)) := by rfl) (hd : Nat.blt d n = true := by rfl) : Calm P ops H0 KK kk ({ dst := some d, op := .unOp .not t p, type := ty, pos := po, after := af, guard := some (g, gb) } :: rest) M ⟨T, H, D, n⟩ := Z2 (wY rfl g1 g2 g3) hd (Z2o rfl hp) h
theorem Zey {u : Bool} {g gt : Nat} {gb : Bool} {og : Oper} (h : AOps P ro ops rest Q ⟨(d, .v (.bool (!u))) :: T, H, D, n⟩) (g1 : ops[g]? = some og := by rfl) (g2 : og.dst = some gt := by rfl) (g3 : lk T gt = some (.v (.bool gb)) := by rfl) (hp : ev T p = some (.v (.bool u)) := by rfl) (hd : Nat.blt d n = true := by rfl) : AOps P ro ops ({ dst := some d, op := .unOp .not t p, type := ty, pos := po, after := af, guard := some (g, gb) } :: rest) Q ⟨T, H, D, n⟩ := Z0 (wY rfl g1 g2 g3) hd (Z2o rfl hp) h
theorem zPT {c : Operand} (h : AOps P ro ops rest Q ⟨(d, x) :: T, H, D, n⟩) (hc : ev T c = some (.v (.bool true)) := by rfl) (hp : ev T p = some x := by rfl) (hq : ev T q = some y := by rfl) (hd : Nat.blt d n = true := by rfl) : AOps P ro ops ({ dst := some d, op := .pick c p q, type := ty, pos := po, after := af, guard := none } :: rest) Q ⟨T, H, D, n⟩ := Z0 (w0 rfl) hd (Z06 (t := true) rfl hc hp hq) h
theorem Ze3 {c : Operand} (h : Calm P ops H0 KK (kk + 1) rest M ⟨(d, x) :: T, H, D, n⟩) (hc : ev T c = some (.v (.bool true)) := by rfl) (hp : ev T p = some x := by rfl) (hq : ev T q = some y := by rfl) (hd : Nat.blt d n = true := by rfl) : Calm P ops H0 KK kk ({ dst := some d, op := .pick c p q, type := ty, pos := po, after := af, guard := none } :: rest) M ⟨T, H, D, n⟩ := Z2 (w0 rfl) hd (Z06 (t := true) rfl hc hp hq) h
theorem Zck {c : Operand} {g gt : Nat} {gb : Bool} {og : Oper} (h : Calm P ops H0 KK (kk + 1) rest M ⟨(d, x) :: T, H, D, n⟩) (g1 : ops[g]? = some og := by rfl) (g2 : og.dst = some gt := by rfl) (g3 : lk T gt = some (.v (.bool gb)) := by rfl) (hc : ev T c = some (.v (.bool true)) := by rfl) (hp : ev T p = some x := by rfl) (hq : ev T q = some y := by rfl) (hd : Nat.blt d n = true := by rfl) : Calm P ops H0 KK kk ({ dst := some d, op := .pick c p q, type := ty, pos := po, after := af, guard := some (g, gb) } :: rest) M ⟨T, H, D, n⟩ := Z2 (wY rfl g1 g2 g3) hd (Z06 (t := true) rfl hc hp hq) h
theorem Zf0 {c : Operand} {g gt : Nat} {gb : Bool} {og : Oper} (h : AOps P ro ops rest Q ⟨(d, x) :: T, H, D, n⟩) (g1 : ops[g]? = some og := by rfl) (g2 : og.dst = some gt := by rfl) (g3 : lk T gt = some (.v (.bool gb)) := by rfl) (hc : ev T c = some (.v (.bool true)) := by rfl) (hp : ev T p = some x := by rfl) (hq : ev T q = some y := by rfl) (hd : Nat.blt d n = true := by rfl) : AOps P ro ops ({ dst := some d, op := .pick c p q, type := ty, pos := po, after := af, guard := some (g, gb) } :: rest) Q ⟨T, H, D, n⟩ := Z0 (wY rfl g1 g2 g3) hd (Z06 (t := true) rfl hc hp hq) h
theorem zPF {c : Operand} (h : AOps P ro ops rest Q ⟨(d, x) :: T, H, D, n⟩) (hc : ev T c = some (.v (.bool false)) := by rfl) (hp : ev T p = some y := by rfl) (hq : ev T q = some x := by rfl) (hd : Nat.blt d n = true := by rfl) : AOps P ro ops ({ dst := some d, op := .pick c p q, type := ty, pos := po, after := af, guard := none } :: rest) Q ⟨T, H, D, n⟩ := Z0 (w0 rfl) hd (Z06 (t := false) rfl hc hp hq) h
theorem Ze2 {c : Operand} (h : Calm P ops H0 KK (kk + 1) rest M ⟨(d, x) :: T, H, D, n⟩) (hc : ev T c = some (.v (.bool false)) := by rfl) (hp : ev T p = some y := by rfl) (hq : ev T q = some x := by rfl) (hd : Nat.blt d n = true := by rfl) : Calm P ops H0 KK kk ({ dst := some d, op := .pick c p q, type := ty, pos := po, after := af, guard := none } :: rest) M ⟨T, H, D, n⟩ := Z2 (w0 rfl) hd (Z06 (t := false) rfl hc hp hq) h
theorem Zcj {c : Operand} {g gt : Nat} {gb : Bool} {og : Oper} (h : Calm P ops H0 KK (kk + 1) rest M ⟨(d, x) :: T, H, D, n⟩) (g1 : ops[g]? = some og := by rfl) (g2 : og.dst = some gt := by rfl) (g3 : lk T gt = some (.v (.bool gb)) := by rfl) (hc : ev T c = some (.v (.bool false)) := by rfl) (hp : ev T p = some y := by rfl) (hq : ev T q = some x := by rfl) (hd : Nat.blt d n = true := by rfl) : Calm P ops H0 KK kk ({ dst := some d, op := .pick c p q, type := ty, pos := po, after := af, guard := some (g, gb) } :: rest) M ⟨T, H, D, n⟩ := Z2 (wY rfl g1 g2 g3) hd (Z06 (t := false) rfl hc hp hq) h
theorem Zez {c : Operand} {g gt : Nat} {gb : Bool} {og : Oper} (h : AOps P ro ops rest Q ⟨(d, x) :: T, H, D, n⟩) (g1 : ops[g]? = some og := by rfl) (g2 : og.dst = some gt := by rfl) (g3 : lk T gt = some (.v (.bool gb)) := by rfl) (hc : ev T c = some (.v (.bool false)) := by rfl) (hp : ev T p = some y := by rfl) (hq : ev T q = some x := by rfl) (hd : Nat.blt d n = true := by rfl) : AOps P ro ops ({ dst := some d, op := .pick c p q, type := ty, pos := po, after := af, guard := some (g, gb) } :: rest) Q ⟨T, H, D, n⟩ := Z0 (wY rfl g1 g2 g3) hd (Z06 (t := false) rfl hc hp hq) h
theorem zLn {td : TypeDesc} {m : Nat} (h : AOps P ro ops rest Q ⟨(d, .v (.int .i64 (m : Int))) :: T, H, D, n⟩) (hp : ev T p = some x := by rfl) (hx : lenA x = some m := by rfl) [hu : UD P t td] (hlt : lenT x td = true := by rfl) (hd : Nat.blt d n = true := by rfl) : AOps P ro ops ({ dst := some d, op := .call { callee := .builtin .len, args := #[p], argTypes := #[t] }, type := ty, pos := po, after := af, guard := none } :: rest) Q ⟨T, H, D, n⟩ := Z0 (w0 rfl) hd (Z3l rfl hp hx hlt) h
theorem Zdy {td : TypeDesc} {m : Nat} (h : Calm P ops H0 KK (kk + 1) rest M ⟨(d, .v (.int .i64 (m : Int))) :: T, H, D, n⟩) (hp : ev T p = some x := by rfl) (hx : lenA x = some m := by rfl) [hu : UD P t td] (hlt : lenT x td = true := by rfl) (hd : Nat.blt d n = true := by rfl) : Calm P ops H0 KK kk ({ dst := some d, op := .call { callee := .builtin .len, args := #[p], argTypes := #[t] }, type := ty, pos := po, after := af, guard := none } :: rest) M ⟨T, H, D, n⟩ := Z2 (w0 rfl) hd (Z3l rfl hp hx hlt) h
theorem Zcf {td : TypeDesc} {m : Nat} {g gt : Nat} {gb : Bool} {og : Oper} (h : Calm P ops H0 KK (kk + 1) rest M ⟨(d, .v (.int .i64 (m : Int))) :: T, H, D, n⟩) (g1 : ops[g]? = some og := by rfl) (g2 : og.dst = some gt := by rfl) (g3 : lk T gt = some (.v (.bool gb)) := by rfl) (hp : ev T p = some x := by rfl) (hx : lenA x = some m := by rfl) [hu : UD P t td] (hlt : lenT x td = true := by rfl) (hd : Nat.blt d n = true := by rfl) : Calm P ops H0 KK kk ({ dst := some d, op := .call { callee := .builtin .len, args := #[p], argTypes := #[t] }, type := ty, pos := po, after := af, guard := some (g, gb) } :: rest) M ⟨T, H, D, n⟩ := Z2 (wY rfl g1 g2 g3) hd (Z3l rfl hp hx hlt) h
theorem Zev {td : TypeDesc} {m : Nat} {g gt : Nat} {gb : Bool} {og : Oper} (h : AOps P ro ops rest Q ⟨(d, .v (.int .i64 (m : Int))) :: T, H, D, n⟩) (g1 : ops[g]? = some og := by rfl) (g2 : og.dst = some gt := by rfl) (g3 : lk T gt = some (.v (.bool gb)) := by rfl) (hp : ev T p = some x := by rfl) (hx : lenA x = some m := by rfl) [hu : UD P t td] (hlt : lenT x td = true := by rfl) (hd : Nat.blt d n = true := by rfl) : AOps P ro ops ({ dst := some d, op := .call { callee := .builtin .len, args := #[p], argTypes := #[t] }, type := ty, pos := po, after := af, guard := some (g, gb) } :: rest) Q ⟨T, H, D, n⟩ := Z0 (wY rfl g1 g2 g3) hd (Z3l rfl hp hx hlt) h
theorem zEq {ks : List CK} {us vs : List AV} (h : AOps P ro ops rest Q ⟨(d, .v (.bool (ceqs us vs))) :: T, H, D, n⟩) (hp : ev T p = some (.agg us) := by rfl) (hq : ev T q = some (.agg vs) := by rfl) [hq' : EQ P t ks] (hx : us.map ckA = ks.map some := by rfl) (hy : vs.map ckA = ks.map some := by rfl) (hd : Nat.blt d n = true := by rfl) : AOps P ro ops ({ dst := some d, op := .binOp .eql t p q t', type := ty, pos := po, after := af, guard := none } :: rest) Q ⟨T, H, D, n⟩ := Z0 (w0 rfl) hd (Z01 rfl hp hq hx hy) h
theorem Zdx {ks : List CK} {us vs : List AV} (h : Calm P ops H0 KK (kk + 1) rest M ⟨(d, .v (.bool (ceqs us vs))) :: T, H, D, n⟩) (hp : ev T p = some (.agg us) := by rfl) (hq : ev T q = some (.agg vs) := by rfl) [hq' : EQ P t ks] (hx : us.map ckA = ks.map some := by rfl) (hy : vs.map ckA = ks.map some := by rfl) (hd : Nat.blt d n = true := by rfl) : Calm P ops H0 KK kk ({ dst := some d, op := .binOp .eql t p q t', type := ty, pos := po, after := af, guard := none } :: rest) M ⟨T, H, D, n⟩ := Z2 (w0 rfl) hd (Z01 rfl hp hq hx hy) h
theorem Zce {ks : List CK} {us vs : List AV} {g gt : Nat} {gb : Bool} {og : Oper} (h : Calm P ops H0 KK (kk + 1) rest M ⟨(d, .v (.bool (ceqs us vs))) :: T, H, D, n⟩) (g1 : ops[g]? = some og := by rfl) (g2 : og.dst = some gt := by rfl) (g3 : lk T gt = some (.v (.bool gb)) := by rfl) (hp : ev T p = some (.agg us) := by rfl) (hq : ev T q = some (.agg vs) := by rfl) [hq' : EQ P t ks] (hx : us.map ckA = ks.map some := by rfl) (hy : vs.map ckA = ks.map some := by rfl) (hd : Nat.blt d n = true := by rfl) : Calm P ops H0 KK kk ({ dst := some d, op := .binOp .eql t p q t', type := ty, pos := po, after := af, guard := some (g, gb) } :: rest) M ⟨T, H, D, n⟩ := Z2 (wY rfl g1 g2 g3) hd (Z01 rfl hp hq hx hy) h
theorem Zeu {ks : List CK} {us vs : List AV} {g gt : Nat} {gb : Bool} {og : Oper} (h : AOps P ro ops rest Q ⟨(d, .v (.bool (ceqs us vs))) :: T, H, D, n⟩) (g1 : ops[g]? = some og := by rfl) (g2 : og.dst = some gt := by rfl) (g3 : lk T gt = some (.v (.bool gb)) := by rfl) (hp : ev T p = some (.agg us) := by rfl) (hq : ev T q = some (.agg vs) := by rfl) [hq' : EQ P t ks] (hx : us.map ckA = ks.map some := by rfl) (hy : vs.map ckA = ks.map some := by rfl) (hd : Nat.blt d n = true := by rfl) : AOps P ro ops ({ dst := some d, op := .binOp .eql t p q t', type := ty, pos := po, after := af, guard := some (g, gb) } :: rest) Q ⟨T, H, D, n⟩ := Z0 (wY rfl g1 g2 g3) hd (Z01 rfl hp hq hx hy) h
theorem Zdl {ks : List CK} {us vs : List AV} (h : AOps P ro ops rest Q ⟨(d, .v (.bool true)) :: T, H, D, n⟩) (hp : ev T p = some (.agg us) := by rfl) (hq : ev T q = some (.agg vs) := by rfl) [hq' : EQ P t ks] (hx : us.map ckA = ks.map some := by rfl) (hy : vs.map ckA = ks.map some := by rfl) (hz : ceqs us vs = true := by decide +kernel) (hd : Nat.blt d n = true := by rfl) : AOps P ro ops ({ dst := some d, op := .binOp .eql t p q t', type := ty, pos := po, after := af, guard := none } :: rest) Q ⟨T, H, D, n⟩ := Z0 (w0 rfl) hd (hz ▸ Z01 rfl hp hq hx hy) h
theorem Zc0 {ks : List CK} {us vs : List AV} (h : Calm P ops H0 KK (kk + 1) rest M ⟨(d, .v (.bool true)) :: T, H, D, n⟩) (hp : ev T p = some (.agg us) := by rfl) (hq : ev T q = some (.agg vs) := by rfl) [hq' : EQ P t ks] (hx : us.map ckA = ks.map some := by rfl) (hy : vs.map ckA = ks.map some := by rfl) (hz : ceqs us vs = true := by decide +kernel) (hd : Nat.blt d n = true := by rfl) : Calm P ops H0 KK kk ({ dst := some d, op := .binOp .eql t p q t', type := ty, pos := po, after := af, guard := none } :: rest) M ⟨T, H, D, n⟩ := Z2 (w0 rfl) hd (hz ▸ Z01 rfl hp hq hx hy) h
theorem Z9x {ks : List CK} {us vs : List AV} {g gt : Nat} {gb : Bool} {og : Oper} (h : Calm P ops H0 KK (kk + 1) rest M ⟨(d, .v (.bool true)) :: T, H, D, n⟩) (g1 : ops[g]? = some og := by rfl) (g2 : og.dst = some gt := by rfl) (g3 : lk T gt = some (.v (.bool gb)) := by rfl) (hp : ev T p = some (.agg us) := by rfl) (hq : ev T q = some (.agg vs) := by rfl) [hq' : EQ P t ks] (hx : us.map ckA = ks.map some := by rfl) (hy : vs.map ckA = ks.map some := by rfl) (hz : ceqs us vs = true := by decide +kernel) (hd : Nat.blt d n = true := by rfl) : Calm P ops H0 KK kk ({ dst := some d, op := .binOp .eql t p q t', type := ty, pos := po, after := af, guard := some (g, gb) } :: rest) M ⟨T, H, D, n⟩ := Z2 (wY rfl g1 g2 g3) hd (hz ▸ Z01 rfl hp hq hx hy) h
theorem Zcr {ks : List CK} {us vs : List AV} {g gt : Nat} {gb : Bool} {og : Oper} (h : AOps P ro ops rest Q ⟨(d, .v (.bool true)) :: T, H, D, n⟩) (g1 : ops[g]? = some og := by rfl) (g2 : og.dst = some gt := by rfl) (g3 : lk T gt = some (.v (.bool gb)) := by rfl) (hp : ev T p = some (.agg us) := by rfl) (hq : ev T q = some (.agg vs) := by rfl) [hq' : EQ P t ks] (hx : us.map ckA = ks.map some := by rfl) (hy : vs.map ckA = ks.map some := by rfl) (hz : ceqs us vs = true := by decide +kernel) (hd : Nat.blt d n = true := by rfl) : AOps P ro ops ({ dst := some d, op := .binOp .eql t p q t', type := ty, pos := po, after := af, guard := some (g, gb) } :: rest) Q ⟨T, H, D, n⟩ := Z0 (wY rfl g1 g2 g3) hd (hz ▸ Z01 rfl hp hq hx hy) h
theorem Zdk {ks : List CK} {us vs : List AV} (h : AOps P ro ops rest Q ⟨(d, .v (.bool false)) :: T, H, D, n⟩) (hp : ev T p = some (.agg us) := by rfl) (hq : ev T q = some (.agg vs) := by rfl) [hq' : EQ P t ks] (hx : us.map ckA = ks.map some := by rfl) (hy : vs.map ckA = ks.map some := by rfl) (hz : ceqs us vs = false := by decide +kernel) (hd : Nat.blt d n = true := by rfl) : AOps P ro ops ({ dst := some d, op := .binOp .eql t p q t', type := ty, pos := po, after := af, guard := none } :: rest) Q ⟨T, H, D, n⟩ := Z0 (w0 rfl) hd (hz ▸ Z01 rfl hp hq hx hy) h
theorem Zbz {ks : List CK} {us vs : List AV} (h : Calm P ops H0 KK (kk + 1) rest M ⟨(d, .v (.bool false)) :: T, H, D, n⟩) (hp : ev T p = some (.agg us) := by rfl) (hq : ev T q = some (.agg vs) := by rfl) [hq' : EQ P t ks] (hx : us.map ckA = ks.map some := by rfl) (hy : vs.map ckA = ks.map some := by rfl) (hz : ceqs us vs = false := by decide +kernel) (hd : Nat.blt d n = true := by rfl) : Calm P ops H0 KK kk ({ dst := some d, op := .binOp .eql t p q t', type := ty, pos := po, after := af, guard := none } :: rest) M ⟨T, H, D, n⟩ := Z2 (w0 rfl) hd (hz ▸ Z01 rfl hp hq hx hy) h
theorem Z9w {ks : List CK} {us vs : List AV} {g gt : Nat} {gb : Bool} {og : Oper} (h : Calm P ops H0 KK (kk + 1) rest M ⟨(d, .v (.bool false)) :: T, H, D, n⟩) (g1 : ops[g]? = some og := by rfl) (g2 : og.dst = some gt := by rfl) (g3 : lk T gt = some (.v (.bool gb)) := by rfl) (hp : ev T p = some (.agg us) := by rfl) (hq : ev T q = some (.agg vs) := by rfl) [hq' : EQ P t ks] (hx : us.map ckA = ks.map some := by rfl) (hy : vs.map ckA = ks.map some := by rfl) (hz : ceqs us vs = false := by decide +kernel) (hd : Nat.blt d n = true := by rfl) : Calm P ops H0 KK kk ({ dst := some d, op := .binOp .eql t p q t', type := ty, pos := po, after := af, guard := some (g, gb) } :: rest) M ⟨T, H, D, n⟩ := Z2 (wY rfl g1 g2 g3) hd (hz ▸ Z01 rfl hp hq hx hy) h
theorem Zcq {ks : List CK} {us vs : List AV} {g gt : Nat} {gb : Bool} {og : Oper} (h : AOps P ro ops rest Q ⟨(d, .v (.bool false)) :: T, H, D, n⟩) (g1 : ops[g]? = some og := by rfl) (g2 : og.dst = some gt := by rfl) (g3 : lk T gt = some (.v (.bool gb)) := by rfl) (hp : ev T p = some (.agg us) := by rfl) (hq : ev T q = some (.agg vs) := by rfl) [hq' : EQ P t ks] (hx : us.map ckA = ks.map some := by rfl) (hy : vs.map ckA = ks.map some := by rfl) (hz : ceqs us vs = false := by decide +kernel) (hd : Nat.blt d n = true := by rfl) : AOps P ro ops ({ dst := some d, op := .binOp .eql t p q t', type := ty, pos := po, after := af, guard := some (g, gb) } :: rest) Q ⟨T, H, D, n⟩ := Z0 (wY rfl g1 g2 g3) hd (hz ▸ Z01 rfl hp hq hx hy) h
theorem Zdj {u v : ByteArray} (h : AOps P ro ops rest Q ⟨(d, .v (.string (u ++ v))) :: T, H, D, n⟩) (hp : ev T p = some (.v (.string u)) := by rfl) (hq : ev T q = some (.v (.string v)) := by rfl) (hz : u.size + v.size ≤ 9223372036854775807 := by decide +kernel) (hd : Nat.blt d n = true := by rfl) : AOps P ro ops ({ dst := some d, op := .binOp .add t p q t', type := ty, pos := po, after := af, guard := none } :: rest) Q ⟨T, H, D, n⟩ := Z0 (w0 rfl) hd (Z0n rfl hp hq hz) h
theorem Zby {u v : ByteArray} (h : Calm P ops H0 KK (kk + 1) rest M ⟨(d, .v (.string (u ++ v))) :: T, H, D, n⟩) (hp : ev T p = some (.v (.string u)) := by rfl) (hq : ev T q = some (.v (.string v)) := by rfl) (hz : u.size + v.size ≤ 9223372036854775807 := by decide +kernel) (hd : Nat.blt d n = true := by rfl) : Calm P ops H0 KK kk ({ dst := some d, op := .binOp .add t p q t', type := ty, pos := po, after := af, guard := none } :: rest) M ⟨T, H, D, n⟩ := Z2 (w0 rfl) hd (Z0n rfl hp hq hz) h
theorem Z9v {u v : ByteArray} {g gt : Nat} {gb : Bool} {og : Oper} (h : Calm P ops H0 KK (kk + 1) rest M ⟨(d, .v (.string (u ++ v))) :: T, H, D, n⟩) (g1 : ops[g]? = some og := by rfl) (g2 : og.dst = some gt := by rfl) (g3 : lk T gt = some (.v (.bool gb)) := by rfl) (hp : ev T p = some (.v (.string u)) := by rfl) (hq : ev T q = some (.v (.string v)) := by rfl) (hz : u.size + v.size ≤ 9223372036854775807 := by decide +kernel) (hd : Nat.blt d n = true := by rfl) : Calm P ops H0 KK kk ({ dst := some d, op := .binOp .add t p q t', type := ty, pos := po, after := af, guard := some (g, gb) } :: rest) M ⟨T, H, D, n⟩ := Z2 (wY rfl g1 g2 g3) hd (Z0n rfl hp hq hz) h
theorem Zcp {u v : ByteArray} {g gt : Nat} {gb : Bool} {og : Oper} (h : AOps P ro ops rest Q ⟨(d, .v (.string (u ++ v))) :: T, H, D, n⟩) (g1 : ops[g]? = some og := by rfl) (g2 : og.dst = some gt := by rfl) (g3 : lk T gt = some (.v (.bool gb)) := by rfl) (hp : ev T p = some (.v (.string u)) := by rfl) (hq : ev T q = some (.v (.string v)) := by rfl) (hz : u.size + v.size ≤ 9223372036854775807 := by decide +kernel) (hd : Nat.blt d n = true := by rfl) : AOps P ro ops ({ dst := some d, op := .binOp .add t p q t', type := ty, pos := po, after := af, guard := some (g, gb) } :: rest) Q ⟨T, H, D, n⟩ := Z0 (wY rfl g1 g2 g3) hd (Z0n rfl hp hq hz) h
theorem zCv {k k' : IntKind} {u : Int} {td : TypeDesc} (h : AOps P ro ops rest Q ⟨(d, .v (.int k' u)) :: T, H, D, n⟩) (hp : ev T p = some (.v (.int k u)) := by rfl) [hu : UD P t td] [hu' : UD P t' (.int k')] (hz : k'.wrap u = u := by first | decide +kernel | rfl) (hd : Nat.blt d n = true := by rfl) : AOps P ro ops ({ dst := some d, op := .convert t t' p, type := ty, pos := po, after := af, guard := none } :: rest) Q ⟨T, H, D, n⟩ := Z0 (w0 rfl) hd (hz.symm ▸ Z0b rfl hp) h
theorem Zdw {k k' : IntKind} {u : Int} {td : TypeDesc} (h : Calm P ops H0 KK (kk + 1) rest M ⟨(d, .v (.int k' u)) :: T, H, D, n⟩) (hp : ev T p = some (.v (.int k u)) := by rfl) [hu : UD P t td] [hu' : UD P t' (.int k')] (hz : k'.wrap u = u := by first | decide +kernel | rfl) (hd : Nat.blt d n = true := by rfl) : Calm P ops H0 KK kk ({ dst := some d, op := .convert t t' p, type := ty, pos := po, after := af, guard := none } :: rest) M ⟨T, H, D, n⟩ := Z2 (w0 rfl) hd (hz.symm ▸ Z0b rfl hp) h
theorem Zcd {k k' : IntKind} {u : Int} {td : TypeDesc} {g gt : Nat} {gb : Bool} {og : Oper} (h : Calm P ops H0 KK (kk + 1) rest M ⟨(d, .v (.int k' u)) :: T, H, D, n⟩) (g1 : ops[g]? = some og := by rfl) (g2 : og.dst = some gt := by rfl) (g3 : lk T gt = some (.v (.bool gb)) := by rfl) (hp : ev T p = some (.v (.int k u)) := by rfl) [hu : UD P t td] [hu' : UD P t' (.int k')] (hz : k'.wrap u = u := by first | decide +kernel | rfl) (hd : Nat.blt d n = true := by rfl) : Calm P ops H0 KK kk ({ dst := some d, op := .convert t t' p, type := ty, pos := po, after := af, guard := some (g, gb) } :: rest) M ⟨T, H, D, n⟩ := Z2 (wY rfl g1 g2 g3) hd (hz.symm ▸ Z0b rfl hp) h
theorem Zet {k k' : IntKind} {u : Int} {td : TypeDesc} {g gt : Nat} {gb : Bool} {og : Oper} (h : AOps P ro ops rest Q ⟨(d, .v (.int k' u)) :: T, H, D, n⟩) (g1 : ops[g]? = some og := by rfl) (g2 : og.dst = some gt := by rfl) (g3 : lk T gt = some (.v (.bool gb)) := by rfl) (hp : ev T p = some (.v (.int k u)) := by rfl) [hu : UD P t td] [hu' : UD P t' (.int k')] (hz : k'.wrap u = u := by first | decide +kernel | rfl) (hd : Nat.blt d n = true := by rfl) : AOps P ro ops ({ dst := some d, op := .convert t t' p, type := ty, pos := po, after := af, guard := some (g, gb) } :: rest) Q ⟨T, H, D, n⟩ := Z0 (wY rfl g1 g2 g3) hd (hz.symm ▸ Z0b rfl hp) h
theorem zSx {k : IntKind} {u : ByteArray} {i : Int} (h : AOps P ro ops rest Q ⟨(d, .v (.int .u8 (byteAt u i))) :: T, H, D, n⟩) (hp : ev T p = some (.v (.string u)) := by rfl) (hq : ev T q = some (.v (.int k i)) := by rfl) [hu : UD P t .string] (h0 : 0 ≤ i := by first | decide +kernel | omega) (h1 : i < u.size := by first | decide +kernel | omega) (hd : Nat.blt d n = true := by rfl) : AOps P ro ops ({ dst := some d, op := .index t p q, type := ty, pos := po, after := af, guard := none } :: rest) Q ⟨T, H, D, n⟩ := Z0 (w0 rfl) hd (Z26 rfl hp hq h0 h1) h
theorem Ze4 {k : IntKind} {u : ByteArray} {i : Int} (h : Calm P ops H0 KK (kk + 1) rest M ⟨(d, .v (.int .u8 (byteAt u i))) :: T, H, D, n⟩) (hp : ev T p = some (.v (.string u)) := by rfl) (hq : ev T q = some (.v (.int k i)) := by rfl) [hu : UD P t .string] (h0 : 0 ≤ i := by first | decide +kernel | omega) (h1 : i < u.size := by first | decide +kernel | omega) (hd : Nat.blt d n = true := by rfl) : Calm P ops H0 KK kk ({ dst := some d, op := .index t p q, type := ty, pos := po, after := af, guard := none } :: rest) M ⟨T, H, D, n⟩ := Z2 (w0 rfl) hd (Z26 rfl hp hq h0 h1) h
theorem Zcl {k : IntKind} {u : ByteArray} {i : Int} {g gt : Nat} {gb : Bool} {og : Oper} (h : Calm P ops H0 KK (kk + 1) rest M ⟨(d, .v (.int .u8 (byteAt u i))) :: T, H, D, n⟩) (g1 : ops[g]? = some og := by rfl) (g2 : og.dst = some gt := by rfl) (g3 : lk T gt = some (.v (.bool gb)) := by rfl) (hp : ev T p = some (.v (.string u)) := by rfl) (hq : ev T q = some (.v (.int k i)) := by rfl) [hu : UD P t .string] (h0 : 0 ≤ i := by first | decide +kernel | omega) (h1 : i < u.size := by first | decide +kernel | omega) (hd : Nat.blt d n = true := by rfl) : Calm P ops H0 KK kk ({ dst := some d, op := .index t p q, type := ty, pos := po, after := af, guard := some (g, gb) } :: rest) M ⟨T, H, D, n⟩ := Z2 (wY rfl g1 g2 g3) hd (Z26 rfl hp hq h0 h1) h
theorem Zf1 {k : IntKind} {u : ByteArray} {i : Int} {g gt : Nat} {gb : Bool} {og : Oper} (h : AOps P ro ops rest Q ⟨(d, .v (.int .u8 (byteAt u i))) :: T, H, D, n⟩) (g1 : ops[g]? = some og := by rfl) (g2 : og.dst = some gt := by rfl) (g3 : lk T gt = some (.v (.bool gb)) := by rfl) (hp : ev T p = some (.v (.string u)) := by rfl) (hq : ev T q = some (.v (.int k i)) := by rfl) [hu : UD P t .string] (h0 : 0 ≤ i := by first | decide +kernel | omega) (h1 : i < u.size := by first | decide +kernel | omega) (hd : Nat.blt d n = true := by rfl) : AOps P ro ops ({ dst := some d, op := .index t p q, type := ty, pos := po, after := af, guard := some (g, gb) } :: rest) Q ⟨T, H, D, n⟩ := Z0 (wY rfl g1 g2 g3) hd (Z26 rfl hp hq h0 h1) h
theorem zNe {ks : List CK} {us vs : List AV} (h : AOps P ro ops rest Q ⟨(d, .v (.bool (!(ceqs us vs)))) :: T, H, D, n⟩) (hp : ev T p = some (.agg us) := by rfl) (hq : ev T q = some (.agg vs) := by rfl) [hq' : EQ P t ks] (hx : us.map ckA = ks.map some := by rfl) (hy : vs.map ckA = ks.map some := by rfl) (hd : Nat.blt d n = true := by rfl) : AOps P ro ops ({ dst := some d, op := .binOp .neq t p q t', type := ty, pos := po, after := af, guard := none } :: rest) Q ⟨T, H, D, n⟩ := Z0 (w0 rfl) hd (Z3n rfl hp hq hx hy) h
theorem Ze0 {ks : List CK} {us vs : List AV} (h : Calm P ops H0 KK (kk + 1) rest M ⟨(d, .v (.bool (!(ceqs us vs)))) :: T, H, D, n⟩) (hp : ev T p = some (.agg us) := by rfl) (hq : ev T q = some (.agg vs) := by rfl) [hq' : EQ P t ks] (hx : us.map ckA = ks.map some := by rfl) (hy : vs.map ckA = ks.map some := by rfl) (hd : Nat.blt d n = true := by rfl) : Calm P ops H0 KK kk ({ dst := some d, op := .binOp .neq t p q t', type := ty, pos := po, after := af, guard := none } :: rest) M ⟨T, H, D, n⟩ := Z2 (w0 rfl) hd (Z3n rfl hp hq hx hy) h
theorem Zch {ks : List CK} {us vs : List AV} {g gt : Nat} {gb : Bool} {og : Oper} (h : Calm P ops H0 KK (kk + 1) rest M ⟨(d, .v (.bool (!(ceqs us vs)))) :: T, H, D, n⟩) (g1 : ops[g]? = some og := by rfl) (g2 : og.dst = some gt := by rfl) (g3 : lk T gt = some (.v (.bool gb)) := by rfl) (hp : ev T p = some (.agg us) := by rfl) (hq : ev T q = some (.agg vs) := by rfl) [hq' : EQ P t ks] (hx : us.map ckA = ks.map some := by rfl) (hy : vs.map ckA = ks.map some := by rfl) (hd : Nat.blt d n = true := by rfl) : Calm P ops H0 KK kk ({ dst := some d, op := .binOp .neq t p q t', type := ty, pos := po, after := af, guard := some (g, gb) } :: rest) M ⟨T, H, D, n⟩ := Z2 (wY rfl g1 g2 g3) hd (Z3n rfl hp hq hx hy) h
theorem Zex {ks : List CK} {us vs : List AV} {g gt : Nat} {gb : Bool} {og : Oper} (h : AOps P ro ops rest Q ⟨(d, .v (.bool (!(ceqs us vs)))) :: T, H, D, n⟩) (g1 : ops[g]? = some og := by rfl) (g2 : og.dst = some gt := by rfl) (g3 : lk T gt = some (.v (.bool gb)) := by rfl) (hp : ev T p = some (.agg us) := by rfl) (hq : ev T q = some (.agg vs) := by rfl) [hq' : EQ P t ks] (hx : us.map ckA = ks.map some := by rfl) (hy : vs.map ckA = ks.map some := by rfl) (hd : Nat.blt d n = true := by rfl) : AOps P ro ops ({ dst := some d, op := .binOp .neq t p q t', type := ty, pos := po, after := af, guard := some (g, gb) } :: rest) Q ⟨T, H, D, n⟩ := Z0 (wY rfl g1 g2 g3) hd (Z3n rfl hp hq hx hy) h
theorem zX {i : Nat} {cs : List AV} (h : AOps P ro ops rest Q ⟨(d, x) :: T, H, D, n⟩) (hp : ev T p = some (.tup cs) := by rfl) (hx : cs[i]? = some x := by rfl) (hd : Nat.blt d n = true := by rfl) : AOps P ro ops ({ dst := some d, op := .extract p i, type := ty, pos := po, after := af, guard := none } :: rest) Q ⟨T, H, D, n⟩ := Z0 (w0 rfl) hd (Zm rfl hp hx) h
theorem zcX {i : Nat} {cs : List AV} (h : Calm P ops H0 KK (kk + 1) rest M ⟨(d, x) :: T, H, D, n⟩) (hp : ev T p = some (.tup cs) := by rfl) (hx : cs[i]? = some x := by rfl) (hd : Nat.blt d n = true := by rfl) : Calm P ops H0 KK kk ({ dst := some d, op := .extract p i, type := ty, pos := po, after := af, guard := none } :: rest) M ⟨T, H, D, n⟩ := Z2 (w0 rfl) hd (Zm rfl hp hx) h
theorem Zeg {i : Nat} {cs : List AV} {g gt : Nat} {gb : Bool} {og : Oper} (h : Calm P ops H0 KK (kk + 1) rest M ⟨(d, x) :: T, H, D, n⟩) (g1 : ops[g]? = some og := by rfl) (g2 : og.dst = some gt := by rfl) (g3 : lk T gt = some (.v (.bool gb)) := by rfl) (hp : ev T p = some (.tup cs) := by rfl) (hx : cs[i]? = some x := by rfl) (hd : Nat.blt d n = true := by rfl) : Calm P ops H0 KK kk ({ dst := some d, op := .extract p i, type := ty, pos := po, after := af, guard := some (g, gb) } :: rest) M ⟨T, H, D, n⟩ := Z2 (wY rfl g1 g2 g3) hd (Zm rfl hp hx) h
theorem zgX {i : Nat} {cs : List AV} {g gt : Nat} {gb : Bool} {og : Oper} (h : AOps P ro ops rest Q ⟨(d, x) :: T, H, D, n⟩) (g1 : ops[g]? = some og := by rfl) (g2 : og.dst = some gt := by rfl) (g3 : lk T gt = some (.v (.bool gb)) := by rfl) (hp : ev T p = some (.tup cs) := by rfl) (hx : cs[i]? = some x := by rfl) (hd : Nat.blt d n = true := by rfl) : AOps P ro ops ({ dst := some d, op := .extract p i, type := ty, pos := po, after := af, guard := some (g, gb) } :: rest) Q ⟨T, H, D, n⟩ := Z0 (wY rfl g1 g2 g3) hd (Zm rfl hp hx) h
theorem zF {f off ft : Nat} (h : AOps P ro ops rest Q ⟨(d, x) :: T, H, D, n⟩) (hp : ev T p = some y := by rfl) [hf : FO P t f off ft] (hz : plus y off = some x := by rfl) (hd : Nat.blt d n = true := by rfl) : AOps P ro ops ({ dst := some d, op := .fieldAddr t p f, type := ty, pos := po, after := af, guard := none } :: rest) Q ⟨T, H, D, n⟩ := Z0 (w0 rfl) hd (Zz rfl hp hz) h
theorem zcF {f off ft : Nat} (h : Calm P ops H0 KK (kk + 1) rest M ⟨(d, x) :: T, H, D, n⟩) (hp : ev T p = some y := by rfl) [hf : FO P t f off ft] (hz : plus y off = some x := by rfl) (hd : Nat.blt d n = true := by rfl) : Calm P ops H0 KK kk ({ dst := some d, op := .fieldAddr t p f, type := ty, pos := po, after := af, guard := none } :: rest) M ⟨T, H, D, n⟩ := Z2 (w0 rfl) hd (Zz rfl hp hz) h
theorem Ze8 {f off ft : Nat} {g gt : Nat} {gb : Bool} {og : Oper} (h : Calm P ops H0 KK (kk + 1) rest M ⟨(d, x) :: T, H, D, n⟩) (g1 : ops[g]? = some og := by rfl) (g2 : og.dst = some gt := by rfl) (g3 : lk T gt = some (.v (.bool gb)) := by rfl) (hp : ev T p = some y := by rfl) [hf : FO P t f off ft] (hz : plus y off = some x := by rfl) (hd : Nat.blt d n = true := by rfl) : Calm P ops H0 KK kk ({ dst := some d, op := .fieldAddr t p f, type := ty, pos := po, after := af, guard := some (g, gb) } :: rest) M ⟨T, H, D, n⟩ := Z2 (wY rfl g1 g2 g3) hd (Zz rfl hp hz) h
theorem zgF {f off ft : Nat} {g gt : Nat} {gb : Bool} {og : Oper} (h : AOps P ro ops rest Q ⟨(d, x) :: T, H, D, n⟩) (g1 : ops[g]? = some og := by rfl) (g2 : og.dst = some gt := by rfl) (g3 : lk T gt = some (.v (.bool gb)) := by rfl) (hp : ev T p = some y := by rfl) [hf : FO P t f off ft] (hz : plus y off = some x := by rfl) (hd : Nat.blt d n = true := by rfl) : AOps P ro ops ({ dst := some d, op := .fieldAddr t p f, type := ty, pos := po, after := af, guard := some (g, gb) } :: rest) Q ⟨T, H, D, n⟩ := Z0 (wY rfl g1 g2 g3) hd (Zz rfl hp hz) h
theorem zNc  (h : AOps P ro ops rest Q ⟨(d, x) :: T, H, D, n⟩) (hp : ev T p = some x := by rfl) (hx : isPtr x = true := by rfl) (hd : Nat.blt d n = true := by rfl) : AOps P ro ops ({ dst := some d, op := .nilCheck p, type := ty, pos := po, after := af, guard := none } :: rest) Q ⟨T, H, D, n⟩ := Z0 (w0 rfl) hd (Z04 rfl hp hx) h
theorem Zdz  (h : Calm P ops H0 KK (kk + 1) rest M ⟨(d, x) :: T, H, D, n⟩) (hp : ev T p = some x := by rfl) (hx : isPtr x = true := by rfl) (hd : Nat.blt d n = true := by rfl) : Calm P ops H0 KK kk ({ dst := some d, op := .nilCheck p, type := ty, pos := po, after := af, guard := none } :: rest) M ⟨T, H, D, n⟩ := Z2 (w0 rfl) hd (Z04 rfl hp hx) h
theorem Zcg  {g gt : Nat} {gb : Bool} {og : Oper} (h : Calm P ops H0 KK (kk + 1) rest M ⟨(d, x) :: T, H, D, n⟩) (g1 : ops[g]? = some og := by rfl) (g2 : og.dst = some gt := by rfl) (g3 : lk T gt = some (.v (.bool gb)) := by rfl) (hp : ev T p = some x := by rfl) (hx : isPtr x = true := by rfl) (hd : Nat.blt d n = true := by rfl) : Calm P ops H0 KK kk ({ dst := some d, op := .nilCheck p, type := ty, pos := po, after := af, guard := some (g, gb) } :: rest) M ⟨T, H, D, n⟩ := Z2 (wY rfl g1 g2 g3) hd (Z04 rfl hp hx) h
theorem Zew  {g gt : Nat} {gb : Bool} {og : Oper} (h : AOps P ro ops rest Q ⟨(d, x) :: T, H, D, n⟩) (g1 : ops[g]? = some og := by rfl) (g2 : og.dst = some gt := by rfl) (g3 : lk T gt = some (.v (.bool gb)) := by rfl) (hp : ev T p = some x := by rfl) (hx : isPtr x = true := by rfl) (hd : Nat.blt d n = true := by rfl) : AOps P ro ops ({ dst := some d, op := .nilCheck p, type := ty, pos := po, after := af, guard := some (g, gb) } :: rest) Q ⟨T, H, D, n⟩ := Z0 (wY rfl g1 g2 g3) hd (Z04 rfl hp hx) h
theorem zB1 [tk : TK P t true 1] {c1 : AV} {pl : List (Nat × Nat)} {zs : List Value} {ps : Array (Nat × Operand)} {xs : List AV} (h : AOps P ro ops rest Q ⟨(d, .agg [c1]) :: T, H, D, n⟩) (hxs : evs T (ps.toList.map Prod.snd) = some xs := by rfl) [hl : PL P t pl] [hz : ZC P t zs] (hc : fillA (fun i => pl[i]?) (zs.map .v) ((ps.toList.map Prod.fst).zip xs) = some [c1] := by rfl) (hd : Nat.blt d n = true := by rfl) : AOps P ro ops ({ dst := some d, op := .build t ps, type := ty, pos := po, after := af, guard := none } :: rest) Q ⟨T, H, D, n⟩ := Z0 (w0 rfl) hd (Z5 rfl hxs hc) h
theorem Zdm [tk : TK P t true 1] {c1 : AV} {pl : List (Nat × Nat)} {zs : List Value} {ps : Array (Nat × Operand)} {xs : List AV} (h : Calm P ops H0 KK (kk + 1) rest M ⟨(d, .agg [c1]) :: T, H, D, n⟩) (hxs : evs T (ps.toList.map Prod.snd) = some xs := by rfl) [hl : PL P t pl] [hz : ZC P t zs] (hc : fillA (fun i => pl[i]?) (zs.map .v) ((ps.toList.map Prod.fst).zip xs) = some [c1] := by rfl) (hd : Nat.blt d n = true := by rfl) : Calm P ops H0 KK kk ({ dst := some d, op := .build t ps, type := ty, pos := po, after := af, guard := none } :: rest) M ⟨T, H, D, n⟩ := Z2 (w0 rfl) hd (Z5 rfl hxs hc) h
theorem Zc1 [tk : TK P t true 1] {c1 : AV} {pl : List (Nat × Nat)} {zs : List Value} {ps : Array (Nat × Operand)} {xs : List AV} {g gt : Nat} {gb : Bool} {og : Oper} (h : Calm P ops H0 KK (kk + 1) rest M ⟨(d, .agg [c1]) :: T, H, D, n⟩) (g1 : ops[g]? = some og := by rfl) (g2 : og.dst = some gt := by rfl) (g3 : lk T gt = some (.v (.bool gb)) := by rfl) (hxs : evs T (ps.toList.map Prod.snd) = some xs := by rfl) [hl : PL P t pl] [hz : ZC P t zs] (hc : fillA (fun i => pl[i]?) (zs.map .v) ((ps.toList.map Prod.fst).zip xs) = some [c1] := by rfl) (hd : Nat.blt d n = true := by rfl) : Calm P ops H0 KK kk ({ dst := some d, op := .build t ps, type := ty, pos := po, after := af, guard := some (g, gb) } :: rest) M ⟨T, H, D, n⟩ := Z2 (wY rfl g1 g2 g3) hd (Z5 rfl hxs hc) h
theorem Zeh [tk : TK P t true 1] {c1 : AV} {pl : List (Nat × Nat)} {zs : List Value} {ps : Array (Nat × Operand)} {xs : List AV} {g gt : Nat} {gb : Bool} {og : Oper} (h : AOps P ro ops rest Q ⟨(d, .agg [c1]) :: T, H, D, n⟩) (g1 : ops[g]? = some og := by rfl) (g2 : og.dst = some gt := by rfl) (g3 : lk T gt = some (.v (.bool gb)) := by rfl) (hxs : evs T (ps.toList.map Prod.snd) = some xs := by rfl) [hl : PL P t pl] [hz : ZC P t zs] (hc : fillA (fun i => pl[i]?) (zs.map .v) ((ps.toList.map Prod.fst).zip xs) = some [c1] := by rfl) (hd : Nat.blt d n = true := by rfl) : AOps P ro ops ({ dst := some d, op := .build t ps, type := ty, pos := po, after := af, guard := some (g, gb) } :: rest) Q ⟨T, H, D, n⟩ := Z0 (wY rfl g1 g2 g3) hd (Z5 rfl hxs hc) h
theorem zB2 [tk : TK P t true 2] {c1 c2 : AV} {pl : List (Nat × Nat)} {zs : List Value} {ps : Array (Nat × Operand)} {xs : List AV} (h : AOps P ro ops rest Q ⟨(d, .agg [c1, c2]) :: T, H, D, n⟩) (hxs : evs T (ps.toList.map Prod.snd) = some xs := by rfl) [hl : PL P t pl] [hz : ZC P t zs] (hc : fillA (fun i => pl[i]?) (zs.map .v) ((ps.toList.map Prod.fst).zip xs) = some [c1, c2] := by rfl) (hd : Nat.blt d n = true := by rfl) : AOps P ro ops ({ dst := some d, op := .build t ps, type := ty, pos := po, after := af, guard := none } :: rest) Q ⟨T, H, D, n⟩ := Z0 (w0 rfl) hd (Z5 rfl hxs hc) h
theorem Zdn [tk : TK P t true 2] {c1 c2 : AV} {pl : List (Nat × Nat)} {zs : List Value} {ps : Array (Nat × Operand)} {xs : List AV} (h : Calm P ops H0 KK (kk + 1) rest M ⟨(d, .agg [c1, c2]) :: T, H, D, n⟩) (hxs : evs T (ps.toList.map Prod.snd) = some xs := by rfl) [hl : PL P t pl] [hz : ZC P t zs] (hc : fillA (fun i => pl[i]?) (zs.map .v) ((ps.toList.map Prod.fst).zip xs) = some [c1, c2] := by rfl) (hd : Nat.blt d n = true := by rfl) : Calm P ops H0 KK kk ({ dst := some d, op := .build t ps, type := ty, pos := po, after := af, guard := none } :: rest) M ⟨T, H, D, n⟩ := Z2 (w0 rfl) hd (Z5 rfl hxs hc) h
theorem Zc2 [tk : TK P t true 2] {c1 c2 : AV} {pl : List (Nat × Nat)} {zs : List Value} {ps : Array (Nat × Operand)} {xs : List AV} {g gt : Nat} {gb : Bool} {og : Oper} (h : Calm P ops H0 KK (kk + 1) rest M ⟨(d, .agg [c1, c2]) :: T, H, D, n⟩) (g1 : ops[g]? = some og := by rfl) (g2 : og.dst = some gt := by rfl) (g3 : lk T gt = some (.v (.bool gb)) := by rfl) (hxs : evs T (ps.toList.map Prod.snd) = some xs := by rfl) [hl : PL P t pl] [hz : ZC P t zs] (hc : fillA (fun i => pl[i]?) (zs.map .v) ((ps.toList.map Prod.fst).zip xs) = some [c1, c2] := by rfl) (hd : Nat.blt d n = true := by rfl) : Calm P ops H0 KK kk ({ dst := some d, op := .build t ps, type := ty, pos := po, after := af, guard := some (g, gb) } :: rest) M ⟨T, H, D, n⟩ := Z2 (wY rfl g1 g2 g3) hd (Z5 rfl hxs hc) h
theorem Zei [tk : TK P t true 2] {c1 c2 : AV} {pl : List (Nat × Nat)} {zs : List Value} {ps : Array (Nat × Operand)} {xs : List AV} {g gt : Nat} {gb : Bool} {og : Oper} (h : AOps P ro ops rest Q ⟨(d, .agg [c1, c2]) :: T, H, D, n⟩) (g1 : ops[g]? = some og := by rfl) (g2 : og.dst = some gt := by rfl) (g3 : lk T gt = some (.v (.bool gb)) := by rfl) (hxs : evs T (ps.toList.map Prod.snd) = some xs := by rfl) [hl : PL P t pl] [hz : ZC P t zs] (hc : fillA (fun i => pl[i]?) (zs.map .v) ((ps.toList.map Prod.fst).zip xs) = some [c1, c2] := by rfl) (hd : Nat.blt d n = true := by rfl) : AOps P ro ops ({ dst := some d, op := .build t ps, type := ty, pos := po, after := af, guard := some (g, gb) } :: rest) Q ⟨T, H, D, n⟩ := Z0 (wY rfl g1 g2 g3) hd (Z5 rfl hxs hc) h
theorem zB3 [tk : TK P t true 3] {c1 c2 c3 : AV} {pl : List (Nat × Nat)} {zs : List Value} {ps : Array (Nat × Operand)} {xs : List AV} (h : AOps P ro ops rest Q ⟨(d, .agg [c1, c2, c3]) :: T, H, D, n⟩) (hxs : evs T (ps.toList.map Prod.snd) = some xs := by rfl) [hl : PL P t pl] [hz : ZC P t zs] (hc : fillA (fun i => pl[i]?) (zs.map .v) ((ps.toList.map Prod.fst).zip xs) = some [c1, c2, c3] := by rfl) (hd : Nat.blt d n = true := by rfl) : AOps P ro ops ({ dst := some d, op := .build t ps, type := ty, pos := po, after := af, guard := none } :: rest) Q ⟨T, H, D, n⟩ := Z0 (w0 rfl) hd (Z5 rfl hxs hc) h
theorem Zdo [tk : TK P t true 3] {c1 c2 c3 : AV} {pl : List (Nat × Nat)} {zs : List Value} {ps : Array (Nat × Operand)} {xs : List AV} (h : Calm P ops H0 KK (kk + 1) rest M ⟨(d, .agg [c1, c2, c3]) :: T, H, D, n⟩) (hxs : evs T (ps.toList.map Prod.snd) = some xs := by rfl) [hl : PL P t pl] [hz : ZC P t zs] (hc : fillA (fun i => pl[i]?) (zs.map .v) ((ps.toList.map Prod.fst).zip xs) = some [c1, c2, c3] := by rfl) (hd : Nat.blt d n = true := by rfl) : Calm P ops H0 KK kk ({ dst := some d, op := .build t ps, type := ty, pos := po, after := af, guard := none } :: rest) M ⟨T, H, D, n⟩ := Z2 (w0 rfl) hd (Z5 rfl hxs hc) h
theorem Zc3 [tk : TK P t true 3] {c1 c2 c3 : AV} {pl : List (Nat × Nat)} {zs : List Value} {ps : Array (Nat × Operand)} {xs : List AV} {g gt : Nat} {gb : Bool} {og : Oper} (h : Calm P ops H0 KK (kk + 1) rest M ⟨(d, .agg [c1, c2, c3]) :: T, H, D, n⟩) (g1 : ops[g]? = some og := by rfl) (g2 : og.dst = some gt := by rfl) (g3 : lk T gt = some (.v (.bool gb)) := by rfl) (hxs : evs T (ps.toList.map Prod.snd) = some xs := by rfl) [hl : PL P t pl] [hz : ZC P t zs] (hc : fillA (fun i => pl[i]?) (zs.map .v) ((ps.toList.map Prod.fst).zip xs) = some [c1, c2, c3] := by rfl) (hd : Nat.blt d n = true := by rfl) : Calm P ops H0 KK kk ({ dst := some d, op := .build t ps, type := ty, pos := po, after := af, guard := some (g, gb) } :: rest) M ⟨T, H, D, n⟩ := Z2 (wY rfl g1 g2 g3) hd (Z5 rfl hxs hc) h
theorem Zej [tk : TK P t true 3] {c1 c2 c3 : AV} {pl : List (Nat × Nat)} {zs : List Value} {ps : Array (Nat × Operand)} {xs : List AV} {g gt : Nat} {gb : Bool} {og : Oper} (h : AOps P ro ops rest Q ⟨(d, .agg [c1, c2, c3]) :: T, H, D, n⟩) (g1 : ops[g]? = some og := by rfl) (g2 : og.dst = some gt := by rfl) (g3 : lk T gt = some (.v (.bool gb)) := by rfl) (hxs : evs T (ps.toList.map Prod.snd) = some xs := by rfl) [hl : PL P t pl] [hz : ZC P t zs] (hc : fillA (fun i => pl[i]?) (zs.map .v) ((ps.toList.map Prod.fst).zip xs) = some [c1, c2, c3] := by rfl) (hd : Nat.blt d n = true := by rfl) : AOps P ro ops ({ dst := some d, op := .build t ps, type := ty, pos := po, after := af, guard := some (g, gb) } :: rest) Q ⟨T, H, D, n⟩ := Z0 (wY rfl g1 g2 g3) hd (Z5 rfl hxs hc) h
theorem zB4 [tk : TK P t true 4] {c1 c2 c3 c4 : AV} {pl : List (Nat × Nat)} {zs : List Value} {ps : Array (Nat × Operand)} {xs : List AV} (h : AOps P ro ops rest Q ⟨(d, .agg [c1, c2, c3, c4]) :: T, H, D, n⟩) (hxs : evs T (ps.toList.map Prod.snd) = some xs := by rfl) [hl : PL P t pl] [hz : ZC P t zs] (hc : fillA (fun i => pl[i]?) (zs.map .v) ((ps.toList.map Prod.fst).zip xs) = some [c1, c2, c3, c4] := by rfl) (hd : Nat.blt d n = true := by rfl) : AOps P ro ops ({ dst := some d, op := .build t ps, type := ty, pos := po, after := af, guard := none } :: rest) Q ⟨T, H, D, n⟩ := Z0 (w0 rfl) hd (Z5 rfl hxs hc) h
theorem Zdp [tk : TK P t true 4] {c1 c2 c3 c4 : AV} {pl : List (Nat × Nat)} {zs : List Value} {ps : Array (Nat × Operand)} {xs : List AV} (h : Calm P ops H0 KK (kk + 1) rest M ⟨(d, .agg [c1, c2, c3, c4]) :: T, H, D, n⟩) (hxs : evs T (ps.toList.map Prod.snd) = some xs := by rfl) [hl : PL P t pl] [hz : ZC P t zs] (hc : fillA (fun i => pl[i]?) (zs.map .v) ((ps.toList.map Prod.fst).zip xs) = some [c1, c2, c3, c4] := by rfl) (hd : Nat.blt d n = true := by rfl) : Calm P ops H0 KK kk ({ dst := some d, op := .build t ps, type := ty, pos := po, after := af, guard := none } :: rest) M ⟨T, H, D, n⟩ := Z2 (w0 rfl) hd (Z5 rfl hxs hc) h
theorem Zc4 [tk : TK P t true 4] {c1 c2 c3 c4 : AV} {pl : List (Nat × Nat)} {zs : List Value} {ps : Array (Nat × Operand)} {xs : List AV} {g gt : Nat} {gb : Bool} {og : Oper} (h : Calm P ops H0 KK (kk + 1) rest M ⟨(d, .agg [c1, c2, c3, c4]) :: T, H, D, n⟩) (g1 : ops[g]? = some og := by rfl) (g2 : og.dst = some gt := by rfl) (g3 : lk T gt = some (.v (.bool gb)) := by rfl) (hxs : evs T (ps.toList.map Prod.snd) = some xs := by rfl) [hl : PL P t pl] [hz : ZC P t zs] (hc : fillA (fun i => pl[i]?) (zs.map .v) ((ps.toList.map Prod.fst).zip xs) = some [c1, c2, c3, c4] := by rfl) (hd : Nat.blt d n = true := by rfl) : Calm P ops H0 KK kk ({ dst := some d, op := .build t ps, type := ty, pos := po, after := af, guard := some (g, gb) } :: rest) M ⟨T, H, D, n⟩ := Z2 (wY rfl g1 g2 g3) hd (Z5 rfl hxs hc) h
theorem Zek [tk : TK P t true 4] {c1 c2 c3 c4 : AV} {pl : List (Nat × Nat)} {zs : List Value} {ps : Array (Nat × Operand)} {xs : List AV} {g gt : Nat} {gb : Bool} {og : Oper} (h : AOps P ro ops rest Q ⟨(d, .agg [c1, c2, c3, c4]) :: T, H, D, n⟩) (g1 : ops[g]? = some og := by rfl) (g2 : og.dst = some gt := by rfl) (g3 : lk T gt = some (.v (.bool gb)) := by rfl) (hxs : evs T (ps.toList.map Prod.snd) = some xs := by rfl) [hl : PL P t pl] [hz : ZC P t zs] (hc : fillA (fun i => pl[i]?) (zs.map .v) ((ps.toList.map Prod.fst).zip xs) = some [c1, c2, c3, c4] := by rfl) (hd : Nat.blt d n = true := by rfl) : AOps P ro ops ({ dst := some d, op := .build t ps, type := ty, pos := po, after := af, guard := some (g, gb) } :: rest) Q ⟨T, H, D, n⟩ := Z0 (wY rfl g1 g2 g3) hd (Z5 rfl hxs hc) h
theorem zB5 [tk : TK P t true 5] {c1 c2 c3 c4 c5 : AV} {pl : List (Nat × Nat)} {zs : List Value} {ps : Array (Nat × Operand)} {xs : List AV} (h : AOps P ro ops rest Q ⟨(d, .agg [c1, c2, c3, c4, c5]) :: T, H, D, n⟩) (hxs : evs T (ps.toList.map Prod.snd) = some xs := by rfl) [hl : PL P t pl] [hz : ZC P t zs] (hc : fillA (fun i => pl[i]?) (zs.map .v) ((ps.toList.map Prod.fst).zip xs) = some [c1, c2, c3, c4, c5] := by rfl) (hd : Nat.blt d n = true := by rfl) : AOps P ro ops ({ dst := some d, op := .build t ps, type := ty, pos := po, after := af, guard := none } :: rest) Q ⟨T, H, D, n⟩ := Z0 (w0 rfl) hd (Z5 rfl hxs hc) h
theorem Zb9 [tk : TK P t true 5] {c1 c2 c3 c4 c5 : AV} {pl : List (Nat × Nat)} {zs : List Value} {ps : Array (Nat × Operand)} {xs : List AV} (h : Calm P ops H0 KK (kk + 1) rest M ⟨(d, .agg [c1, c2, c3, c4, c5]) :: T, H, D, n⟩) (hxs : evs T (ps.toList.map Prod.snd) = some xs := by rfl) [hl : PL P t pl] [hz : ZC P t zs] (hc : fillA (fun i => pl[i]?) (zs.map .v) ((ps.toList.map Prod.fst).zip xs) = some [c1, c2, c3, c4, c5] := by rfl) (hd : Nat.blt d n = true := by rfl) : Calm P ops H0 KK kk ({ dst := some d, op := .build t ps, type := ty, pos := po, after := af, guard := none } :: rest) M ⟨T, H, D, n⟩ := Z2 (w0 rfl) hd (Z5 rfl hxs hc) h
theorem Zc5 [tk : TK P t true 5] {c1 c2 c3 c4 c5 : AV} {pl : List (Nat × Nat)} {zs : List Value} {ps : Array (Nat × Operand)} {xs : List AV} {g gt : Nat} {gb : Bool} {og : Oper} (h : Calm P ops H0 KK (kk + 1) rest M ⟨(d, .agg [c1, c2, c3, c4, c5]) :: T, H, D, n⟩) (g1 : ops[g]? = some og := by rfl) (g2 : og.dst = some gt := by rfl) (g3 : lk T gt = some (.v (.bool gb)) := by rfl) (hxs : evs T (ps.toList.map Prod.snd) = some xs := by rfl) [hl : PL P t pl] [hz : ZC P t zs] (hc : fillA (fun i => pl[i]?) (zs.map .v) ((ps.toList.map Prod.fst).zip xs) = some [c1, c2, c3, c4, c5] := by rfl) (hd : Nat.blt d n = true := by rfl) : Calm P ops H0 KK kk ({ dst := some d, op := .build t ps, type := ty, pos := po, after := af, guard := some (g, gb) } :: rest) M ⟨T, H, D, n⟩ := Z2 (wY rfl g1 g2 g3) hd (Z5 rfl hxs hc) h
theorem Zel [tk : TK P t true 5] {c1 c2 c3 c4 c5 : AV} {pl : List (Nat × Nat)} {zs : List Value} {ps : Array (Nat × Operand)} {xs : List AV} {g gt : Nat} {gb : Bool} {og : Oper} (h : AOps P ro ops rest Q ⟨(d, .agg [c1, c2, c3, c4, c5]) :: T, H, D, n⟩) (g1 : ops[g]? = some og := by rfl) (g2 : og.dst = some gt := by rfl) (g3 : lk T gt = some (.v (.bool gb)) := by rfl) (hxs : evs T (ps.toList.map Prod.snd) = some xs := by rfl) [hl : PL P t pl] [hz : ZC P t zs] (hc : fillA (fun i => pl[i]?) (zs.map .v) ((ps.toList.map Prod.fst).zip xs) = some [c1, c2, c3, c4, c5] := by rfl) (hd : Nat.blt d n = true := by rfl) : AOps P ro ops ({ dst := some d, op := .build t ps, type := ty, pos := po, after := af, guard := some (g, gb) } :: rest) Q ⟨T, H, D, n⟩ := Z0 (wY rfl g1 g2 g3) hd (Z5 rfl hxs hc) h
theorem zB7 [tk : TK P t true 7] {c1 c2 c3 c4 c5 c6 c7 : AV} {pl : List (Nat × Nat)} {zs : List Value} {ps : Array (Nat × Operand)} {xs : List AV} (h : AOps P ro ops rest Q ⟨(d, .agg [c1, c2, c3, c4, c5, c6, c7]) :: T, H, D, n⟩) (hxs : evs T (ps.toList.map Prod.snd) = some xs := by rfl) [hl : PL P t pl] [hz : ZC P t zs] (hc : fillA (fun i => pl[i]?) (zs.map .v) ((ps.toList.map Prod.fst).zip xs) = some [c1, c2, c3, c4, c5, c6, c7] := by rfl) (hd : Nat.blt d n = true := by rfl) : AOps P ro ops ({ dst := some d, op := .build t ps, type := ty, pos := po, after := af, guard := none } :: rest) Q ⟨T, H, D, n⟩ := Z0 (w0 rfl) hd (Z5 rfl hxs hc) h
theorem Zdq [tk : TK P t true 7] {c1 c2 c3 c4 c5 c6 c7 : AV} {pl : List (Nat × Nat)} {zs : List Value} {ps : Array (Nat × Operand)} {xs : List AV} (h : Calm P ops H0 KK (kk + 1) rest M ⟨(d, .agg [c1, c2, c3, c4, c5, c6, c7]) :: T, H, D, n⟩) (hxs : evs T (ps.toList.map Prod.snd) = some xs := by rfl) [hl : PL P t pl] [hz : ZC P t zs] (hc : fillA (fun i => pl[i]?) (zs.map .v) ((ps.toList.map Prod.fst).zip xs) = some [c1, c2, c3, c4, c5, c6, c7] := by rfl) (hd : Nat.blt d n = true := by rfl) : Calm P ops H0 KK kk ({ dst := some d, op := .build t ps, type := ty, pos := po, after := af, guard := none } :: rest) M ⟨T, H, D, n⟩ := Z2 (w0 rfl) hd (Z5 rfl hxs hc) h
theorem Zc6 [tk : TK P t true 7] {c1 c2 c3 c4 c5 c6 c7 : AV} {pl : List (Nat × Nat)} {zs : List Value} {ps : Array (Nat × Operand)} {xs : List AV} {g gt : Nat} {gb : Bool} {og : Oper} (h : Calm P ops H0 KK (kk + 1) rest M ⟨(d, .agg [c1, c2, c3, c4, c5, c6, c7]) :: T, H, D, n⟩) (g1 : ops[g]? = some og := by rfl) (g2 : og.dst = some gt := by rfl) (g3 : lk T gt = some (.v (.bool gb)) := by rfl) (hxs : evs T (ps.toList.map Prod.snd) = some xs := by rfl) [hl : PL P t pl] [hz : ZC P t zs] (hc : fillA (fun i => pl[i]?) (zs.map .v) ((ps.toList.map Prod.fst).zip xs) = some [c1, c2, c3, c4, c5, c6, c7] := by rfl) (hd : Nat.blt d n = true := by rfl) : Calm P ops H0 KK kk ({ dst := some d, op := .build t ps, type := ty, pos := po, after := af, guard := some (g, gb) } :: rest) M ⟨T, H, D, n⟩ := Z2 (wY rfl g1 g2 g3) hd (Z5 rfl hxs hc) h
theorem Zem [tk : TK P t true 7] {c1 c2 c3 c4 c5 c6 c7 : AV} {pl : List (Nat × Nat)} {zs : List Value} {ps : Array (Nat × Operand)} {xs : List AV} {g gt : Nat} {gb : Bool} {og : Oper} (h : AOps P ro ops rest Q ⟨(d, .agg [c1, c2, c3, c4, c5, c6, c7]) :: T, H, D, n⟩) (g1 : ops[g]? = some og := by rfl) (g2 : og.dst = some gt := by rfl) (g3 : lk T gt = some (.v (.bool gb)) := by rfl) (hxs : evs T (ps.toList.map Prod.snd) = some xs := by rfl) [hl : PL P t pl] [hz : ZC P t zs] (hc : fillA (fun i => pl[i]?) (zs.map .v) ((ps.toList.map Prod.fst).zip xs) = some [c1, c2, c3, c4, c5, c6, c7] := by rfl) (hd : Nat.blt d n = true := by rfl) : AOps P ro ops ({ dst := some d, op := .build t ps, type := ty, pos := po, after := af, guard := some (g, gb) } :: rest) Q ⟨T, H, D, n⟩ := Z0 (wY rfl g1 g2 g3) hd (Z5 rfl hxs hc) h
theorem zB9 [tk : TK P t true 9] {c1 c2 c3 c4 c5 c6 c7 c8 c9 : AV} {pl : List (Nat × Nat)} {zs : List Value} {ps : Array (Nat × Operand)} {xs : List AV} (h : AOps P ro ops rest Q ⟨(d, .agg [c1, c2, c3, c4, c5, c6, c7, c8, c9]) :: T, H, D, n⟩) (hxs : evs T (ps.toList.map Prod.snd) = some xs := by rfl) [hl : PL P t pl] [hz : ZC P t zs] (hc : fillA (fun i => pl[i]?) (zs.map .v) ((ps.toList.map Prod.fst).zip xs) = some [c1, c2, c3, c4, c5, c6, c7, c8, c9] := by rfl) (hd : Nat.blt d n = true := by rfl) : AOps P ro ops ({ dst := some d, op := .build t ps, type := ty, pos := po, after := af, guard := none } :: rest) Q ⟨T, H, D, n⟩ := Z0 (w0 rfl) hd (Z5 rfl hxs hc) h
theorem Zdr [tk : TK P t true 9] {c1 c2 c3 c4 c5 c6 c7 c8 c9 : AV} {pl : List (Nat × Nat)} {zs : List Value} {ps : Array (Nat × Operand)} {xs : List AV} (h : Calm P ops H0 KK (kk + 1) rest M ⟨(d, .agg [c1, c2, c3, c4, c5, c6, c7, c8, c9]) :: T, H, D, n⟩) (hxs : evs T (ps.toList.map Prod.snd) = some xs := by rfl) [hl : PL P t pl] [hz : ZC P t zs] (hc : fillA (fun i => pl[i]?) (zs.map .v) ((ps.toList.map Prod.fst).zip xs) = some [c1, c2, c3, c4, c5, c6, c7, c8, c9] := by rfl) (hd : Nat.blt d n = true := by rfl) : Calm P ops H0 KK kk ({ dst := some d, op := .build t ps, type := ty, pos := po, after := af, guard := none } :: rest) M ⟨T, H, D, n⟩ := Z2 (w0 rfl) hd (Z5 rfl hxs hc) h
theorem Zc7 [tk : TK P t true 9] {c1 c2 c3 c4 c5 c6 c7 c8 c9 : AV} {pl : List (Nat × Nat)} {zs : List Value} {ps : Array (Nat × Operand)} {xs : List AV} {g gt : Nat} {gb : Bool} {og : Oper} (h : Calm P ops H0 KK (kk + 1) rest M ⟨(d, .agg [c1, c2, c3, c4, c5, c6, c7, c8, c9]) :: T, H, D, n⟩) (g1 : ops[g]? = some og := by rfl) (g2 : og.dst = some gt := by rfl) (g3 : lk T gt = some (.v (.bool gb)) := by rfl) (hxs : evs T (ps.toList.map Prod.snd) = some xs := by rfl) [hl : PL P t pl] [hz : ZC P t zs] (hc : fillA (fun i => pl[i]?) (zs.map .v) ((ps.toList.map Prod.fst).zip xs) = some [c1, c2, c3, c4, c5, c6, c7, c8, c9] := by rfl) (hd : Nat.blt d n = true := by rfl) : Calm P ops H0 KK kk ({ dst := some d, op := .build t ps, type := ty, pos := po, after := af, guard := some (g, gb) } :: rest) M ⟨T, H, D, n⟩ := Z2 (wY rfl g1 g2 g3) hd (Z5 rfl hxs hc) h
theorem Zen [tk : TK P t true 9] {c1 c2 c3 c4 c5 c6 c7 c8 c9 : AV} {pl : List (Nat × Nat)} {zs : List Value} {ps : Array (Nat × Operand)} {xs : List AV} {g gt : Nat} {gb : Bool} {og : Oper} (h : AOps P ro ops rest Q ⟨(d, .agg [c1, c2, c3, c4, c5, c6, c7, c8, c9]) :: T, H, D, n⟩) (g1 : ops[g]? = some og := by rfl) (g2 : og.dst = some gt := by rfl) (g3 : lk T gt = some (.v (.bool gb)) := by rfl) (hxs : evs T (ps.toList.map Prod.snd) = some xs := by rfl) [hl : PL P t pl] [hz : ZC P t zs] (hc : fillA (fun i => pl[i]?) (zs.map .v) ((ps.toList.map Prod.fst).zip xs) = some [c1, c2, c3, c4, c5, c6, c7, c8, c9] := by rfl) (hd : Nat.blt d n = true := by rfl) : AOps P ro ops ({ dst := some d, op := .build t ps, type := ty, pos := po, after := af, guard := some (g, gb) } :: rest) Q ⟨T, H, D, n⟩ := Z0 (wY rfl g1 g2 g3) hd (Z5 rfl hxs hc) h
theorem Zdi [tk : TK P t true 10] {c1 c2 c3 c4 c5 c6 c7 c8 c9 c10 : AV} {pl : List (Nat × Nat)} {zs : List Value} {ps : Array (Nat × Operand)} {xs : List AV} (h : AOps P ro ops rest Q ⟨(d, .agg [c1, c2, c3, c4, c5, c6, c7, c8, c9, c10]) :: T, H, D, n⟩) (hxs : evs T (ps.toList.map Prod.snd) = some xs := by rfl) [hl : PL P t pl] [hz : ZC P t zs] (hc : fillA (fun i => pl[i]?) (zs.map .v) ((ps.toList.map Prod.fst).zip xs) = some [c1, c2, c3, c4, c5, c6, c7, c8, c9, c10] := by rfl) (hd : Nat.blt d n = true := by rfl) : AOps P ro ops ({ dst := some d, op := .build t ps, type := ty, pos := po, after := af, guard := none } :: rest) Q ⟨T, H, D, n⟩ := Z0 (w0 rfl) hd (Z5 rfl hxs hc) h
theorem Zbx [tk : TK P t true 10] {c1 c2 c3 c4 c5 c6 c7 c8 c9 c10 : AV} {pl : List (Nat × Nat)} {zs : List Value} {ps : Array (Nat × Operand)} {xs : List AV} (h : Calm P ops H0 KK (kk + 1) rest M ⟨(d, .agg [c1, c2, c3, c4, c5, c6, c7, c8, c9, c10]) :: T, H, D, n⟩) (hxs : evs T (ps.toList.map Prod.snd) = some xs := by rfl) [hl : PL P t pl] [hz : ZC P t zs] (hc : fillA (fun i => pl[i]?) (zs.map .v) ((ps.toList.map Prod.fst).zip xs) = some [c1, c2, c3, c4, c5, c6, c7, c8, c9, c10] := by rfl) (hd : Nat.blt d n = true := by rfl) : Calm P ops H0 KK kk ({ dst := some d, op := .build t ps, type := ty, pos := po, after := af, guard := none } :: rest) M ⟨T, H, D, n⟩ := Z2 (w0 rfl) hd (Z5 rfl hxs hc) h
theorem Z9u [tk : TK P t true 10] {c1 c2 c3 c4 c5 c6 c7 c8 c9 c10 : AV} {pl : List (Nat × Nat)} {zs : List Value} {ps : Array (Nat × Operand)} {xs : List AV} {g gt : Nat} {gb : Bool} {og : Oper} (h : Calm P ops H0 KK (kk + 1) rest M ⟨(d, .agg [c1, c2, c3, c4, c5, c6, c7, c8, c9, c10]) :: T, H, D, n⟩) (g1 : ops[g]? = some og := by rfl) (g2 : og.dst = some gt := by rfl) (g3 : lk T gt = some (.v (.bool gb)) := by rfl) (hxs : evs T (ps.toList.map Prod.snd) = some xs := by rfl) [hl : PL P t pl] [hz : ZC P t zs] (hc : fillA (fun i => pl[i]?) (zs.map .v) ((ps.toList.map Prod.fst).zip xs) = some [c1, c2, c3, c4, c5, c6, c7, c8, c9, c10] := by rfl) (hd : Nat.blt d n = true := by rfl) : Calm P ops H0 KK kk ({ dst := some d, op := .build t ps, type := ty, pos := po, after := af, guard := some (g, gb) } :: rest) M ⟨T, H, D, n⟩ := Z2 (wY rfl g1 g2 g3) hd (Z5 rfl hxs hc) h
theorem Zco [tk : TK P t true 10] {c1 c2 c3 c4 c5 c6 c7 c8 c9 c10 : AV} {pl : List (Nat × Nat)} {zs : List Value} {ps : Array (Nat × Operand)} {xs : List AV} {g gt : Nat} {gb : Bool} {og : Oper} (h : AOps P ro ops rest Q ⟨(d, .agg [c1, c2, c3, c4, c5, c6, c7, c8, c9, c10]) :: T, H, D, n⟩) (g1 : ops[g]? = some og := by rfl) (g2 : og.dst = some gt := by rfl) (g3 : lk T gt = some (.v (.bool gb)) := by rfl) (hxs : evs T (ps.toList.map Prod.snd) = some xs := by rfl) [hl : PL P t pl] [hz : ZC P t zs] (hc : fillA (fun i => pl[i]?) (zs.map .v) ((ps.toList.map Prod.fst).zip xs) = some [c1, c2, c3, c4, c5, c6, c7, c8, c9, c10] := by rfl) (hd : Nat.blt d n = true := by rfl) : AOps P ro ops ({ dst := some d, op := .build t ps, type := ty, pos := po, after := af, guard := some (g, gb) } :: rest) Q ⟨T, H, D, n⟩ := Z0 (wY rfl g1 g2 g3) hd (Z5 rfl hxs hc) h
theorem zC0 {ats : Array TypeId} {f : Nat} (h : AOps P ro ops rest Q ⟨(d, x) :: T, H, D, n⟩)  [hc : Con P f [] x] (hd : Nat.blt d n = true := by rfl) : AOps P ro ops ({ dst := some d, op := .call { callee := .value (.func f), args := #[], argTypes := ats }, type := ty, pos := po, after := af, guard := none } :: rest) Q ⟨T, H, D, n⟩ := Z0 (w0 rfl) hd (Zc (caps := []) [] rfl rfl Zh hc.c List.nodup_nil) h
theorem Zds {ats : Array TypeId} {f : Nat} (h : Calm P ops H0 KK (kk + 1) rest M ⟨(d, x) :: T, H, D, n⟩)  [hc : Con P f [] x] (hd : Nat.blt d n = true := by rfl) : Calm P ops H0 KK kk ({ dst := some d, op := .call { callee := .value (.func f), args := #[], argTypes := ats }, type := ty, pos := po, after := af, guard := none } :: rest) M ⟨T, H, D, n⟩ := Z2 (w0 rfl) hd (Zc (caps := []) [] rfl rfl Zh hc.c List.nodup_nil) h
theorem Zc8 {ats : Array TypeId} {f : Nat} {g gt : Nat} {gb : Bool} {og : Oper} (h : Calm P ops H0 KK (kk + 1) rest M ⟨(d, x) :: T, H, D, n⟩) (g1 : ops[g]? = some og := by rfl) (g2 : og.dst = some gt := by rfl) (g3 : lk T gt = some (.v (.bool gb)) := by rfl)  [hc : Con P f [] x] (hd : Nat.blt d n = true := by rfl) : Calm P ops H0 KK kk ({ dst := some d, op := .call { callee := .value (.func f), args := #[], argTypes := ats }, type := ty, pos := po, after := af, guard := some (g, gb) } :: rest) M ⟨T, H, D, n⟩ := Z2 (wY rfl g1 g2 g3) hd (Zc (caps := []) [] rfl rfl Zh hc.c List.nodup_nil) h
theorem Zeo {ats : Array TypeId} {f : Nat} {g gt : Nat} {gb : Bool} {og : Oper} (h : AOps P ro ops rest Q ⟨(d, x) :: T, H, D, n⟩) (g1 : ops[g]? = some og := by rfl) (g2 : og.dst = some gt := by rfl) (g3 : lk T gt = some (.v (.bool gb)) := by rfl)  [hc : Con P f [] x] (hd : Nat.blt d n = true := by rfl) : AOps P ro ops ({ dst := some d, op := .call { callee := .value (.func f), args := #[], argTypes := ats }, type := ty, pos := po, after := af, guard := some (g, gb) } :: rest) Q ⟨T, H, D, n⟩ := Z0 (wY rfl g1 g2 g3) hd (Zc (caps := []) [] rfl rfl Zh hc.c List.nodup_nil) h
theorem zC1 {ats : Array TypeId} {f : Nat} {p1 : Operand} {x1 : AV} (h : AOps P ro ops rest Q ⟨(d, x) :: T, H, D, n⟩) (h1 : ev T p1 = some x1 := by rfl) [hc : Con P f [x1] x] (hd : Nat.blt d n = true := by rfl) : AOps P ro ops ({ dst := some d, op := .call { callee := .value (.func f), args := #[p1], argTypes := ats }, type := ty, pos := po, after := af, guard := none } :: rest) Q ⟨T, H, D, n⟩ := Z0 (w0 rfl) hd (Zc (caps := []) [] rfl rfl (Z4 h1 Zh) hc.c List.nodup_nil) h
theorem Zba {ats : Array TypeId} {f : Nat} {p1 : Operand} {x1 : AV} (h : Calm P ops H0 KK (kk + 1) rest M ⟨(d, x) :: T, H, D, n⟩) (h1 : ev T p1 = some x1 := by rfl) [hc : Con P f [x1] x] (hd : Nat.blt d n = true := by rfl) : Calm P ops H0 KK kk ({ dst := some d, op := .call { callee := .value (.func f), args := #[p1], argTypes := ats }, type := ty, pos := po, after := af, guard := none } :: rest) M ⟨T, H, D, n⟩ := Z2 (w0 rfl) hd (Zc (caps := []) [] rfl rfl (Z4 h1 Zh) hc.c List.nodup_nil) h
theorem Zc9 {ats : Array TypeId} {f : Nat} {p1 : Operand} {x1 : AV} {g gt : Nat} {gb : Bool} {og : Oper} (h : Calm P ops H0 KK (kk + 1) rest M ⟨(d, x) :: T, H, D, n⟩) (g1 : ops[g]? = some og := by rfl) (g2 : og.dst = some gt := by rfl) (g3 : lk T gt = some (.v (.bool gb)) := by rfl) (h1 : ev T p1 = some x1 := by rfl) [hc : Con P f [x1] x] (hd : Nat.blt d n = true := by rfl) : Calm P ops H0 KK kk ({ dst := some d, op := .call { callee := .value (.func f), args := #[p1], argTypes := ats }, type := ty, pos := po, after := af, guard := some (g, gb) } :: rest) M ⟨T, H, D, n⟩ := Z2 (wY rfl g1 g2 g3) hd (Zc (caps := []) [] rfl rfl (Z4 h1 Zh) hc.c List.nodup_nil) h
theorem Zep {ats : Array TypeId} {f : Nat} {p1 : Operand} {x1 : AV} {g gt : Nat} {gb : Bool} {og : Oper} (h : AOps P ro ops rest Q ⟨(d, x) :: T, H, D, n⟩) (g1 : ops[g]? = some og := by rfl) (g2 : og.dst = some gt := by rfl) (g3 : lk T gt = some (.v (.bool gb)) := by rfl) (h1 : ev T p1 = some x1 := by rfl) [hc : Con P f [x1] x] (hd : Nat.blt d n = true := by rfl) : AOps P ro ops ({ dst := some d, op := .call { callee := .value (.func f), args := #[p1], argTypes := ats }, type := ty, pos := po, after := af, guard := some (g, gb) } :: rest) Q ⟨T, H, D, n⟩ := Z0 (wY rfl g1 g2 g3) hd (Zc (caps := []) [] rfl rfl (Z4 h1 Zh) hc.c List.nodup_nil) h
theorem zC2 {ats : Array TypeId} {f : Nat} {p1 p2 : Operand} {x1 x2 : AV} (h : AOps P ro ops rest Q ⟨(d, x) :: T, H, D, n⟩) (h1 : ev T p1 = some x1 := by rfl) (h2 : ev T p2 = some x2 := by rfl) [hc : Con P f [x1, x2] x] (hd : Nat.blt d n = true := by rfl) : AOps P ro ops ({ dst := some d, op := .call { callee := .value (.func f), args := #[p1, p2], argTypes := ats }, type := ty, pos := po, after := af, guard := none } :: rest) Q ⟨T, H, D, n⟩ := Z0 (w0 rfl) hd (Zc (caps := []) [] rfl rfl (Z4 h1 (Z4 h2 Zh)) hc.c List.nodup_nil) h
theorem Zdt {ats : Array TypeId} {f : Nat} {p1 p2 : Operand} {x1 x2 : AV} (h : Calm P ops H0 KK (kk + 1) rest M ⟨(d, x) :: T, H, D, n⟩) (h1 : ev T p1 = some x1 := by rfl) (h2 : ev T p2 = some x2 := by rfl) [hc : Con P f [x1, x2] x] (hd : Nat.blt d n = true := by rfl) : Calm P ops H0 KK kk ({ dst := some d, op := .call { callee := .value (.func f), args := #[p1, p2], argTypes := ats }, type := ty, pos := po, after := af, guard := none } :: rest) M ⟨T, H, D, n⟩ := Z2 (w0 rfl) hd (Zc (caps := []) [] rfl rfl (Z4 h1 (Z4 h2 Zh)) hc.c List.nodup_nil) h
theorem Zca {ats : Array TypeId} {f : Nat} {p1 p2 : Operand} {x1 x2 : AV} {g gt : Nat} {gb : Bool} {og : Oper} (h : Calm P ops H0 KK (kk + 1) rest M ⟨(d, x) :: T, H, D, n⟩) (g1 : ops[g]? = some og := by rfl) (g2 : og.dst = some gt := by rfl) (g3 : lk T gt = some (.v (.bool gb)) := by rfl) (h1 : ev T p1 = some x1 := by rfl) (h2 : ev T p2 = some x2 := by rfl) [hc : Con P f [x1, x2] x] (hd : Nat.blt d n = true := by rfl) : Calm P ops H0 KK kk ({ dst := some d, op := .call { callee := .value (.func f), args := #[p1, p2], argTypes := ats }, type := ty, pos := po, after := af, guard := some (g, gb) } :: rest) M ⟨T, H, D, n⟩ := Z2 (wY rfl g1 g2 g3) hd (Zc (caps := []) [] rfl rfl (Z4 h1 (Z4 h2 Zh)) hc.c List.nodup_nil) h
theorem Zeq {ats : Array TypeId} {f : Nat} {p1 p2 : Operand} {x1 x2 : AV} {g gt : Nat} {gb : Bool} {og : Oper} (h : AOps P ro ops rest Q ⟨(d, x) :: T, H, D, n⟩) (g1 : ops[g]? = some og := by rfl) (g2 : og.dst = some gt := by rfl) (g3 : lk T gt = some (.v (.bool gb)) := by rfl) (h1 : ev T p1 = some x1 := by rfl) (h2 : ev T p2 = some x2 := by rfl) [hc : Con P f [x1, x2] x] (hd : Nat.blt d n = true := by rfl) : AOps P ro ops ({ dst := some d, op := .call { callee := .value (.func f), args := #[p1, p2], argTypes := ats }, type := ty, pos := po, after := af, guard := some (g, gb) } :: rest) Q ⟨T, H, D, n⟩ := Z0 (wY rfl g1 g2 g3) hd (Zc (caps := []) [] rfl rfl (Z4 h1 (Z4 h2 Zh)) hc.c List.nodup_nil) h
theorem zC3 {ats : Array TypeId} {f : Nat} {p1 p2 p3 : Operand} {x1 x2 x3 : AV} (h : AOps P ro ops rest Q ⟨(d, x) :: T, H, D, n⟩) (h1 : ev T p1 = some x1 := by rfl) (h2 : ev T p2 = some x2 := by rfl) (h3 : ev T p3 = some x3 := by rfl) [hc : Con P f [x1, x2, x3] x] (hd : Nat.blt d n = true := by rfl) : AOps P ro ops ({ dst := some d, op := .call { callee := .value (.func f), args := #[p1, p2, p3], argTypes := ats }, type := ty, pos := po, after := af, guard := none } :: rest) Q ⟨T, H, D, n⟩ := Z0 (w0 rfl) hd (Zc (caps := []) [] rfl rfl (Z4 h1 (Z4 h2 (Z4 h3 Zh))) hc.c List.nodup_nil) h
theorem Zdu {ats : Array TypeId} {f : Nat} {p1 p2 p3 : Operand} {x1 x2 x3 : AV} (h : Calm P ops H0 KK (kk + 1) rest M ⟨(d, x) :: T, H, D, n⟩) (h1 : ev T p1 = some x1 := by rfl) (h2 : ev T p2 = some x2 := by rfl) (h3 : ev T p3 = some x3 := by rfl) [hc : Con P f [x1, x2, x3] x] (hd : Nat.blt d n = true := by rfl) : Calm P ops H0 KK kk ({ dst := some d, op := .call { callee := .value (.func f), args := #[p1, p2, p3], argTypes := ats }, type := ty, pos := po, after := af, guard := none } :: rest) M ⟨T, H, D, n⟩ := Z2 (w0 rfl) hd (Zc (caps := []) [] rfl rfl (Z4 h1 (Z4 h2 (Z4 h3 Zh))) hc.c List.nodup_nil) h
theorem Zcb {ats : Array TypeId} {f : Nat} {p1 p2 p3 : Operand} {x1 x2 x3 : AV} {g gt : Nat} {gb : Bool} {og : Oper} (h : Calm P ops H0 KK (kk + 1) rest M ⟨(d, x) :: T, H, D, n⟩) (g1 : ops[g]? = some og := by rfl) (g2 : og.dst = some gt := by rfl) (g3 : lk T gt = some (.v (.bool gb)) := by rfl) (h1 : ev T p1 = some x1 := by rfl) (h2 : ev T p2 = some x2 := by rfl) (h3 : ev T p3 = some x3 := by rfl) [hc : Con P f [x1, x2, x3] x] (hd : Nat.blt d n = true := by rfl) : Calm P ops H0 KK kk ({ dst := some d, op := .call { callee := .value (.func f), args := #[p1, p2, p3], argTypes := ats }, type := ty, pos := po, after := af, guard := some (g, gb) } :: rest) M ⟨T, H, D, n⟩ := Z2 (wY rfl g1 g2 g3) hd (Zc (caps := []) [] rfl rfl (Z4 h1 (Z4 h2 (Z4 h3 Zh))) hc.c List.nodup_nil) h
theorem Zer {ats : Array TypeId} {f : Nat} {p1 p2 p3 : Operand} {x1 x2 x3 : AV} {g gt : Nat} {gb : Bool} {og : Oper} (h : AOps P ro ops rest Q ⟨(d, x) :: T, H, D, n⟩) (g1 : ops[g]? = some og := by rfl) (g2 : og.dst = some gt := by rfl) (g3 : lk T gt = some (.v (.bool gb)) := by rfl) (h1 : ev T p1 = some x1 := by rfl) (h2 : ev T p2 = some x2 := by rfl) (h3 : ev T p3 = some x3 := by rfl) [hc : Con P f [x1, x2, x3] x] (hd : Nat.blt d n = true := by rfl) : AOps P ro ops ({ dst := some d, op := .call { callee := .value (.func f), args := #[p1, p2, p3], argTypes := ats }, type := ty, pos := po, after := af, guard := some (g, gb) } :: rest) Q ⟨T, H, D, n⟩ := Z0 (wY rfl g1 g2 g3) hd (Zc (caps := []) [] rfl rfl (Z4 h1 (Z4 h2 (Z4 h3 Zh))) hc.c List.nodup_nil) h
theorem zC4 {ats : Array TypeId} {f : Nat} {p1 p2 p3 p4 : Operand} {x1 x2 x3 x4 : AV} (h : AOps P ro ops rest Q ⟨(d, x) :: T, H, D, n⟩) (h1 : ev T p1 = some x1 := by rfl) (h2 : ev T p2 = some x2 := by rfl) (h3 : ev T p3 = some x3 := by rfl) (h4 : ev T p4 = some x4 := by rfl) [hc : Con P f [x1, x2, x3, x4] x] (hd : Nat.blt d n = true := by rfl) : AOps P ro ops ({ dst := some d, op := .call { callee := .value (.func f), args := #[p1, p2, p3, p4], argTypes := ats }, type := ty, pos := po, after := af, guard := none } :: rest) Q ⟨T, H, D, n⟩ := Z0 (w0 rfl) hd (Zc (caps := []) [] rfl rfl (Z4 h1 (Z4 h2 (Z4 h3 (Z4 h4 Zh)))) hc.c List.nodup_nil) h
theorem Zdv {ats : Array TypeId} {f : Nat} {p1 p2 p3 p4 : Operand} {x1 x2 x3 x4 : AV} (h : Calm P ops H0 KK (kk + 1) rest M ⟨(d, x) :: T, H, D, n⟩) (h1 : ev T p1 = some x1 := by rfl) (h2 : ev T p2 = some x2 := by rfl) (h3 : ev T p3 = some x3 := by rfl) (h4 : ev T p4 = some x4 := by rfl) [hc : Con P f [x1, x2, x3, x4] x] (hd : Nat.blt d n = true := by rfl) : Calm P ops H0 KK kk ({ dst := some d, op := .call { callee := .value (.func f), args := #[p1, p2, p3, p4], argTypes := ats }, type := ty, pos := po, after := af, guard := none } :: rest) M ⟨T, H, D, n⟩ := Z2 (w0 rfl) hd (Zc (caps := []) [] rfl rfl (Z4 h1 (Z4 h2 (Z4 h3 (Z4 h4 Zh)))) hc.c List.nodup_nil) h
theorem Zcc {ats : Array TypeId} {f : Nat} {p1 p2 p3 p4 : Operand} {x1 x2 x3 x4 : AV} {g gt : Nat} {gb : Bool} {og : Oper} (h : Calm P ops H0 KK (kk + 1) rest M ⟨(d, x) :: T, H, D, n⟩) (g1 : ops[g]? = some og := by rfl) (g2 : og.dst = some gt := by rfl) (g3 : lk T gt = some (.v (.bool gb)) := by rfl) (h1 : ev T p1 = some x1 := by rfl) (h2 : ev T p2 = some x2 := by rfl) (h3 : ev T p3 = some x3 := by rfl) (h4 : ev T p4 = some x4 := by rfl) [hc : Con P f [x1, x2, x3, x4] x] (hd : Nat.blt d n = true := by rfl) : Calm P ops H0 KK kk ({ dst := some d, op := .call { callee := .value (.func f), args := #[p1, p2, p3, p4], argTypes := ats }, type := ty, pos := po, after := af, guard := some (g, gb) } :: rest) M ⟨T, H, D, n⟩ := Z2 (wY rfl g1 g2 g3) hd (Zc (caps := []) [] rfl rfl (Z4 h1 (Z4 h2 (Z4 h3 (Z4 h4 Zh)))) hc.c List.nodup_nil) h
theorem Zes {ats : Array TypeId} {f : Nat} {p1 p2 p3 p4 : Operand} {x1 x2 x3 x4 : AV} {g gt : Nat} {gb : Bool} {og : Oper} (h : AOps P ro ops rest Q ⟨(d, x) :: T, H, D, n⟩) (g1 : ops[g]? = some og := by rfl) (g2 : og.dst = some gt := by rfl) (g3 : lk T gt = some (.v (.bool gb)) := by rfl) (h1 : ev T p1 = some x1 := by rfl) (h2 : ev T p2 = some x2 := by rfl) (h3 : ev T p3 = some x3 := by rfl) (h4 : ev T p4 = some x4 := by rfl) [hc : Con P f [x1, x2, x3, x4] x] (hd : Nat.blt d n = true := by rfl) : AOps P ro ops ({ dst := some d, op := .call { callee := .value (.func f), args := #[p1, p2, p3, p4], argTypes := ats }, type := ty, pos := po, after := af, guard := some (g, gb) } :: rest) Q ⟨T, H, D, n⟩ := Z0 (wY rfl g1 g2 g3) hd (Zc (caps := []) [] rfl rfl (Z4 h1 (Z4 h2 (Z4 h3 (Z4 h4 Zh)))) hc.c List.nodup_nil) h
theorem zD {g gt : Nat} {gb : Bool} {og : Oper} {op : Op} (h : AOps P ro ops rest Q ⟨(d, .v undef) :: T, H, D, n⟩) (g1 : ops[g]? = some og := by rfl) (g2 : og.dst = some gt := by rfl) (g3 : lk T gt = some (.v (.bool (!gb))) := by rfl) (hd : Nat.blt d n = true := by rfl) : AOps P ro ops ({ dst := some d, op := op, type := ty, pos := po, after := af, guard := some (g, gb) } :: rest) Q ⟨T, H, D, n⟩ := Zcs (x := .v undef) (wZ rfl g1 g2 g3) hd nofun h
theorem Zb8 {m : Nat} {b : Bool} {l : List AV} (h : ∀ id, AOps P ro ops rest Q ⟨(d, .ptr id m 0 0) :: T, (id, .rows t m [l]) :: H, D, n⟩) (hp : ev T p = some x := by rfl) [k : TK P t b m] (hl : cellsA x = l := by rfl) (hn : l.length = m := by rfl) (h1 : l.all one = true := by rfl) (hd : Nat.blt d n = true := by rfl) : AOps P ro ops ({ dst := some d, op := .box t p, type := ty, pos := po, after := af, guard := none } :: rest) Q ⟨T, H, D, n⟩ := Z0f (w0 rfl) hd (fun id => Z18 id rfl hp hl hn h1) h
theorem Zf7 {b : Bool} [kt : TK P t b 1] {zs : List Value} [z : ZC P t zs] {c1 : AV} (h : ∀ id, AOps P ro ops rest Q ⟨(d, .ptr id 1 0 0) :: T, (id, .rows t 1 [[c1]]) :: H, D, n⟩) (hl : zs.map AV.v = [c1] := by rfl) (hn : zs.length = 1 := by rfl) (h1 : (zs.map AV.v).all one = true := by rfl) (hd : Nat.blt d n = true := by rfl) : AOps P ro ops ({ dst := some d, op := .alloc t, type := ty, pos := po, after := af, guard := none } :: rest) Q ⟨T, H, D, n⟩ := Z0f (w0 rfl) hd (fun id => Zl id rfl hn h1) (by rw [hl]; exact h)
theorem Zbv {b : Bool} [kt : TK P t b 2] {zs : List Value} [z : ZC P t zs] {c1 c2 : AV} (h : ∀ id, AOps P ro ops rest Q ⟨(d, .ptr id 2 0 0) :: T, (id, .rows t 2 [[c1, c2]]) :: H, D, n⟩) (hl : zs.map AV.v = [c1, c2] := by rfl) (hn : zs.length = 2 := by rfl) (h1 : (zs.map AV.v).all one = true := by rfl) (hd : Nat.blt d n = true := by rfl) : AOps P ro ops ({ dst := some d, op := .alloc t, type := ty, pos := po, after := af, guard := none } :: rest) Q ⟨T, H, D, n⟩ := Z0f (w0 rfl) hd (fun id => Zl id rfl hn h1) (by rw [hl]; exact h)
theorem Zf8 {b : Bool} [kt : TK P t b 3] {zs : List Value} [z : ZC P t zs] {c1 c2 c3 : AV} (h : ∀ id, AOps P ro ops rest Q ⟨(d, .ptr id 3 0 0) :: T, (id, .rows t 3 [[c1, c2, c3]]) :: H, D, n⟩) (hl : zs.map AV.v = [c1, c2, c3] := by rfl) (hn : zs.length = 3 := by rfl) (h1 : (zs.map AV.v).all one = true := by rfl) (hd : Nat.blt d n = true := by rfl) : AOps P ro ops ({ dst := some d, op := .alloc t, type := ty, pos := po, after := af, guard := none } :: rest) Q ⟨T, H, D, n⟩ := Z0f (w0 rfl) hd (fun id => Zl id rfl hn h1) (by rw [hl]; exact h)
theorem Zf9 {b : Bool} [kt : TK P t b 4] {zs : List Value} [z : ZC P t zs] {c1 c2 c3 c4 : AV} (h : ∀ id, AOps P ro ops rest Q ⟨(d, .ptr id 4 0 0) :: T, (id, .rows t 4 [[c1, c2, c3, c4]]) :: H, D, n⟩) (hl : zs.map AV.v = [c1, c2, c3, c4] := by rfl) (hn : zs.length = 4 := by rfl) (h1 : (zs.map AV.v).all one = true := by rfl) (hd : Nat.blt d n = true := by rfl) : AOps P ro ops ({ dst := some d, op := .alloc t, type := ty, pos := po, after := af, guard := none } :: rest) Q ⟨T, H, D, n⟩ := Z0f (w0 rfl) hd (fun id => Zl id rfl hn h1) (by rw [hl]; exact h)
theorem Zfa {b : Bool} [kt : TK P t b 5] {zs : List Value} [z : ZC P t zs] {c1 c2 c3 c4 c5 : AV} (h : ∀ id, AOps P ro ops rest Q ⟨(d, .ptr id 5 0 0) :: T, (id, .rows t 5 [[c1, c2, c3, c4, c5]]) :: H, D, n⟩) (hl : zs.map AV.v = [c1, c2, c3, c4, c5] := by rfl) (hn : zs.length = 5 := by rfl) (h1 : (zs.map AV.v).all one = true := by rfl) (hd : Nat.blt d n = true := by rfl) : AOps P ro ops ({ dst := some d, op := .alloc t, type := ty, pos := po, after := af, guard := none } :: rest) Q ⟨T, H, D, n⟩ := Z0f (w0 rfl) hd (fun id => Zl id rfl hn h1) (by rw [hl]; exact h)
theorem Zfb {b : Bool} [kt : TK P t b 7] {zs : List Value} [z : ZC P t zs] {c1 c2 c3 c4 c5 c6 c7 : AV} (h : ∀ id, AOps P ro ops rest Q ⟨(d, .ptr id 7 0 0) :: T, (id, .rows t 7 [[c1, c2, c3, c4, c5, c6, c7]]) :: H, D, n⟩) (hl : zs.map AV.v = [c1, c2, c3, c4, c5, c6, c7] := by rfl) (hn : zs.length = 7 := by rfl) (h1 : (zs.map AV.v).all one = true := by rfl) (hd : Nat.blt d n = true := by rfl) : AOps P ro ops ({ dst := some d, op := .alloc t, type := ty, pos := po, after := af, guard := none } :: rest) Q ⟨T, H, D, n⟩ := Z0f (w0 rfl) hd (fun id => Zl id rfl hn h1) (by rw [hl]; exact h)
theorem Zfc {b : Bool} [kt : TK P t b 9] {zs : List Value} [z : ZC P t zs] {c1 c2 c3 c4 c5 c6 c7 c8 c9 : AV} (h : ∀ id, AOps P ro ops rest Q ⟨(d, .ptr id 9 0 0) :: T, (id, .rows t 9 [[c1, c2, c3, c4, c5, c6, c7, c8, c9]]) :: H, D, n⟩) (hl : zs.map AV.v = [c1, c2, c3, c4, c5, c6, c7, c8, c9] := by rfl) (hn : zs.length = 9 := by rfl) (h1 : (zs.map AV.v).all one = true := by rfl) (hd : Nat.blt d n = true := by rfl) : AOps P ro ops ({ dst := some d, op := .alloc t, type := ty, pos := po, after := af, guard := none } :: rest) Q ⟨T, H, D, n⟩ := Z0f (w0 rfl) hd (fun id => Zl id rfl hn h1) (by rw [hl]; exact h)
theorem Zd6 {b : Bool} [kt : TK P t b 10] {zs : List Value} [z : ZC P t zs] {c1 c2 c3 c4 c5 c6 c7 c8 c9 c10 : AV} (h : ∀ id, AOps P ro ops rest Q ⟨(d, .ptr id 10 0 0) :: T, (id, .rows t 10 [[c1, c2, c3, c4, c5, c6, c7, c8, c9, c10]]) :: H, D, n⟩) (hl : zs.map AV.v = [c1, c2, c3, c4, c5, c6, c7, c8, c9, c10] := by rfl) (hn : zs.length = 10 := by rfl) (h1 : (zs.map AV.v).all one = true := by rfl) (hd : Nat.blt d n = true := by rfl) : AOps P ro ops ({ dst := some d, op := .alloc t, type := ty, pos := po, after := af, guard := none } :: rest) Q ⟨T, H, D, n⟩ := Z0f (w0 rfl) hd (fun id => Zl id rfl hn h1) (by rw [hl]; exact h)
theorem zLd {id sz i c el : Nat} {es : List (List AV)} {ee : List AV} (j : Nat) (h : AOps P ro ops rest Q ⟨(d, x) :: T, H, D, n⟩) (hp : ev T p = some (.ptr id sz i c) := by rfl) (hH : H[j]? = some (id, .rows el sz es) := by rfl) (he : es[i]? = some ee := by rfl) (hl : Ld P t (ee.drop c) x := by first | exact Z3v | exact Z1t | exact Zam | exact Zan | exact Zao | exact Zap) (hd : Nat.blt d n = true := by rfl) : AOps P ro ops ({ dst := some d, op := .load t p, type := ty, pos := po, after := af, guard := none } :: rest) Q ⟨T, H, D, n⟩ := Zn j (w0 rfl) hd rfl hp hH he hl h
theorem Z84 {id sz i c el g gt : Nat} {gb : Bool} {og : Oper} {es : List (List AV)} {ee : List AV} (j : Nat) (h : AOps P ro ops rest Q ⟨(d, x) :: T, H, D, n⟩) (g1 : ops[g]? = some og := by rfl) (g2 : og.dst = some gt := by rfl) (g3 : lk T gt = some (.v (.bool gb)) := by rfl) (hp : ev T p = some (.ptr id sz i c) := by rfl) (hH : H[j]? = some (id, .rows el sz es) := by rfl) (he : es[i]? = some ee := by rfl) (hl : Ld P t (ee.drop c) x := by first | exact Z3v | exact Z1t | exact Zam | exact Zan | exact Zao | exact Zap) (hd : Nat.blt d n = true := by rfl) : AOps P ro ops ({ dst := some d, op := .load t p, type := ty, pos := po, after := af, guard := some (g, gb) } :: rest) Q ⟨T, H, D, n⟩ := Zn j (wY rfl g1 g2 g3) hd rfl hp hH he hl h
theorem zSt {m id sz i c el : Nat} {b : Bool} {es : List (List AV)} {ee : List AV} {H' : AHeap} (j : Nat) [kt : TK P t b m] (h : AOps P ro ops rest Q ⟨T, H', D, n⟩) (hp : ev T p = some (.ptr id sz i c) := by rfl) (hH : H[j]? = some (id, .rows el sz es) := by rfl) (he : es[i]? = some ee := by rfl) (hq : ev T q = some x := by rfl) (hx : (cellsA x).length = m := by rfl) (h1 : (cellsA x).all one = true := by rfl) (hc : Nat.ble (c + m) sz = true := by rfl) (hh : H.set j (id, .rows el sz (es.set i (ee.take c ++ cellsA x ++ ee.drop (c + (cellsA x).length)))) = H' := by rfl) : AOps P ro ops ({ dst := none, op := .store t p q, type := ty, pos := po, after := af, guard := none } :: rest) Q ⟨T, H, D, n⟩ := by subst hh; exact Z1e j (w0 rfl) rfl rfl hp hH he hq hx h1 hc h
theorem Z2t {id sz i c el : Nat} {es : List (List AV)} {ee : List AV} (j : Nat) (h : Calm P ops H0 KK (kk + 1) rest M ⟨(d, x) :: T, H, D, n⟩) (hp : ev T p = some (.ptr id sz i c) := by rfl) (hH : H0[j]? = some (id, .rows el sz es) := by rfl) (he : es[i]? = some ee := by rfl) (hl : Ld P t (ee.drop c) x := by first | exact Z3v | exact Z1t | exact Zam | exact Zan | exact Zao | exact Zap) (hd : Nat.blt d n = true := by rfl) : Calm P ops H0 KK kk ({ dst := some d, op := .load t p, type := ty, pos := po, after := af, guard := none } :: rest) M ⟨T, H, D, n⟩ := Z23 j (w0 rfl) hd rfl hp hH he hl h
theorem Z2y {id sz i c el g gt : Nat} {gb : Bool} {og : Oper} {es : List (List AV)} {ee : List AV} (j : Nat) (h : Calm P ops H0 KK (kk + 1) rest M ⟨(d, x) :: T, H, D, n⟩) (g1 : ops[g]? = some og := by rfl) (g2 : og.dst = some gt := by rfl) (g3 : lk T gt = some (.v (.bool gb)) := by rfl) (hp : ev T p = some (.ptr id sz i c) := by rfl) (hH : H0[j]? = some (id, .rows el sz es) := by rfl) (he : es[i]? = some ee := by rfl) (hl : Ld P t (ee.drop c) x := by first | exact Z3v | exact Z1t | exact Zam | exact Zan | exact Zao | exact Zap) (hd : Nat.blt d n = true := by rfl) : Calm P ops H0 KK kk ({ dst := some d, op := .load t p, type := ty, pos := po, after := af, guard := some (g, gb) } :: rest) M ⟨T, H, D, n⟩ := Z23 j (wY rfl g1 g2 g3) hd rfl hp hH he hl h
theorem Zbb (h : KK ⟨T, H, D, n⟩) : Calm P ops H0 KK kk [] M ⟨T, H, D, n⟩ := .done h
theorem zcD {g gt : Nat} {gb : Bool} {og : Oper} {op : Op} (h : Calm P ops H0 KK (kk + 1) rest M ⟨(d, .v undef) :: T, H, D, n⟩) (g1 : ops[g]? = some og := by rfl) (g2 : og.dst = some gt := by rfl) (g3 : lk T gt = some (.v (.bool (!gb))) := by rfl) (hd : Nat.blt d n = true := by rfl) : Calm P ops H0 KK kk ({ dst := some d, op := op, type := ty, pos := po, after := af, guard := some (g, gb) } :: rest) M ⟨T, H, D, n⟩ := .off (wZ rfl g1 g2 g3) hd h
theorem Zbw {id : Nat} {l : List Oper} (h : Calm P l.toArray H (AOps P ro l.toArray [] Q) 0 l [] ⟨T, H, D, n⟩) (hm : P.follows .mixedOrders = true := by rfl) (ht : tidyM l.toArray (masksOf l) l.length = true := by kernel_rfl) : AWp P ro (.region id l.toArray true) Q ⟨T, H, D, n⟩ := Z89 (masksOf l) l.length hm (by rw [List.take_length]; exact ht) (by rw [List.take_length, List.drop_length]; exact h)
theorem zN (h : Q .normal ⟨T, H, D, n⟩) : AOps P ro ops [] Q ⟨T, H, D, n⟩ := Z03 h
variable {s : St}
theorem tqR {K : St → Prop} (h : Q .ret s) : thenQ K Q .ret s := h
theorem bqR {i : Nat} (h : Q .ret s) : blockQ i Q .ret s := h
theorem tqN {K : St → Prop} (h : K s) : thenQ K Q .normal s := h
theorem bqN {i : Nat} (h : Q .normal s) : blockQ i Q .normal s := h
theorem tqX {K : St → Prop} {i : Nat} (h : Q (.exit i) s) : thenQ K Q (.exit i) s := h
theorem bqX {i : Nat} (h : Q .normal s) : blockQ i Q (.exit i) s := by simp only [blockQ, if_true]; exact h
theorem qcT {c : Operand} {x y : Code} (h : AWp P ro x Q s) (hc : ev s.T c = some (.v (.bool true)) := by rfl) : AWp P ro (.cond c x y) Q s := Z0w hc (fun _ => h) nofun
theorem qcF {c : Operand} {x y : Code} (h : AWp P ro y Q s) (hc : ev s.T c = some (.v (.bool false)) := by rfl) : AWp P ro (.cond c x y) Q s := Z0w hc nofun (fun _ => h)
theorem Zdf (h : Q .ret s) : AWp P ro .ret Q s := Z4q h
theorem st0 {c : Code} (h : AWp P ro c Q ⟨[], H, D, n⟩) : AWp P ro c Q ⟨enum [] 0, H, D, n⟩ := h
theorem st1 {x0 : AV} {c : Code} (h : AWp P ro c Q ⟨[(0, x0)], H, D, n⟩) : AWp P ro c Q ⟨enum [x0] 0, H, D, n⟩ := h
theorem st2 {x0 x1 : AV} {c : Code} (h : AWp P ro c Q ⟨[(0, x0), (1, x1)], H, D, n⟩) : AWp P ro c Q ⟨enum [x0, x1] 0, H, D, n⟩ := h
theorem st3 {x0 x1 x2 : AV} {c : Code} (h : AWp P ro c Q ⟨[(0, x0), (1, x1), (2, x2)], H, D, n⟩) : AWp P ro c Q ⟨enum [x0, x1, x2] 0, H, D, n⟩ := h
theorem st4 {x0 x1 x2 x3 : AV} {c : Code} (h : AWp P ro c Q ⟨[(0, x0), (1, x1), (2, x2), (3, x3)], H, D, n⟩) : AWp P ro c Q ⟨enum [x0, x1, x2, x3] 0, H, D, n⟩ := h
theorem st5 {x0 x1 x2 x3 x4 : AV} {c : Code} (h : AWp P ro c Q ⟨[(0, x0), (1, x1), (2, x2), (3, x3), (4, x4)], H, D, n⟩) : AWp P ro c Q ⟨enum [x0, x1, x2, x3, x4] 0, H, D, n⟩ := h
theorem st6 {x0 x1 x2 x3 x4 x5 : AV} {c : Code} (h : AWp P ro c Q ⟨[(0, x0), (1, x1), (2, x2), (3, x3), (4, x4), (5, x5)], H, D, n⟩) : AWp P ro c Q ⟨enum [x0, x1, x2, x3, x4, x5] 0, H, D, n⟩ := h
end
theorem Zs {P : Program} {f : Nat} {fn : Func} {c : Code} {n : Nat} {xs : List AV} {x : AV} (hf : P.funcs[f]? = some fn) (hb : fn.body = some c := by rfl) (hnm : (fn.name == "runtime.NumGoroutine") = false := by decide +kernel) (hnt : fn.ntmps = n := by rfl) (hn0 : Nat.ble xs.length n = true := by rfl)
 (h : AWp P none c (RetQ P fn (Gives x)) ⟨enum xs 0, [], [], n⟩ := by
  first | refine st0 ?_ | refine st1 ?_ | refine st2 ?_ | refine st3 ?_ | refine st4 ?_ | refine st5 ?_ | refine st6 ?_
  repeat (first | refine qS ?_ | refine qR ?_ | refine zN ?_ | refine tqN ?_ | refine tqR ?_ | refine bqN ?_ | refine bqR ?_ | refine tqX ?_ | refine bqX ?_ | refine qB ?_ | refine qK ?_ | refine qcT ?_ | refine qcF ?_ | refine Zdf ?_ | refine qX ?_ | refine zM ?_ | refine zA ?_ | refine zI ?_ | refine zX ?_ | refine zF ?_ | refine zB1 ?_ | refine zB2 ?_ | refine zB3 ?_ | refine zB4 ?_ | refine zB5 ?_ | refine zB7 ?_ | refine zB9 ?_ | refine Zdi ?_ | refine zPT ?_ | refine zPF ?_ | refine zK ?_ | refine zJ ?_ | refine zP ?_ | refine zL ?_ | refine zNt ?_ | refine zUt ?_ | refine zUf ?_ | refine zU ?_ | refine zNc ?_ | refine zLn ?_ | refine Zdl ?_ | refine Zdk ?_ | refine zEq ?_ | refine zNe ?_ | refine Zdj ?_ | refine zCv ?_ | refine zSx ?_ | refine zC0 ?_ | refine zC1 ?_ | refine zC2 ?_ | refine zC3 ?_ | refine zC4 ?_ | refine Zb8 (fun _ => ?_) | refine Zf7 (fun _ => ?_) | refine Zbv (fun _ => ?_) | refine Zf8 (fun _ => ?_) | refine Zf9 (fun _ => ?_) | refine Zfa (fun _ => ?_) | refine Zfb (fun _ => ?_) | refine Zfc (fun _ => ?_) | refine Zd6 (fun _ => ?_) | refine zLd 0 ?_ | refine zLd 1 ?_ | refine zLd 2 ?_ | refine zLd 3 ?_ | refine zSt 0 ?_ | refine zSt 1 ?_ | refine zSt 2 ?_ | refine zSt 3 ?_ | refine zD ?_ | refine zgM ?_ | refine zgA ?_ | refine zgI ?_ | refine zgX ?_ | refine zgF ?_ | refine Zeh ?_ | refine Zei ?_ | refine Zej ?_ | refine Zek ?_ | refine Zel ?_ | refine Zem ?_ | refine Zen ?_ | refine Zco ?_ | refine Zf0 ?_ | refine Zez ?_ | refine zgK ?_ | refine zgJ ?_ | refine zgP ?_ | refine zgL ?_ | refine Zey ?_ | refine Zf3 ?_ | refine Zf2 ?_ | refine zgU ?_ | refine Zew ?_ | refine Zev ?_ | refine Zcr ?_ | refine Zcq ?_ | refine Zeu ?_ | refine Zex ?_ | refine Zcp ?_ | refine Zet ?_ | refine Zf1 ?_ | refine Zeo ?_ | refine Zep ?_ | refine Zeq ?_ | refine Zer ?_ | refine Zes ?_ | refine Z84 0 ?_ | refine Z84 1 ?_ | refine Z84 2 ?_ | refine Z84 3 ?_ | refine Zbw ?_ | refine zcM ?_ | refine zcA ?_ | refine zcI ?_ | refine zcX ?_ | refine zcF ?_ | refine Zdm ?_ | refine Zdn ?_ | refine Zdo ?_ | refine Zdp ?_ | refine Zb9 ?_ | refine Zdq ?_ | refine Zdr ?_ | refine Zbx ?_ | refine Ze3 ?_ | refine Ze2 ?_ | refine zcK ?_ | refine zcJ ?_ | refine zcP ?_ | refine zcL ?_ | refine Ze1 ?_ | refine Ze6 ?_ | refine Ze5 ?_ | refine zcU ?_ | refine Zdz ?_ | refine Zdy ?_ | refine Zc0 ?_ | refine Zbz ?_ | refine Zdx ?_ | refine Ze0 ?_ | refine Zby ?_ | refine Zdw ?_ | refine Ze4 ?_ | refine Zds ?_ | refine Zba ?_ | refine Zdt ?_ | refine Zdu ?_ | refine Zdv ?_ | refine Zed ?_ | refine Ze7 ?_ | refine Ze9 ?_ | refine Zeg ?_ | refine Ze8 ?_ | refine Zc1 ?_ | refine Zc2 ?_ | refine Zc3 ?_ | refine Zc4 ?_ | refine Zc5 ?_ | refine Zc6 ?_ | refine Zc7 ?_ | refine Z9u ?_ | refine Zck ?_ | refine Zcj ?_ | refine Zeb ?_ | refine Zea ?_ | refine Zee ?_ | refine Zec ?_ | refine Zci ?_ | refine Zcn ?_ | refine Zcm ?_ | refine Zef ?_ | refine Zcg ?_ | refine Zcf ?_ | refine Z9x ?_ | refine Z9w ?_ | refine Zce ?_ | refine Zch ?_ | refine Z9v ?_ | refine Zcd ?_ | refine Zcl ?_ | refine Zc8 ?_ | refine Zc9 ?_ | refine Zca ?_ | refine Zcb ?_ | refine Zcc ?_ | refine Z2t 0 ?_ | refine Z2t 1 ?_ | refine Z2t 2 ?_ | refine Z2t 3 ?_ | refine Z2y 0 ?_ | refine Z2y 1 ?_ | refine Z2y 2 ?_ | refine Z2y 3 ?_ | refine Zbb ?_ | refine zcD ?_ | refine Z4d 70 ?_ | refine zRd ?_)
  first | exact Z60 rfl (Z8 rfl Za) (gvr rfl) | exact Z60 rfl (Z8 rfl (Z8 rfl Za)) (gvr rfl) | exact Z60 rfl (Z07 0 rfl rfl rfl Z1t Za) (gvr rfl) | exact Z60 rfl (Z07 0 rfl rfl rfl Z1t (Z8 rfl Za)) (gvr rfl) | exact Z60 rfl (Z07 1 rfl rfl rfl Z1t (Z8 rfl Za)) (gvr rfl) | exact Z60 rfl (Z8 rfl Za) (gvr (by simp [mkRes, ceqs, ceq, veq]))) : Con P f xs x := ⟨Zf hf hb hnm hnt hn0 h⟩
theorem Z8h {P : Program} {f : Nat} {fn : Func} {c : Code} {n : Nat} {xs : List AV} {x : AV} (hf : P.funcs[f]? = some fn) (hb : fn.body = some c := by rfl) (hnm : (fn.name == "runtime.NumGoroutine") = false := by decide +kernel) (hnt : fn.ntmps = n := by rfl) (hn0 : Nat.ble xs.length n = true := by rfl)
 (h : AWp P none c (RetQ P fn (Gives x)) ⟨enum xs 0, [], [], n⟩ := by
  first | refine st0 ?_ | refine st1 ?_ | refine st2 ?_ | refine st3 ?_ | refine st4 ?_ | refine st5 ?_ | refine st6 ?_
  repeat' (first | refine qS ?_ | refine qR ?_ | refine zN ?_ | refine tqN ?_ | refine tqR ?_ | refine bqN ?_ | refine bqR ?_ | refine tqX ?_ | refine bqX ?_ | refine qB ?_ | refine qK ?_ | refine qcT ?_ | refine qcF ?_ | refine Zdf ?_ | refine qX ?_ | refine zM ?_ | refine zA ?_ | refine zI ?_ | refine zX ?_ | refine zF ?_ | refine zB1 ?_ | refine zB2 ?_ | refine zB3 ?_ | refine zB4 ?_ | refine zB5 ?_ | refine zB7 ?_ | refine zB9 ?_ | refine Zdi ?_ | refine zPT ?_ | refine zPF ?_ | refine zK ?_ | refine zJ ?_ | refine zP ?_ | refine zL ?_ | refine zNt ?_ | refine zUt ?_ | refine zUf ?_ | refine zU ?_ | refine zNc ?_ | refine zLn ?_ | refine Zdl ?_ | refine Zdk ?_ | refine zEq ?_ | refine zNe ?_ | refine Zdj ?_ | refine zCv ?_ | refine zSx ?_ | refine zC0 ?_ | refine zC1 ?_ | refine zC2 ?_ | refine zC3 ?_ | refine zC4 ?_ | refine Zb8 (fun _ => ?_) | refine Zf7 (fun _ => ?_) | refine Zbv (fun _ => ?_) | refine Zf8 (fun _ => ?_) | refine Zf9 (fun _ => ?_) | refine Zfa (fun _ => ?_) | refine Zfb (fun _ => ?_) | refine Zfc (fun _ => ?_) | refine Zd6 (fun _ => ?_) | refine zLd 0 ?_ | refine zLd 1 ?_ | refine zLd 2 ?_ | refine zLd 3 ?_ | refine zSt 0 ?_ | refine zSt 1 ?_ | refine zSt 2 ?_ | refine zSt 3 ?_ | refine zD ?_ | refine zgM ?_ | refine zgA ?_ | refine zgI ?_ | refine zgX ?_ | refine zgF ?_ | refine Zeh ?_ | refine Zei ?_ | refine Zej ?_ | refine Zek ?_ | refine Zel ?_ | refine Zem ?_ | refine Zen ?_ | refine Zco ?_ | refine Zf0 ?_ | refine Zez ?_ | refine zgK ?_ | refine zgJ ?_ | refine zgP ?_ | refine zgL ?_ | refine Zey ?_ | refine Zf3 ?_ | refine Zf2 ?_ | refine zgU ?_ | refine Zew ?_ | refine Zev ?_ | refine Zcr ?_ | refine Zcq ?_ | refine Zeu ?_ | refine Zex ?_ | refine Zcp ?_ | refine Zet ?_ | refine Zf1 ?_ | refine Zeo ?_ | refine Zep ?_ | refine Zeq ?_ | refine Zer ?_ | refine Zes ?_ | refine Z84 0 ?_ | refine Z84 1 ?_ | refine Z84 2 ?_ | refine Z84 3 ?_ | refine Zbw ?_ | refine zcM ?_ | refine zcA ?_ | refine zcI ?_ | refine zcX ?_ | refine zcF ?_ | refine Zdm ?_ | refine Zdn ?_ | refine Zdo ?_ | refine Zdp ?_ | refine Zb9 ?_ | refine Zdq ?_ | refine Zdr ?_ | refine Zbx ?_ | refine Ze3 ?_ | refine Ze2 ?_ | refine zcK ?_ | refine zcJ ?_ | refine zcP ?_ | refine zcL ?_ | refine Ze1 ?_ | refine Ze6 ?_ | refine Ze5 ?_ | refine zcU ?_ | refine Zdz ?_ | refine Zdy ?_ | refine Zc0 ?_ | refine Zbz ?_ | refine Zdx ?_ | refine Ze0 ?_ | refine Zby ?_ | refine Zdw ?_ | refine Ze4 ?_ | refine Zds ?_ | refine Zba ?_ | refine Zdt ?_ | refine Zdu ?_ | refine Zdv ?_ | refine Zed ?_ | refine Ze7 ?_ | refine Ze9 ?_ | refine Zeg ?_ | refine Ze8 ?_ | refine Zc1 ?_ | refine Zc2 ?_ | refine Zc3 ?_ | refine Zc4 ?_ | refine Zc5 ?_ | refine Zc6 ?_ | refine Zc7 ?_ | refine Z9u ?_ | refine Zck ?_ | refine Zcj ?_ | refine Zeb ?_ | refine Zea ?_ | refine Zee ?_ | refine Zec ?_ | refine Zci ?_ | refine Zcn ?_ | refine Zcm ?_ | refine Zef ?_ | refine Zcg ?_ | refine Zcf ?_ | refine Z9x ?_ | refine Z9w ?_ | refine Zce ?_ | refine Zch ?_ | refine Z9v ?_ | refine Zcd ?_ | refine Zcl ?_ | refine Zc8 ?_ | refine Zc9 ?_ | refine Zca ?_ | refine Zcb ?_ | refine Zcc ?_ | refine Z2t 0 ?_ | refine Z2t 1 ?_ | refine Z2t 2 ?_ | refine Z2t 3 ?_ | refine Z2y 0 ?_ | refine Z2y 1 ?_ | refine Z2y 2 ?_ | refine Z2y 3 ?_ | refine Zbb ?_ | refine zcD ?_ | refine Z4d 70 ?_ | refine zRd ?_ | refine Z0w rfl (fun _ => ?_) (fun _ => ?_))
  all_goals first | exact Z60 rfl (Z8 rfl Za) (gvr rfl) | exact Z60 rfl (Z8 rfl (Z8 rfl Za)) (gvr rfl) | exact Z60 rfl (Z07 0 rfl rfl rfl Z1t Za) (gvr rfl) | exact Z60 rfl (Z07 0 rfl rfl rfl Z1t (Z8 rfl Za)) (gvr rfl) | exact Z60 rfl (Z07 1 rfl rfl rfl Z1t (Z8 rfl Za)) (gvr rfl) | exact Z60 rfl (Z8 rfl Za) (gvr (by simp_all [mkRes])) | exact Z60 rfl (Z8 rfl (Z8 rfl Za)) (gvr (by simp_all [mkRes])) | exact Z60 rfl (Z07 0 rfl rfl rfl Z1t Za) (gvr (by simp_all [mkRes])) | exact Z60 rfl (Z07 0 rfl rfl rfl Z1t (Z8 rfl Za)) (gvr (by simp_all [mkRes])) | exact Z60 rfl (Z07 1 rfl rfl rfl Z1t (Z8 rfl Za)) (gvr (by simp_all [mkRes]))) : Con P f xs x := ⟨Zf hf hb hnm hnt hn0 h⟩
theorem wk {A B : Prop} (x : A) (h : Wk A → B := by
 intro h
 repeat (first | refine qS ?_ | refine qR ?_ | refine zN ?_ | refine tqN ?_ | refine tqR ?_ | refine bqN ?_ | refine bqR ?_ | refine tqX ?_ | refine bqX ?_ | refine qB ?_ | refine qK ?_ | refine qcT ?_ | refine qcF ?_ | refine Zdf ?_ | refine qX ?_ | refine zM ?_ | refine zA ?_ | refine zI ?_ | refine zX ?_ | refine zF ?_ | refine zB1 ?_ | refine zB2 ?_ | refine zB3 ?_ | refine zB4 ?_ | refine zB5 ?_ | refine zB7 ?_ | refine zB9 ?_ | refine Zdi ?_ | refine zPT ?_ | refine zPF ?_ | refine zK ?_ | refine zJ ?_ | refine zP ?_ | refine zL ?_ | refine zNt ?_ | refine zUt ?_ | refine zUf ?_ | refine zU ?_ | refine zNc ?_ | refine zLn ?_ | refine Zdl ?_ | refine Zdk ?_ | refine zEq ?_ | refine zNe ?_ | refine Zdj ?_ | refine zCv ?_ | refine zSx ?_ | refine zC0 ?_ | refine zC1 ?_ | refine zC2 ?_ | refine zC3 ?_ | refine zC4 ?_ | refine zLd 0 ?_ | refine zLd 1 ?_ | refine zLd 2 ?_ | refine zLd 3 ?_ | refine zSt 0 ?_ | refine zSt 1 ?_ | refine zSt 2 ?_ | refine zSt 3 ?_ | refine zD ?_ | refine zgM ?_ | refine zgA ?_ | refine zgI ?_ | refine zgX ?_ | refine zgF ?_ | refine Zeh ?_ | refine Zei ?_ | refine Zej ?_ | refine Zek ?_ | refine Zel ?_ | refine Zem ?_ | refine Zen ?_ | refine Zco ?_ | refine Zf0 ?_ | refine Zez ?_ | refine zgK ?_ | refine zgJ ?_ | refine zgP ?_ | refine zgL ?_ | refine Zey ?_ | refine Zf3 ?_ | refine Zf2 ?_ | refine zgU ?_ | refine Zew ?_ | refine Zev ?_ | refine Zcr ?_ | refine Zcq ?_ | refine Zeu ?_ | refine Zex ?_ | refine Zcp ?_ | refine Zet ?_ | refine Zf1 ?_ | refine Zeo ?_ | refine Zep ?_ | refine Zeq ?_ | refine Zer ?_ | refine Zes ?_ | refine Z84 0 ?_ | refine Z84 1 ?_ | refine Z84 2 ?_ | refine Z84 3 ?_ | refine Zbw ?_ | refine zcM ?_ | refine zcA ?_ | refine zcI ?_ | refine zcX ?_ | refine zcF ?_ | refine Zdm ?_ | refine Zdn ?_ | refine Zdo ?_ | refine Zdp ?_ | refine Zb9 ?_ | refine Zdq ?_ | refine Zdr ?_ | refine Zbx ?_ | refine Ze3 ?_ | refine Ze2 ?_ | refine zcK ?_ | refine zcJ ?_ | refine zcP ?_ | refine zcL ?_ | refine Ze1 ?_ | refine Ze6 ?_ | refine Ze5 ?_ | refine zcU ?_ | refine Zdz ?_ | refine Zdy ?_ | refine Zc0 ?_ | refine Zbz ?_ | refine Zdx ?_ | refine Ze0 ?_ | refine Zby ?_ | refine Zdw ?_ | refine Ze4 ?_ | refine Zds ?_ | refine Zba ?_ | refine Zdt ?_ | refine Zdu ?_ | refine Zdv ?_ | refine Zed ?_ | refine Ze7 ?_ | refine Ze9 ?_ | refine Zeg ?_ | refine Ze8 ?_ | refine Zc1 ?_ | refine Zc2 ?_ | refine Zc3 ?_ | refine Zc4 ?_ | refine Zc5 ?_ | refine Zc6 ?_ | refine Zc7 ?_ | refine Z9u ?_ | refine Zck ?_ | refine Zcj ?_ | refine Zeb ?_ | refine Zea ?_ | refine Zee ?_ | refine Zec ?_ | refine Zci ?_ | refine Zcn ?_ | refine Zcm ?_ | refine Zef ?_ | refine Zcg ?_ | refine Zcf ?_ | refine Z9x ?_ | refine Z9w ?_ | refine Zce ?_ | refine Zch ?_ | refine Z9v ?_ | refine Zcd ?_ | refine Zcl ?_ | refine Zc8 ?_ | refine Zc9 ?_ | refine Zca ?_ | refine Zcb ?_ | refine Zcc ?_ | refine Z2t 0 ?_ | refine Z2t 1 ?_ | refine Z2t 2 ?_ | refine Z2t 3 ?_ | refine Z2y 0 ?_ | refine Z2y 1 ?_ | refine Z2y 2 ?_ | refine Z2y 3 ?_ | refine Zbb ?_ | refine zcD ?_)
 exact h.x) : B := h ⟨x⟩
end Go.Sx
namespace Go.Sx
open Go Go.Proofs
def FRef.kv (r : FRef) : List Value := [.string r.cls, .string r.name]
instance frefKey : FKey Try.prog 34 FRef.kv [.str, .str] where
 eq := inferInstance
 ck := fun _ => rfl
 inj := fun a b => by
  have h1 : vseq (FRef.kv a) (FRef.kv b) = (beqS a.cls b.cls && beqS a.name b.name) := by simp [FRef.kv, vseq, veq, beqS]
  rw [h1, Bool.eq_iff_iff, Bool.and_eq_true, beqS_iff, beqS_iff, decide_eq_true_iff]
  cases a; cases b
  simp
 chk := fun b a w => by
  unfold kagg FRef.kv
  kernel_rfl
 same := fun a => by
  simp [kagg, FRef.kv, Instr.sameBits, Z4s, Z5a]
end Go.Sx
namespace Go.Sx
open Go Go.Proofs
theorem Zcx {P : Program} {o : Oper} {T : List (Nat × AV)} {Hn : AHeap} {x y : AV} {On : AHeap} (h : Eff P o T Hn x On) (k : ∀ C v, VR C x v → VR C y v) : Eff P o T Hn y On :=
 fun Z C H a w hw hn hv hi hd hz ro next R hk => h Z C H a w hw hn hv hi hd hz ro next R (fun v w1 C1 hv1 => hk v w1 C1 (k C1 v hv1))
def fkd (v : Value) : FRef := match v with | .agg vs => (match vs.toList with | [.string a, .string b] => ⟨a, b⟩ | _ => ⟨⟨#[]⟩, ⟨#[]⟩⟩) | _ => ⟨⟨#[]⟩, ⟨#[]⟩⟩
theorem Z8z (a : FRef) : fkd (kagg FRef.kv a) = a := rfl
theorem Zdh {C : Ctx} {a : FRef} {v : Value} (h : VR C (.v (kagg FRef.kv a)) v) : VR C a.av v := by
 rw [VR.val h]; exact Z9s (FRef.kv a)
theorem Za6 (es : List (FRef × AV)) (ho : (es.map Prod.fst).Nodup) (i1 q : Nat) : SeqG Try.prog 46 [.ptr i1 1 0 0] [(i1, .rows 68 1 [[.map q]]), (q, .mp (fmp FRef.kv es))] (fun s : FRef => [s.av]) (AdmF (es.map Prod.fst)) (FinF (es.map Prod.fst)) := by
 refine ⟨⟨_, Try.func46, rfl, by decide +kernel⟩, ?_⟩
 intro id J Jx hY Hj hJ0
 refine Zf (n := 14) Try.func46 rfl (by decide +kernel) rfl rfl ?_
 intro Z C0 H0 wz C a w he hs
 obtain ⟨mb, N, ents, clock, hm, hu, hE, hw1, he1⟩ := Z95 (Z := Z) (k := 1) hs.wr rfl
 have hs1 : SR C ⟨enum [.yld id, .ptr i1 1 0 0] 0, [(i1, .rows 68 1 [[.map q]]), (q, .raw (.map ents clock))] ++ Hj, [], 14⟩ a w := ⟨hw1, hs.sl, hs.df, hs.du, hs.sz⟩
 refine wpIn_mono ((?_ : AWpO Z C ([(i1, .rows 68 1 [[.map q]]), (q, .raw (.map ents clock))] ++ Hj) w Try.prog none _ (RetQ Try.prog Try.f46 (SeqGR (FinF (es.map Prod.fst)) J Jx)) _) C a w (.refl ..) hs1) ?_
 rotate_left
 ·rintro e a' w' ⟨h1, C', s', hq, hs', he'⟩
  exact ⟨h1, C', s', hq, hs', (he.trans he1).trans he'⟩
 refine Z22 ?_
 refine Z1q ?_
 refine Z87 [(i1, .rows 68 1 [[.map q]])] (.map q) (w0 rfl) rfl (Z0x rfl rfl ⟨_, _, _, List.mem_cons_self, rfl, rfl⟩ Z3v) (fun p hp => by rw [List.mem_singleton.1 hp]; exact List.mem_cons_self) ?_
 refine Z6e 1 (w0 rfl) rfl rfl rfl rfl hm hu (fun it => ?_)
 refine Z3b ?_
 refine Z4e ?_
 refine Z7n (α := List MapEntry × AHeap) (fun x => ⟨[(5, .ptr it 1 0 0), (0, .yld id)], [(it, .raw (.mapIter (some mb) clock (bornsA x.1) clock)), (q, .raw (.map ents clock))] ++ x.2, [], 14⟩)
  (fun x => GotF ents x.1 ∧ J (x.1.map fun e => fkd e.key) x.2) (fun x => (leftOf ents (bornsA x.1)).size) ([], Hj) ⟨.start ents, hJ0⟩ ?_ ?_
 ·exact Z69 (F := [_, _, _]) (F' := [_, _]) (Hj := Hj) [0, 2] ⟨rfl, rfl, trivial⟩ rfl rfl rfl (by decide) rfl rfl
 rintro x ⟨hG, hJx⟩
 refine Z22 ?_
 refine Z1q ?_
 refine Z7l 0 1 (w0 rfl) rfl rfl rfl rfl rfl hm hu hE.born (Nat.le_refl _) (fun hz => ?_) (fun e hem => ?_)
 ·refine Z6c (w0 rfl) rfl (Zm rfl rfl rfl) ?_
  refine Z3b ?_
  refine Z22 ?_
  refine Z57 rfl nofun (fun _ => ?_)
  refine Z6f (Z6z ?_)
  exact Zj rfl Za (.cons _ (.cons _ (.refl _))) ⟨⟨_, rfl⟩, .inl ⟨_, _, hG.fin Z8z hE ho hz, .refl _, hJx⟩⟩
 ·have hk := hE.keyF Z8z (mem_left hem).1
  have hG2 := hG.step hem
  have hA : AdmF (es.map Prod.fst) ((x.1.map fun e => fkd e.key) ++ [fkd e.key]) := by have := hG2.keys Z8z hE ho; rw [List.map_append] at this; exact this
  refine Z6c (w0 rfl) rfl (Zm rfl rfl rfl) ?_
  refine Z3b ?_
  refine Z22 ?_
  refine Z57 rfl (fun _ => ?_) nofun
  refine Z6f (Z4r ?_)
  refine Z4e ?_
  refine Z22 ?_
  refine Z1q ?_
  refine Z6d 0 1 (w0 rfl) rfl rfl rfl rfl rfl hm hu (mem_left hem).1 hE.nd ?_
  refine Z6c (w0 rfl) rfl (Zcx (y := (fkd e.key).av) (Zm rfl rfl rfl) (fun C v h => by rw [hk.1] at h; exact Zdh h)) ?_
  refine Z9z ?_
  refine Z0f (w0 rfl) rfl (fun id => Zl id rfl rfl rfl) (fun id1 => ?_)
  refine Z1e 0 (w0 rfl) rfl rfl rfl rfl rfl rfl rfl rfl rfl ?_
  refine Z03 ?_
  refine Z6f ?_
  refine Z16 ?_
  refine Zo ?_
  refine Z0 (w0 rfl) rfl (Z0g rfl rfl) ?_
  refine Zn 0 (w0 rfl) rfl rfl rfl rfl rfl Z1t ?_
  refine Z6b (J := J) (Jx := Jx) (l := (x.1.map fun e => fkd e.key) ++ [fkd e.key]) [_, _, _] x.2 (w0 rfl) rfl rfl rfl rfl rfl (hY _ _ _ hA hJx) (fun bY Hn hyT hyF => ?_)
  refine Z0 (w0 rfl) rfl (Z2o rfl rfl) ?_
  refine Z03 ?_
  refine Z0w rfl ?_ ?_
  ·intro hc
   refine Z4q ?_
   exact Zj rfl Za (.cons _ (.cons _ (.cons _ (.refl _)))) ⟨⟨_, rfl⟩, .inr ⟨_, _, .refl _, hyF (Zff hc)⟩⟩
  ·intro hc
   refine Z4r ?_
   refine ⟨(x.1 ++ [e], Hn), ⟨hG2, by show J ((x.1 ++ [e]).map fun e => fkd e.key) Hn; rw [List.map_append]; exact hyT (Zfe hc)⟩, GotF.dec hem, ?_⟩
   exact Z69 (F := [_, _, _]) (F' := [_, _]) (Hj := Hn) [1, 2] ⟨rfl, rfl, trivial⟩ rfl rfl (by rw [Z3f]) (by decide) rfl rfl
end Go.Sx
namespace Go.Sx
open Go Go.Proofs
def KeysF (q : Nat) (es : List (FRef × AV)) : AEnd → AHeap → Prop := fun e H => ∃ i1, e = .ret (.fn (.func 46) [.ptr i1 1 0 0]) ∧ H = [(i1, .rows 68 1 [[.map q]]), (q, .mp (fmp FRef.kv es))]
theorem Z5b (g : Nat) (caps : List AV) (Hit : AHeap) (Adm Fin : List FRef → Prop) (hx : ∀ l, Adm l → l.length ≤ 1000) (hseq : SeqG Try.prog g caps Hit (fun s : FRef => [s.av]) Adm Fin) :
  ACalls Try.prog 54 [.v (.slice none 0 0), .fn (.func g) caps] Hit (GP (fun r : Nat × List FRef => .own r.1 2 0 r.2.length) (fun r => [(r.1, .rows 34 2 (r.2.map FRef.cells))]) (fun r => Fin r.2)) := by
 refine Zf (n := 13) Try.func54 rfl (by decide +kernel) rfl rfl ?_
 refine Z16 ?_
 refine Zo ?_
 refine Z0f (w0 rfl) rfl (fun id => Z18 id rfl rfl rfl rfl rfl) (fun id1 => ?_)
 refine Z0 (w0 rfl) rfl (Zp rfl rfl) ?_
 refine Z03 ?_
 refine Z16 ?_
 refine Z16 ?_
 refine Z3e 0 (qe := 34) (qs := 2) rfl (fun idq => ?_)
 refine Zo ?_
 refine Z0 (w0 rfl) rfl (Z0g rfl rfl) ?_
 refine Z03 ?_
 refine Z3d ?_
 refine Z4a (fun s : FRef => [s.av]) Adm Fin Hit [_, _] (fun pre Hb => ∃ q, Hb = [(q, .rows 34 2 (pre.map FRef.cells)), (id1, .rows 54 1 [[.own q 2 0 pre.length]])]) (fun _ _ _ => False) rfl (List.perm_append_comm (l₁ := [_, _])) ⟨idq, rfl⟩ (hseq) (fun _ => rfl) (lts rfl) ?_ ?_ ?_
 ·rintro l pre z Hb hA ⟨q, rfl⟩
  have hlz : pre.length < 1001 := by have := hx _ hA; simp at this; omega
  refine Zo ?_
  refine Z0f (w0 rfl) rfl (fun id => Zl id rfl rfl rfl) (fun id5 => ?_)
  refine Z1e 0 (w0 rfl) rfl rfl rfl rfl rfl rfl rfl rfl rfl ?_
  refine Z03 ?_
  refine ⟨rfl, ?_⟩
  refine Z3d ?_
  refine Zo ?_
  refine Zn 2 (w0 rfl) rfl rfl rfl rfl rfl Z3v ?_
  refine Zn 0 (w0 rfl) rfl rfl rfl rfl rfl Z1t ?_
  refine Z0f (w0 rfl) rfl (fun id => Zd id (ps := [(0, .tmp 9)]) rfl rfl rfl rfl rfl rfl rfl rfl) (fun id2 => ?_)
  refine Z3a 2 (w0 rfl) rfl rfl rfl rfl (by simp) rfl ⟨rfl, _, _, List.mem_of_getElem? (i := 0) rfl, by simp, rfl⟩ (by first | omega | (simp; omega) | (simp [maxLen]; omega) | (simp; done) | (simp [maxLen]; done)) (by first | omega | (simp; omega) | (simp [maxLen]; omega) | (simp; done) | (simp [maxLen]; done)) (fun id3 => ?_)
  refine Z1e 3 (w0 rfl) rfl rfl rfl rfl rfl rfl rfl rfl rfl ?_
  refine Z03 ?_
  exact ⟨⟨[], [_, _], [], 13⟩, Z49 [2, 3] trivial rfl (by decide) rfl rfl, id3, by show [(_, AObj.rows _ _ _), (_, AObj.rows _ _ _)] = [(_, AObj.rows _ _ _), (_, AObj.rows _ _ _)]; simp [cellsA, FRef.cells]⟩
 ·rintro im ll Hb hfl ⟨q, rfl⟩
  refine Z16 ?_
  refine Zo ?_
  refine Zn 1 (w0 rfl) rfl rfl rfl rfl rfl Z3v ?_
  refine Z0 (w0 rfl) rfl (Zp rfl rfl) ?_
  refine Z03 ?_
  refine Z4q ?_
  exact Zdg (F := [_, _]) rfl rfl (Z8 rfl Za) (.cons_cons _ (.cons _ .slnil)) (gp (q, ll) hfl rfl rfl)
 ·intro i c pre Hb h; exact h.elim
theorem Z7o (g : Nat) (caps : List AV) (Hit : AHeap) (Adm Fin : List FRef → Prop) (hx : ∀ l, Adm l → l.length ≤ 1000) (hseq : SeqG Try.prog g caps Hit (fun s : FRef => [s.av]) Adm Fin) :
  ACalls Try.prog 44 [.fn (.func g) caps] Hit (GP (fun r : Nat × List FRef => .own r.1 2 0 r.2.length) (fun r => [(r.1, .rows 34 2 (r.2.map FRef.cells))]) (fun r => Fin r.2)) := by
 refine Zf (n := 5) Try.func44 rfl (by decide +kernel) rfl rfl ?_
 refine Z16 ?_
 refine Zo ?_
 refine Z0 (w0 rfl) rfl (Zp rfl rfl) ?_
 refine Z03 ?_
 refine Z16 ?_
 refine Zo ?_
 refine Z0 (w0 rfl) rfl (Z0g rfl rfl) ?_
 refine Z0k Hit [] (w0 rfl) rfl rfl rfl rfl (by simp) (Z5b g caps Hit Adm Fin hx hseq) (fun r hr => ?_)
 refine Z0 (w0 rfl) rfl (Zp rfl rfl) ?_
 refine Z03 ?_
 refine Z4q ?_
 exact Zj rfl (Z8 rfl Za) (.refl _) (gp r hr rfl rfl)
end Go.Sx
namespace Go.Sx
open Go
inductive Tr (α : Type) where
 | lf
 | nd (l : Tr α) (x : Option α) (r : Tr α)
def Tr.getF {α : Type} : Nat → Tr α → Nat → Option α
 | 0, _, _ => none
 | _ + 1, .lf, _ => none
 | f + 1, .nd l x r, k => match k with
  | 0 => x
  | k + 1 => bif Nat.beq (k % 2) 0 then getF f l (k / 2) else getF f r (k / 2)
def Tr.putF {α : Type} : Nat → Tr α → Nat → Option α → Tr α
 | 0, t, _, _ => t
 | f + 1, .lf, k, v => match k with
  | 0 => .nd .lf v .lf
  | k + 1 => bif Nat.beq (k % 2) 0 then .nd (putF f .lf (k / 2) v) none .lf else .nd .lf none (putF f .lf (k / 2) v)
 | f + 1, .nd l x r, k, v => match k with
  | 0 => .nd l v r
  | k + 1 => bif Nat.beq (k % 2) 0 then .nd (putF f l (k / 2) v) x r else .nd l x (putF f r (k / 2) v)
abbrev Tr.get {α : Type} (t : Tr α) (k : Nat) : Option α := Tr.getF 40 t k
abbrev Tr.put {α : Type} (t : Tr α) (k : Nat) (v : Option α) : Tr α := Tr.putF 40 t k v
theorem Tr.getF_lf {α : Type} (f k : Nat) : Tr.getF f (.lf : Tr α) k = none := by cases f <;> rfl
theorem Tr.half {a b : Nat} (h : a % 2 = b % 2) (k : a / 2 = b / 2) : a = b := by omega
theorem Tr.get_other {α : Type} : ∀ (f : Nat) (t : Tr α) (d k : Nat) (v : Option α), k ≠ d → Tr.getF f (Tr.putF f t d v) k = Tr.getF f t k
 | 0, t, d, k, v, _ => rfl
 | f + 1, .lf, d, k, v, h => by
  cases d with
  | zero =>
   cases k with
   | zero => exact absurd rfl h
   | succ k => simp [Tr.putF, Tr.getF, Tr.getF_lf]
  | succ d =>
   simp only [Tr.putF]
   cases hd : Nat.beq (d % 2) 0 with
   | true =>
    cases k with
    | zero => simp [Tr.getF]
    | succ k =>
     simp only [cond_true, Tr.getF]
     cases hk : Nat.beq (k % 2) 0 with
     | true =>
      have h1 := Nat.eq_of_beq_eq_true hd
      have h2 := Nat.eq_of_beq_eq_true hk
      simp only [cond_true]
      rw [Tr.get_other f .lf (d / 2) (k / 2) v (fun e => h (by rw [Tr.half (h2.trans h1.symm) e])), Tr.getF_lf]
     | false => simp only [cond_false, Tr.getF_lf]
   | false =>
    cases k with
    | zero => simp [Tr.getF]
    | succ k =>
     simp only [cond_false, Tr.getF]
     cases hk : Nat.beq (k % 2) 0 with
     | true => simp only [cond_true, Tr.getF_lf]
     | false =>
      have h1 : d % 2 ≠ 0 := fun e => by rw [e] at hd; cases hd
      have h2 : k % 2 ≠ 0 := fun e => by rw [e] at hk; cases hk
      simp only [cond_false]
      rw [Tr.get_other f .lf (d / 2) (k / 2) v (fun e => h (by rw [Tr.half (a := k) (b := d) (by omega) e])), Tr.getF_lf]
 | f + 1, .nd l x r, d, k, v, h => by
  cases d with
  | zero =>
   cases k with
   | zero => exact absurd rfl h
   | succ k => simp [Tr.putF, Tr.getF]
  | succ d =>
   simp only [Tr.putF]
   cases hd : Nat.beq (d % 2) 0 with
   | true =>
    cases k with
    | zero => simp [Tr.getF]
    | succ k =>
     simp only [cond_true, Tr.getF]
     cases hk : Nat.beq (k % 2) 0 with
     | true =>
      have h1 := Nat.eq_of_beq_eq_true hd
      have h2 := Nat.eq_of_beq_eq_true hk
      simp only [cond_true]
      exact Tr.get_other f l (d / 2) (k / 2) v (fun e => h (by rw [Tr.half (h2.trans h1.symm) e]))
     | false => simp only [cond_false]
   | false =>
    cases k with
    | zero => simp [Tr.getF]
    | succ k =>
     simp only [cond_false, Tr.getF]
     cases hk : Nat.beq (k % 2) 0 with
     | true => simp only [cond_true]
     | false =>
      have h1 : d % 2 ≠ 0 := fun e => by rw [e] at hd; cases hd
      have h2 : k % 2 ≠ 0 := fun e => by rw [e] at hk; cases hk
      simp only [cond_false]
      exact Tr.get_other f r (d / 2) (k / 2) v (fun e => h (by rw [Tr.half (a := k) (b := d) (by omega) e]))
theorem Tr.get_same {α : Type} : ∀ (f : Nat) (t : Tr α) (d : Nat) (v : Option α) (y : α), Tr.getF f (Tr.putF f t d v) d = some y → v = some y
 | 0, t, d, v, y, h => by simp [Tr.getF] at h
 | f + 1, .lf, d, v, y, h => by
  cases d with
  | zero => simpa [Tr.putF, Tr.getF] using h
  | succ d =>
   simp only [Tr.putF] at h
   cases hd : Nat.beq (d % 2) 0 with
   | true => simp only [hd, cond_true, Tr.getF] at h; exact Tr.get_same f .lf (d / 2) v y h
   | false => simp only [hd, cond_false, Tr.getF] at h; exact Tr.get_same f .lf (d / 2) v y h
 | f + 1, .nd l x r, d, v, y, h => by
  cases d with
  | zero => simpa [Tr.putF, Tr.getF] using h
  | succ d =>
   simp only [Tr.putF] at h
   cases hd : Nat.beq (d % 2) 0 with
   | true => simp only [hd, cond_true, Tr.getF] at h; exact Tr.get_same f l (d / 2) v y h
   | false => simp only [hd, cond_false, Tr.getF] at h; exact Tr.get_same f r (d / 2) v y h
theorem Tr.put_get {α : Type} {t : Tr α} {d k : Nat} {v : Option α} {y : α} (h : (t.put d v).get k = some y) : (k = d ∧ v = some y) ∨ (k ≠ d ∧ t.get k = some y) := by
 by_cases e : k = d
 ·subst e; exact .inl ⟨rfl, Tr.get_same 40 t k v y h⟩
 ·exact .inr ⟨e, by rw [← h]; exact (Tr.get_other 40 t d k v e).symm⟩
theorem Tr.get_lt {α : Type} : ∀ (f : Nat) (t : Tr α) (k : Nat) (y : α), Tr.getF f t k = some y → k + 1 < 2 ^ f
 | 0, t, k, y, h => by simp [Tr.getF] at h
 | f + 1, .lf, k, y, h => by simp [Tr.getF] at h
 | f + 1, .nd l x r, k, y, h => by
  cases k with
  | zero => rw [Nat.pow_succ]; have : 1 ≤ 2 ^ f := Nat.one_le_two_pow; omega
  | succ k =>
   simp only [Tr.getF] at h
   rw [Nat.pow_succ]
   cases hd : Nat.beq (k % 2) 0 with
   | true => simp only [hd, cond_true] at h; have := Tr.get_lt f l (k / 2) y h; omega
   | false => simp only [hd, cond_false] at h; have := Tr.get_lt f r (k / 2) y h; omega
def lsOf {α : Type} (f : Nat → Option α) (l : List Nat) : List (Nat × α) := l.filterMap fun t => (f t).map fun x => (t, x)
theorem Z91 (f : Nat → Option AV) (k : Nat) : ∀ l : List Nat, lk (lsOf f l) k = if k ∈ l then f k else none
 | [] => by simp [lsOf, lk]
 | a :: l => by
  have ih := Z91 f k l
  unfold lsOf at ih ⊢
  cases hf : f a with
  | none =>
   rw [List.filterMap_cons_none (by rw [hf]; rfl), ih]
   by_cases e : k = a
   ·subst e; simp [hf]
   ·simp [e]
  | some x =>
   rw [List.filterMap_cons_some (by rw [hf]; rfl)]
   simp only [lk]
   by_cases e : k = a
   ·subst e; simp [hf]
   ·have hb : Nat.beq a k = false := by
     cases hb : Nat.beq a k with
     | true => exact absurd (Nat.eq_of_beq_eq_true hb).symm e
     | false => rfl
    rw [hb, cond_false, ih]
    simp [e]
theorem Tr.ex_ls (t : Tr AV) : ∃ T : List (Nat × AV), ∀ k, lk T k = t.get k := by
 refine ⟨lsOf t.get (List.range (2 ^ 40)), fun k => ?_⟩
 rw [Z91]
 split
 ·rfl
 ·rename_i h
  cases hg : t.get k with
  | none => rfl
  | some x =>
   have := Tr.get_lt 40 t k x hg
   exact absurd (List.mem_range.2 (by omega)) h
noncomputable def Tr.ls (t : Tr AV) : List (Nat × AV) := Classical.choose t.ex_ls
theorem Tr.lk_ls (t : Tr AV) (k : Nat) : lk t.ls k = t.get k := Classical.choose_spec t.ex_ls k
end Go.Sx
namespace Go.Sx
open Go
structure LtT {α : Type} (lt : α → α → Bool) : Prop where
 ok : LtOK lt
 tot : ∀ x y, lt x y = false → lt y x = false → x = y
section
variable {α : Type} [Inhabited α] [DecidableEq α] {lt : α → α → Bool}
def hasG (l : List α) (x : α) : Bool := l.any fun y => decide (y = x)
def ddO (o : List α) (s : α) : List α := if hasG o s then o else o ++ [s]
def ddG (l : List α) : List α := l.foldl ddO []
def insG (lt : α → α → Bool) : Nat → List α → List α
 | 0, l => l
 | k + 1, l => if lt (l.getD (k + 1) default) (l.getD k default) then insG lt k (swp l (k + 1) k) else l
def outG (lt : α → α → Bool) : Nat → Nat → List α → List α
 | 0, _, l => l
 | f + 1, i, l => outG lt f (i + 1) (insG lt i l)
def risG (lt : α → α → Bool) (l : List α) : List α := outG lt ((ddG l).length - 1) 1 (ddG l)
variable (hO : LtT lt)
include hO
omit hO
def riseG (lt : α → α → Bool) (l : List α) : Bool := (List.range l.length).all fun i => Nat.beq i 0 || lt (l.getD (i - 1) default) (l.getD i default)
include hO
end
end Go.Sx
namespace Go.Sx
open Go
def nm1 : Str := ⟨#[109]⟩
def ns1 : Str := ⟨#[115]⟩
def nf1 : Str := ⟨#[102]⟩
def lfI : Instr := ⟨23, 0, 0, 0, 0, zS, zS, zS, []⟩
def lfM : Meth := ⟨nm1, nVd, false, false, 1, [lfI]⟩
def lfS : Meth := ⟨ns1, nVd, true, false, 0, [lfI]⟩
def lfF : Fld := ⟨nf1, ⟨2, zS⟩, false⟩
def lfA : Cls := ⟨nA, zS, false, false, [], [lfF], [lfM, lfS]⟩
def lfB : Cls := ⟨nB, nA, false, false, [], [], []⟩
def lfP : Prog := ⟨[lfA, lfB], [], ⟨zS, zS, zS⟩⟩
end Go.Sx
namespace Go.Sx
open Go
def cmpT (a b : Str) : Int := if ltS a b then -1 else if ltS b a then 1 else 0
def cmpI (a b : Int) : Int := if a < b then -1 else if b < a then 1 else 0
def orI (a b : Int) : Int := if a = 0 then b else a
structure PreC {α : Type} (f : α → α → Int) : Prop where
 rg : ∀ x y, f x y = -1 ∨ f x y = 0 ∨ f x y = 1
 anti : ∀ x y, f x y = - f y x
 tr : ∀ x y z, f x y ≤ 0 → f y z ≤ 0 → f x z ≤ 0
namespace PreC
variable {α β : Type} {f g : α → α → Int}
theorem str1 (h : PreC f) {x y z : α} (h1 : f x y < 0) (h2 : f y z ≤ 0) : f x z < 0 := by
 have h3 := h.tr x y z (by omega) h2
 have h4 := h.anti x z
 have h5 := h.anti x y
 by_cases e : f x z = 0
 ·have := h.tr y z x h2 (by omega); omega
 ·omega
theorem str2 (h : PreC f) {x y z : α} (h1 : f x y ≤ 0) (h2 : f y z < 0) : f x z < 0 := by
 have h3 := h.tr x y z h1 (by omega)
 have h4 := h.anti x z
 have h5 := h.anti y z
 by_cases e : f x z = 0
 ·have := h.tr z x y (by omega) h1; omega
 ·omega
theorem or (h : PreC f) (k : PreC g) : PreC fun x y => orI (f x y) (g x y) where
 rg x y := by
  unfold orI
  split
  ·exact k.rg x y
  ·exact h.rg x y
 anti x y := by
  have h1 := h.anti x y
  have h2 := k.anti x y
  unfold orI
  by_cases e : f x y = 0
  ·rw [if_pos e, if_pos (by omega)]; exact h2
  ·rw [if_neg e, if_neg (by omega)]; exact h1
 tr x y z h1 h2 := by
  have key : ∀ x y, orI (f x y) (g x y) ≤ 0 ↔ f x y < 0 ∨ (f x y = 0 ∧ g x y ≤ 0) := fun x y => by
   unfold orI; split <;> omega
  rw [key] at h1 h2 ⊢
  rcases h1 with h1 | ⟨h1, h3⟩ <;> rcases h2 with h2 | ⟨h2, h4⟩
  ·exact .inl (h.str1 h1 (by omega))
  ·exact .inl (h.str1 h1 (by omega))
  ·exact .inl (h.str2 (by omega) h2)
  ·have h5 := h.tr x y z (by omega) (by omega)
   have h6 := h.anti x y; have h7 := h.anti y z; have h8 := h.anti x z
   have h9 := h.tr z y x (by omega) (by omega)
   exact .inr ⟨by omega, k.tr x y z h3 h4⟩
theorem on (h : PreC f) (p : β → α) : PreC fun x y => f (p x) (p y) := ⟨fun _ _ => h.rg _ _, fun _ _ => h.anti _ _, fun _ _ _ => h.tr _ _ _⟩
end PreC
def ltC {α : Type} (f : α → α → Int) (x y : α) : Bool := decide (f x y < 0)
structure Site where
 m : MRef
 pc : Int
 cls : Str
 deriving DecidableEq
structure Place where
 kind : Int
 m : MRef
 reg : Int
 field : FRef
 site : Site
 deriving DecidableEq
instance : Inhabited MRef := ⟨zMR⟩
instance : Inhabited FRef := ⟨⟨zS, zS⟩⟩
instance : Inhabited Site := ⟨⟨zMR, 0, zS⟩⟩
instance : Inhabited Place := ⟨⟨0, zMR, 0, ⟨zS, zS⟩, ⟨zMR, 0, zS⟩⟩⟩
def Site.cells (s : Site) : List AV := [sA s.m.cls, sA s.m.name, sA s.m.desc, iA s.pc, sA s.cls]
def Site.av (s : Site) : AV := .agg s.cells
def Place.cells (p : Place) : List AV := [iA p.kind, sA p.m.cls, sA p.m.name, sA p.m.desc, iA p.reg, sA p.field.cls, sA p.field.name, sA p.site.m.cls, sA p.site.m.name, sA p.site.m.desc, iA p.site.pc, sA p.site.cls]
def Place.av (p : Place) : AV := .agg p.cells
def sitesA (l : List Site) : AV := .lst (l.map Site.cells)
structure Site.ok (s : Site) : Prop where
 m : s.m.ok
 pc : i64 s.pc
 cls : small s.cls.size
structure FRef.ok (f : FRef) : Prop where
 cls : small f.cls.size
 name : small f.name.size
structure Place.ok (p : Place) : Prop where
 kind : i64 p.kind
 m : p.m.ok
 reg : i64 p.reg
 field : p.field.ok
 site : p.site.ok
def cmpR (a b : MRef) : Int := orI (cmpT a.cls b.cls) (orI (cmpT a.name b.name) (cmpT a.desc b.desc))
def cmpS (a b : Site) : Int := orI (cmpR a.m b.m) (orI (cmpI a.pc b.pc) (cmpT a.cls b.cls))
def cmpP (a b : Place) : Int := orI (cmpI a.kind b.kind) (orI (cmpR a.m b.m) (orI (cmpI a.reg b.reg) (orI (cmpT a.field.cls b.field.cls) (orI (cmpT a.field.name b.field.name) (cmpS a.site b.site)))))
abbrev sLt : Site → Site → Bool := ltC cmpS
def orL : List Int → Int
 | [] => 0
 | x :: r => orI x (orL r)
section
variable {P : Program} {T : List (Nat × AV)} {o : Oper}
end
section
variable {P : Program} {t s i tr tf ts : TypeId}
end
end Go.Sx
namespace Go.Sx
open Go
end Go.Sx
namespace Go.Sx
open Go
def plainOb : AObj → Bool
 | .rows .. => true
 | .mp _ => true
 | .raw _ => true
 | _ => false
structure Hp where
 H : Tr AObj
 R : List (Tr AObj)
def getR : List (Tr AObj) → Nat → Option AObj
 | [], _ => none
 | t :: r, i => match t.get i with
  | some o => bif plainOb o then some o else getR r i
  | none => getR r i
def Hp.get (h : Hp) (i : Nat) : Option AObj := match getR h.R i with
 | some o => some o
 | none => h.H.get i
def Hp.put (h : Hp) (i : Nat) (v : Option AObj) : Hp := ⟨h.H.put i v, h.R⟩
def Hp.own (h : Hp) (i : Nat) : Option AObj := match getR h.R i with
 | some _ => none
 | none => h.H.get i
theorem Hp.own_spec {h : Hp} {i : Nat} {o : AObj} (hg : h.own i = some o) : getR h.R i = none ∧ h.get i = some o := by
 unfold Hp.own at hg
 unfold Hp.get
 cases hr : getR h.R i with
 | some o' => rw [hr] at hg; cases hg
 | none => rw [hr] at hg; exact ⟨rfl, hg⟩
theorem Hp.put_get {h : Hp} {d k : Nat} {v : Option AObj} {y : AObj} (hf : getR h.R d = none) (hg : (h.put d v).get k = some y) : (k = d ∧ v = some y) ∨ (k ≠ d ∧ h.get k = some y) := by
 unfold Hp.get Hp.put at hg
 simp only at hg
 unfold Hp.get
 cases hr : getR h.R k with
 | some o =>
  rw [hr] at hg
  refine .inr ⟨?_, hg⟩
  rintro rfl; rw [hf] at hr; cases hr
 | none => rw [hr] at hg; exact Tr.put_get hg
theorem Hp.erase_get {h : Hp} {d k : Nat} {y : AObj} (hg : (h.put d none).get k = some y) : h.get k = some y := by
 unfold Hp.get Hp.put at hg
 simp only at hg
 unfold Hp.get
 cases hr : getR h.R k with
 | some o => rw [hr] at hg; exact hg
 | none =>
  rw [hr] at hg
  rcases Tr.put_get hg with ⟨_, e⟩ | ⟨_, e⟩
  ·cases e
  ·exact e
def evT (T : Tr AV) : Operand → Option AV
 | .tmp t => T.get t
 | .const c => some (.v c)
 | .func f => some (.fn (.func f) [])
 | .global _ => none
theorem Z9 {T : Tr AV} : ∀ p : Operand, ev T.ls p = evT T p
 | .tmp t => Tr.lk_ls T t
 | .const _ => rfl
 | .func _ => rfl
 | .global _ => rfl
def evTs (T : Tr AV) : List Operand → Option (List AV)
 | [] => some []
 | p :: r => match evT T p, evTs T r with
  | some x, some xs => some (x :: xs)
  | _, _ => none
theorem Z2d {T : Tr AV} : ∀ ps : List Operand, evs T.ls ps = evTs T ps
 | [] => rfl
 | p :: r => by
  rw [evs, evTs, Z9, Z2d r]
  rfl
def ldA (P : Program) (t : TypeId) (l : List AV) : Option AV := match P.tk t with
 | some (false, _) => l.head?
 | some (true, n) => bif Nat.ble n l.length then some (.agg (l.take n)) else none
 | none => none
theorem Z1i {P : Program} {t : TypeId} {l : List AV} {x : AV} (h : ldA P t l = some x) : Ld P t l x := by
 unfold ldA at h
 split at h
 ·rename_i n hk
  cases l with
  | nil => cases h
  | cons y r => simp at h; subst h; exact .inl ⟨n, r, hk, rfl⟩
 ·rename_i n hk
  cases hb : Nat.ble n l.length with
  | false => rw [hb] at h; cases h
  | true => rw [hb] at h; simp at h; exact .inr ⟨n, hk, Nat.le_of_ble_eq_true hb, h.symm⟩
 ·cases h
section
variable {P : Program} {o : Oper} {T : List (Nat × AV)}
theorem Zaa {t t' : TypeId} {p q : Operand} {k : IntKind} {x y : Int} (ho : o.op = .binOp .quo t p q t') (hp : ev T p = some (.v (.int k x))) (hq : ev T q = some (.v (.int k y))) (hy : y ≠ 0) : Eff P o T [] (.v (.int k (k.wrap (x.tdiv y)))) [] :=
 Z6 (by intro c; rw [ho]; nofun) fun C H a w hw hn hv => by
  have h2 := VR.val (hv p (by rw [ho]; simp [Op.operands]) _ hp)
  have h3 := VR.val (hv q (by rw [ho]; simp [Op.operands]) _ hq)
  refine ⟨_, ?_, .v _⟩
  simp [execOp, ho, h2, h3, eqGuard, binOp, Op.intDiv, hy, Sem.run_bind, Result.andThen]
def intBin (b : BinOp) (k : IntKind) (u v : Int) : Option AV := match b with
 | .quo => if v = 0 then none else some (.v (.int k (k.wrap (u.tdiv v))))
 | .rem => if v = 0 then none else some (.v (.int k (u.tmod v)))
 | .and => some (.v (.int k (bitsI .and k u v)))
 | .or => some (.v (.int k (bitsI .or k u v)))
 | .xor => some (.v (.int k (bitsI .xor k u v)))
 | .andNot => some (.v (.int k (bitsI .andNot k u v)))
 | b => match arith b k u v with
  | some z => some (.v (.int k z))
  | none => match icmp b u v with
   | some z => some (.v (.bool z))
   | none => none
theorem Z7w {b : BinOp} {t t' : TypeId} {p q : Operand} {k : IntKind} {u v : Int} {x : AV} (ho : o.op = .binOp b t p q t') (hp : ev T p = some (.v (.int k u))) (hq : ev T q = some (.v (.int k v)))
  (h : intBin b k u v = some x) : Eff P o T [] x [] := by
 have rest : (match arith b k u v with
  | some z => some (AV.v (.int k z))
  | none => match icmp b u v with
   | some z => some (.v (.bool z))
   | none => none) = some x → Eff P o T [] x [] := by
  intro h
  split at h
  ·rename_i z hz; cases h; exact Zy ho hp hq hz
  ·split at h
   ·rename_i z hz; cases h; exact Z25 ho hp hq hz
   ·cases h
 unfold intBin at h
 split at h
 ·split at h
  ·cases h
  ·cases h; exact Zaa ho hp hq (by assumption)
 ·split at h
  ·cases h
  ·cases h; exact Z8o ho hp hq (by assumption)
 ·cases h; exact Z4u ho (.inl rfl) hp hq
 ·cases h; exact Z4u ho (.inr (.inl rfl)) hp hq
 ·cases h; exact Z4u ho (.inr (.inr rfl)) hp hq
 ·cases h; exact Z7q ho hp hq
 ·exact rest h
def shBin (b : BinOp) (k : IntKind) (u v : Int) : Option AV := match b with
 | .shl => if 0 ≤ v then some (.v (.int k (k.wrap (u * 2 ^ (min v.toNat k.bits))))) else none
 | .shr => if 0 ≤ v then some (.v (.int k (u.fdiv (2 ^ (min v.toNat k.bits))))) else none
 | _ => none
theorem Z9l {b : BinOp} {t t' : TypeId} {p q : Operand} {k k' : IntKind} {u v : Int} {x : AV} (ho : o.op = .binOp b t p q t') (hp : ev T p = some (.v (.int k u))) (hq : ev T q = some (.v (.int k' v)))
  (h : shBin b k u v = some x) : Eff P o T [] x [] := by
 unfold shBin at h
 split at h
 ·split at h
  ·cases h; exact Zbh ho hp hq (by assumption)
  ·cases h
 ·split at h
  ·cases h; exact Zbi ho hp hq (by assumption)
  ·cases h
 ·cases h
def byEq : List UInt8 → List UInt8 → Bool
 | [], [] => true
 | a :: l, b :: m => bif Nat.beq a.toNat b.toNat then byEq l m else false
 | _, _ => false
theorem Z3g : ∀ a b : List UInt8, byEq a b = (a == b)
 | [], [] => rfl
 | [], _ :: _ => rfl
 | _ :: _, [] => rfl
 | a :: l, b :: m => by
  simp only [byEq, List.cons_beq_cons]
  cases h : Nat.beq a.toNat b.toNat with
  | true =>
   have e : a = b := UInt8.toNat.inj (Nat.eq_of_beq_eq_true h)
   subst e; simp [Z3g l m]
  | false =>
   have e : (a == b) = false := by
    cases h2 : a == b with
    | false => rfl
    | true => have := eq_of_beq h2; subst this; rw [Nat.beq_refl] at h; cases h
   simp [e]
theorem Z46 (x : ByteArray) : x.toList = x.data.toList := ByteArray.toList_eq x
def strBin (b : BinOp) (x y : ByteArray) : Option AV := match b with
 | .add => if x.size + y.size ≤ 9223372036854775807 then some (.v (.string (x ++ y))) else none
 | .eql => some (.v (.bool (byEq x.data.toList y.data.toList)))
 | .neq => some (.v (.bool (!(byEq x.data.toList y.data.toList))))
 | .lss => some (.v (.bool (Op.bytesLess x.data.toList y.data.toList)))
 | .leq => some (.v (.bool (Op.bytesLess x.data.toList y.data.toList || byEq x.data.toList y.data.toList)))
 | .gtr => some (.v (.bool (!(Op.bytesLess x.data.toList y.data.toList || byEq x.data.toList y.data.toList))))
 | .geq => some (.v (.bool (!(Op.bytesLess x.data.toList y.data.toList))))
 | _ => none
theorem Z81 {b : BinOp} {t t' : TypeId} {p q : Operand} {u v : ByteArray} {x : AV} (ho : o.op = .binOp b t p q t') (hp : ev T p = some (.v (.string u))) (hq : ev T q = some (.v (.string v)))
  (h : strBin b u v = some x) : Eff P o T [] x [] := by
 unfold strBin at h
 split at h
 ·split at h
  ·cases h; exact Z0n ho hp hq (by assumption)
  ·cases h
 all_goals first
  | (cases h; exact Zq ho hp hq (by simp [scmp, Z46, Z3g]))
  | cases h
def eqA1 : AV → AV → Bool
 | .v (.int _ a), .v (.int _ b) => a == b
 | .v (.bool a), .v (.bool b) => a == b
 | .v (.string a), .v (.string b) => byEq a.data.toList b.data.toList
 | _, _ => false
theorem Z27 (x y : AV) : eqA1 x y = ceq x y := by
 unfold eqA1 ceq
 split <;> simp [Z3g, Z46]
def eqAs : List AV → List AV → Bool
 | [], [] => true
 | x :: xs, y :: ys => bif eqA1 x y then eqAs xs ys else false
 | _, _ => false
theorem Z3p : ∀ xs ys : List AV, eqAs xs ys = ceqs xs ys
 | [], [] => rfl
 | [], _ :: _ => rfl
 | [x], [] => rfl
 | _ :: _ :: _, [] => rfl
 | [x], [y] => by simp [eqAs, ceqs, Z27]
 | [x], y :: z :: r => by simp only [eqAs, ceqs, Z27]; cases ceq x y <;> simp
 | x :: z :: r, [y] => by simp only [eqAs, ceqs, Z27]; cases ceq x y <;> simp
 | x :: x2 :: xs, y :: y2 :: ys => by
  have ih := Z3p (x2 :: xs) (y2 :: ys)
  rw [show eqAs (x :: x2 :: xs) (y :: y2 :: ys) = (bif eqA1 x y then eqAs (x2 :: xs) (y2 :: ys) else false) from rfl, ih, Z27]
  rw [show ceqs (x :: x2 :: xs) (y :: y2 :: ys) = (ceq x y && ceqs (x2 :: xs) (y2 :: ys)) from rfl]
  cases ceq x y <;> rfl
def ckEq : CK → CK → Bool
 | .int _, .int _ => true
 | .bool, .bool => true
 | .str, .str => true
 | _, _ => false
def eqT (P : Program) (t : TypeId) : Option (List CK) := match P.underlying t with
 | some (.struct _) => match ckOf P 20 t with
  | some ks => bif P.eqGuardType P.depth t then none else some ks
  | none => none
 | _ => none
theorem Zad {t : TypeId} {ks : List CK} (h : eqT P t = some ks) : EQ P t ks := by
 unfold eqT at h
 split at h
 ·rename_i fs hu
  split at h
  ·rename_i ks' hk
   cases hg : P.eqGuardType P.depth t with
   | true => rw [hg] at h; cases h
   | false => rw [hg] at h; cases h; exact ⟨hk, hg, fs, hu⟩
  ·cases h
 ·cases h
def kOk : AV → CK → Bool
 | .v (.int k _), .int k' => decide (k = k')
 | .v (.bool _), .bool => true
 | .v (.string _), .str => true
 | _, _ => false
theorem Zal {x : AV} {k : CK} (h : kOk x k = true) : ckA x = some k := by
 unfold kOk at h
 split at h
 ·have := of_decide_eq_true h; subst this; rfl
 ·rfl
 ·rfl
 ·cases h
def kindsOk : List AV → List CK → Bool
 | [], [] => true
 | x :: xs, k :: ks => bif kOk x k then kindsOk xs ks else false
 | _, _ => false
theorem Z05 : ∀ (xs : List AV) (ks : List CK), kindsOk xs ks = true → xs.map ckA = ks.map some
 | [], [], _ => rfl
 | [], _ :: _, h => by simp [kindsOk] at h
 | _ :: _, [], h => by simp [kindsOk] at h
 | x :: xs, k :: ks, h => by
  simp only [kindsOk] at h
  cases hk : kOk x k with
  | false => rw [hk] at h; cases h
  | true => rw [hk] at h; simp [Zal hk, Z05 xs ks h]
def evAgg (P : Program) (b : BinOp) (t : TypeId) (us vs : List AV) : Option AV := match eqT P t with
 | some ks => bif kindsOk us ks then (bif kindsOk vs ks then (match b with | .eql => some (.v (.bool (eqAs us vs))) | .neq => some (.v (.bool (!(eqAs us vs)))) | _ => none) else none) else none
 | none => none
theorem Z8q {b : BinOp} {t t' : TypeId} {p q : Operand} {us vs : List AV} {z : AV} (ho : o.op = .binOp b t p q t') (hp : ev T p = some (.agg us)) (hq : ev T q = some (.agg vs)) (h : evAgg P b t us vs = some z) : Eff P o T [] z [] := by
 unfold evAgg at h
 split at h
 ·rename_i ks hk
  have := Zad hk
  cases h1 : kindsOk us ks with
  | false => rw [h1] at h; cases h
  | true =>
   cases h2 : kindsOk vs ks with
   | false => rw [h1, h2] at h; cases h
   | true =>
    rw [h1, h2] at h
    simp only [cond_true] at h
    split at h
    ·cases h; rw [Z3p]; exact Z01 ho hp hq (Z05 _ _ h1) (Z05 _ _ h2)
    ·cases h; rw [Z3p]; exact Z3n ho hp hq (Z05 _ _ h1) (Z05 _ _ h2)
    ·cases h
 ·cases h
theorem Zac {b : BinOp} {t t' e : TypeId} {p q : Operand} {x : AV} {z u : Bool} [hu : UD P t (.slice e)] (ho : o.op = .binOp b t p q t') (hp : ev T p = some x) (hq : ev T q = some (.v (.slice none 0 0)))
  (hx : ∀ C v, VR C x v → ∃ (ad : Option Addr) (n c : Nat), v = .slice ad n c ∧ ad.isNone = z) (hb : pcmp b z = some u) : Eff P o T [] (.v (.bool u)) [] :=
 Z6 (by intro c; rw [ho]; nofun) fun C H a w hw hn hv => by
  obtain ⟨ad, n, c, hy, hyn⟩ := hx C _ (hv p (by rw [ho]; simp [Op.operands]) _ hp)
  have h3 := VR.val (hv q (by rw [ho]; simp [Op.operands]) _ hq)
  refine ⟨.bool u, ?_, .v _⟩
  cases b <;> simp only [pcmp, Option.some.injEq, reduceCtorEq] at hb <;> subst hb
  ·simp [execOp, ho, hy, h3, eqGuard, binOp, Op.equal, Op.maxDepth, Lib.run_equalIn_slice_nil w 9999 t e ad n c 0 0 hu.ud, hyn, Sem.run_bind, Result.andThen]
  ·simp [execOp, ho, hy, h3, eqGuard, binOp, Op.equal, Op.maxDepth, Lib.run_equalIn_slice_nil w 9999 t e ad n c 0 0 hu.ud, hyn, Sem.run_bind, Result.andThen]
theorem Za9 {b : BinOp} {t t' e f : TypeId} {p q : Operand} {x : AV} {z u : Bool} [hu : UD P t (.map e f)] (ho : o.op = .binOp b t p q t') (hp : ev T p = some x) (hq : ev T q = some (.v (.map none)))
  (hx : ∀ C v, VR C x v → ∃ r : Option Nat, v = .map r ∧ r.isNone = z) (hb : pcmp b z = some u) : Eff P o T [] (.v (.bool u)) [] :=
 Z6 (by intro c; rw [ho]; nofun) fun C H a w hw hn hv => by
  obtain ⟨r, hy, hyn⟩ := hx C _ (hv p (by rw [ho]; simp [Op.operands]) _ hp)
  have h3 := VR.val (hv q (by rw [ho]; simp [Op.operands]) _ hq)
  refine ⟨.bool u, ?_, .v _⟩
  have hr : ∀ (d : Nat) (w : World), (Op.equalIn (d + 1) t (.map r) (.map none)).run P w = .ok r.isNone w := fun d w => by cases r <;> simp [Op.equalIn, Go.run_underlying hu.ud, Sem.run_bind, Result.andThen]
  cases b <;> simp only [pcmp, Option.some.injEq, reduceCtorEq] at hb <;> subst hb
  ·simp [execOp, ho, hy, h3, eqGuard, binOp, Op.equal, Op.maxDepth, hr 9999 w, hyn, Sem.run_bind, Result.andThen]
  ·simp [execOp, ho, hy, h3, eqGuard, binOp, Op.equal, Op.maxDepth, hr 9999 w, hyn, Sem.run_bind, Result.andThen]
def mnil : AV → Option Bool
 | .v (.map none) => some true
 | .map _ => some false
 | _ => none
theorem Z96 {x : AV} {z : Bool} (h : mnil x = some z) (C : Ctx) (v : Value) (hv : VR C x v) : ∃ r : Option Nat, v = .map r ∧ r.isNone = z := by
 unfold mnil at h
 split at h
 ·cases h; exact ⟨none, VR.val hv, rfl⟩
 ·cases h
  cases hv with
  | map => exact ⟨_, rfl, rfl⟩
 ·cases h
def snil : AV → Option Bool
 | .v (.slice none 0 0) => some true
 | .own _ _ _ (_ + 1) => some false
 | .lst (_ :: _) => some false
 | _ => none
theorem Z9m {x : AV} {z : Bool} (h : snil x = some z) (C : Ctx) (v : Value) (hv : VR C x v) : ∃ (ad : Option Addr) (n c : Nat), v = .slice ad n c ∧ ad.isNone = z := by
 unfold snil at h
 split at h
 ·cases h; exact ⟨none, 0, 0, VR.val hv, rfl⟩
 ·cases h
  cases hv with
  | own => exact ⟨_, _, _, rfl, rfl⟩
 ·cases h
  cases hv with
  | lst => exact ⟨_, _, _, rfl, rfl⟩
 ·cases h
def evBin (P : Program) (b : BinOp) (t : TypeId) (x y : AV) : Option AV := match x, y with
 | .v (.int k u), .v (.int k' v) => match shBin b k u v with
  | some z => some z
  | none => if k = k' then intBin b k u v else none
 | .v (.string u), .v (.string v) => strBin b u v
 | .v (.bool u), .v (.bool v) => match P.underlying t with
  | some .bool => (match b with | .eql => some (.v (.bool (u == v))) | .neq => some (.v (.bool (!(u == v)))) | _ => none)
  | _ => none
 | .agg us, .agg vs => evAgg P b t us vs
 | .v (.pointer none), .v (.pointer none) => match P.underlying t with
  | some (.pointer _) => (match pcmp b true with | some z => some (.v (.bool z)) | none => none)
  | _ => none
 | .ptr _ _ _ _, .v (.pointer none) => match P.underlying t with
  | some (.pointer _) => (match pcmp b false with | some z => some (.v (.bool z)) | none => none)
  | _ => none
 | x, .v (.slice none 0 0) => match P.underlying t, snil x with
  | some (.slice _), some z => (match pcmp b z with | some u => some (.v (.bool u)) | none => none)
  | _, _ => none
 | x, .v (.map none) => match P.underlying t, mnil x with
  | some (.map _ _), some z => (match pcmp b z with | some u => some (.v (.bool u)) | none => none)
  | _, _ => none
 | _, _ => none
theorem Z8r {b : BinOp} {t t' : TypeId} {p q : Operand} {x y z : AV} (ho : o.op = .binOp b t p q t') (hp : ev T p = some x) (hq : ev T q = some y) (h : evBin P b t x y = some z) : Eff P o T [] z [] := by
 unfold evBin at h
 split at h
 ·split at h
  ·rename_i hz; cases h; exact Z9l ho hp hq hz
  ·split at h
   ·rename_i e; subst e; exact Z7w ho hp hq h
   ·cases h
 ·exact Z81 ho hp hq h
 ·split at h
  ·rename_i hu
   have : UD P t .bool := ⟨hu⟩
   split at h <;> first | (cases h; exact Zbe ho hp hq rfl) | cases h
  ·cases h
 ·exact Z8q ho hp hq h
 ·split at h
  ·rename_i e hu
   have : UD P t (.pointer e) := ⟨hu⟩
   split at h
   ·rename_i z hz; cases h; exact Z5i ho hp hq hz
   ·cases h
  ·cases h
 ·split at h
  ·rename_i e hu
   have : UD P t (.pointer e) := ⟨hu⟩
   split at h
   ·rename_i z hz; cases h; exact Z5j ho hp hq hz
   ·cases h
  ·cases h
 ·split at h
  ·rename_i e z hu hz
   have : UD P t (.slice e) := ⟨hu⟩
   split at h
   ·rename_i u hb; cases h; exact Zac ho hp hq (Z9m hz) hb
   ·cases h
  ·cases h
 ·split at h
  ·rename_i e f z hu hz
   have : UD P t (.map e f) := ⟨hu⟩
   split at h
   ·rename_i u hb; cases h; exact Za9 ho hp hq (Z96 hz) hb
   ·cases h
  ·cases h
 ·cases h
theorem Z8l {s t : TypeId} {p : Operand} {x : ByteArray} {d : TypeDesc} [h : UD P s d] [h' : UD P t .string] (ho : o.op = .convert s t p) (hp : ev T p = some (.v (.string x))) : Eff P o T [] (.v (.string x)) [] :=
 Z6 (by intro c; rw [ho]; nofun) fun C H a w hw hn hv => by
  have h2 := VR.val (hv p (by rw [ho]; simp [Op.operands]) _ hp)
  refine ⟨.string x, ?_, .v _⟩
  cases d <;> simp [execOp, ho, h2, convert, run_underlying (t := s), run_underlying (t := t) (d := .string), Sem.run_bind, Result.andThen]
def evConv (P : Program) (s t : TypeId) (x : AV) : Option AV := match x with
 | .v (.int k u) => match P.underlying s, P.underlying t with
  | some _, some (.int k') => some (.v (.int k' (k'.wrap u)))
  | _, _ => none
 | .v (.string u) => match P.underlying s, P.underlying t with
  | some _, some .string => some (.v (.string u))
  | _, _ => none
 | _ => none
theorem Z7s {s t : TypeId} {p : Operand} {x z : AV} (ho : o.op = .convert s t p) (hp : ev T p = some x) (h : evConv P s t x = some z) : Eff P o T [] z [] := by
 unfold evConv at h
 split at h
 ·split at h
  ·rename_i d k' h1 h2
   have : UD P s d := ⟨h1⟩
   have : UD P t (.int k') := ⟨h2⟩
   cases h; exact Z0b ho hp
  ·cases h
 ·split at h
  ·rename_i d h1 h2
   have : UD P s d := ⟨h1⟩
   have : UD P t .string := ⟨h2⟩
   cases h; exact Z8l ho hp
  ·cases h
 ·cases h
def evB (T : Tr AV) (d : Nat) : Option Operand → Option Nat
 | none => some d
 | some q => match evT T q with
  | some (.v (.int _ i)) => if 0 ≤ i then some i.toNat else none
  | _ => none
def BndOk (d l : Nat) (x : Option Value) : Prop := (x = none ∧ l = d) ∨ ∃ k, x = some (.int k (l : Int))
theorem Z1f {Tr0 : Tr AV} {C : Ctx} {a : Act} {d l : Nat} {lo : Option Operand} (h : evB Tr0 d lo = some l) (hv : ∀ p, p ∈ lo.toList → ∀ y, ev Tr0.ls p = some y → VR C y (a.eval p)) : BndOk d l (lo.map a.eval) := by
 cases lo with
 | none => simp only [evB, Option.some.injEq] at h; exact .inl ⟨rfl, h.symm⟩
 | some q =>
  simp only [evB] at h
  split at h
  ·rename_i k i hq
   split at h
   ·rename_i h0
    simp only [Option.some.injEq] at h
    have := VR.val (hv q (by simp) _ (by rw [Z9]; exact hq))
    exact .inr ⟨k, by simp [this]; omega⟩
   ·cases h
  ·cases h
theorem Z2s {P : Program} {b : Bool} {len cap l h : Nat} {lo hi : Option Value} (hlo : BndOk 0 l lo) (hhi : BndOk len h hi) (h1 : l ≤ h) (h2 : h ≤ len) (h3 : len ≤ cap) (w : World) :
  (Instr.sliceBounds b len cap lo hi none).run P w = .ok (l, h, cap) w := by
 have q1 : ∀ k code, (Instr.sliceBound (.int k (h : Int)) cap code).run P w = .ok h w := fun k code => by rw [Z61 (k := k) (i := (h : Int)) rfl (by omega) (by omega)]; simp
 have q2 : ∀ k code, (Instr.sliceBound (.int k (l : Int)) h code).run P w = .ok l w := fun k code => by rw [Z61 (k := k) (i := (l : Int)) rfl (by omega) (by omega)]; simp
 rcases hlo with ⟨rfl, rfl⟩ | ⟨k, rfl⟩ <;> rcases hhi with ⟨rfl, rfl⟩ | ⟨k', rfl⟩ <;>
  simp [Instr.sliceBounds, q1, q2, Sem.run_bind, Sem.run_pure, Result.andThen]
def cutOwn (id sz off l h : Nat) : AV := match l with
 | 0 => .own id sz off h
 | l' + 1 => bif Nat.blt (l' + 1) h then .own id sz (off + (l' + 1)) (h - (l' + 1)) else .lst []
theorem Z5k {Tr0 : Tr AV} {t e n : Nat} {b : Bool} {p : Operand} {lo hi : Option Operand} {id off len l h : Nat} [hu : UD P t (.slice e)] [k1 : TK P e b n] (ho : o.op = .slice t p lo hi none)
  (hp : ev Tr0.ls p = some (.own id n off len)) (hlo : evB Tr0 0 lo = some l) (hhi : evB Tr0 len hi = some h) (h1 : l ≤ h) (h2 : h ≤ len) : Eff P o Tr0.ls [] (cutOwn id n off l h) [] :=
 Z6 (by intro c; rw [ho]; nofun) fun C H a w hw hn hv => by
  have hmem : ∀ q, q ∈ lo.toList ∨ q ∈ hi.toList → q ∈ o.op.operands := by
   intro q hq; rw [ho]; simp only [Op.operands]
   rcases hq with hq | hq
   ·cases lo with
    | none => simp at hq
    | some x => simp at hq; subst hq; simp
   ·cases hi with
    | none => simp at hq
    | some x => simp at hq; subst hq; simp
  have hpv := hv p (by rw [ho]; simp [Op.operands]) _ hp
  have b1 := Z1f (C := C) (a := a) hlo (fun q hq y hy => hv q (hmem q (.inl hq)) y hy)
  have b2 := Z1f (C := C) (a := a) hhi (fun q hq y hy => hv q (hmem q (.inr hq)) y hy)
  generalize hpe : a.eval p = u at hpv
  have key : ∀ (ad : Option Addr) (cap : Nat), u = .slice ad len cap → len ≤ cap → (execOp a.eval o).run P w = .ok (.value (.slice (if cap = l then ad else ad.map (·.add (l * n))) (h - l) (cap - l))) w := by
   rintro ad cap rfl hc
   simp [execOp, ho, Instr.sliceAt, Instr.slice, hpe, Go.run_underlying hu.ud, Z2s b1 b2 h1 h2 hc, Ze k1.tk, Sem.run_bind, Sem.run_pure, Result.andThen]
  cases hpv with
  | own _ _ _ _ bb N cap hid hun hcap hlen hml =>
   refine ⟨_, key _ cap rfl hlen, ?_⟩
   cases l with
   | zero =>
    have e1 : (if cap = 0 then some (⟨bb, off * n, none⟩ : Addr) else (some (⟨bb, off * n, none⟩ : Addr)).map (·.add (0 * n))) = some ⟨bb, off * n, none⟩ := by
     split
     ·rfl
     ·simp [Addr.add]
    rw [e1]
    exact .own id n off h bb N cap hid hun hcap (by omega) hml
   | succ l =>
    simp only [cutOwn]
    cases hb : Nat.blt (l + 1) h with
    | true =>
     have hlt : l + 1 < h := by rw [Nat.blt_eq] at hb; exact hb
     rw [if_neg (by omega), cond_true]
     have e1 : ((some (⟨bb, off * n, none⟩ : Addr)).map (·.add ((l + 1) * n))) = some ⟨bb, (off + (l + 1)) * n, none⟩ := by
      rw [Option.map_some, Z1z, ← Nat.add_mul]
     rw [e1]
     exact .own id n (off + (l + 1)) (h - (l + 1)) bb N (cap - (l + 1)) hid hun (by rw [show off + (l + 1) + (cap - (l + 1)) = off + cap from by omega]; exact hcap) (by omega) (by omega)
    | false =>
     have hge : ¬ l + 1 < h := fun hx => by rw [← Nat.blt_eq] at hx; rw [hx] at hb; cases hb
     have e0 : h - (l + 1) = 0 := by omega
     rw [cond_false, e0]
     have e1 : ∃ ad, (if cap = l + 1 then some (⟨bb, off * n, none⟩ : Addr) else (some (⟨bb, off * n, none⟩ : Addr)).map (·.add ((l + 1) * n))) = some ad := by split <;> exact ⟨_, rfl⟩
     obtain ⟨ad, e1⟩ := e1
     rw [e1]
     exact VR.lst [] ad n (cap - (l + 1)) #[] 0 (0, 0) (fun _ _ => undef) (fun h => absurd rfl h) (fun h => absurd rfl h) nofun (fun i e j c hx => by simp at hx) (fun i e j c hx => by simp at hx) (fun i e j c hx => by simp at hx) (Nat.zero_le _)
  | ownNil _ _ hid hun =>
   have hl0 : l = 0 := by omega
   have hh0 : h = 0 := by omega
   subst hl0; subst hh0
   exact ⟨_, key none 0 rfl (Nat.le_refl _), by simpa [cutOwn] using VR.ownNil (C := C) id n hid hun⟩
theorem Z5l {Tr0 : Tr AV} {t : Nat} {p : Operand} {lo hi : Option Operand} {x : ByteArray} {l h : Nat} [hu : UD P t .string] (ho : o.op = .slice t p lo hi none)
  (hp : ev Tr0.ls p = some (.v (.string x))) (hlo : evB Tr0 0 lo = some l) (hhi : evB Tr0 x.size hi = some h) (h1 : l ≤ h) (h2 : h ≤ x.size) : Eff P o Tr0.ls [] (.v (.string (x.extract l h))) [] :=
 Z6 (by intro c; rw [ho]; nofun) fun C H a w hw hn hv => by
  have hmem : ∀ q, q ∈ lo.toList ∨ q ∈ hi.toList → q ∈ o.op.operands := by
   intro q hq; rw [ho]; simp only [Op.operands]
   rcases hq with hq | hq
   ·cases lo with
    | none => simp at hq
    | some x => simp at hq; subst hq; simp
   ·cases hi with
    | none => simp at hq
    | some x => simp at hq; subst hq; simp
  have hpv := VR.val (hv p (by rw [ho]; simp [Op.operands]) _ hp)
  have b1 := Z1f (C := C) (a := a) hlo (fun q hq y hy => hv q (hmem q (.inl hq)) y hy)
  have b2 := Z1f (C := C) (a := a) hhi (fun q hq y hy => hv q (hmem q (.inr hq)) y hy)
  refine ⟨_, ?_, .v _⟩
  simp [execOp, ho, Instr.sliceAt, Instr.slice, hpv, Go.run_underlying hu.ud, Z2s b1 b2 h1 h2 (Nat.le_refl _), Sem.run_bind, Sem.run_pure, Result.andThen]
theorem Z4x {Tr0 : Tr AV} {t e n : Nat} {b : Bool} {p : Operand} {lo hi : Option Operand} [hu : UD P t (.slice e)] [k1 : TK P e b n] (ho : o.op = .slice t p lo hi none)
  (hp : ev Tr0.ls p = some (.v (.slice none 0 0))) (hlo : evB Tr0 0 lo = some 0) (hhi : evB Tr0 0 hi = some 0) : Eff P o Tr0.ls [] (.v (.slice none 0 0)) [] :=
 Z6 (by intro c; rw [ho]; nofun) fun C H a w hw hn hv => by
  have hmem : ∀ q, q ∈ lo.toList ∨ q ∈ hi.toList → q ∈ o.op.operands := by
   intro q hq; rw [ho]; simp only [Op.operands]
   rcases hq with hq | hq
   ·cases lo with
    | none => simp at hq
    | some x => simp at hq; subst hq; simp
   ·cases hi with
    | none => simp at hq
    | some x => simp at hq; subst hq; simp
  have hpv := VR.val (hv p (by rw [ho]; simp [Op.operands]) _ hp)
  have b1 := Z1f (C := C) (a := a) hlo (fun q hq y hy => hv q (hmem q (.inl hq)) y hy)
  have b2 := Z1f (C := C) (a := a) hhi (fun q hq y hy => hv q (hmem q (.inr hq)) y hy)
  refine ⟨_, ?_, .v _⟩
  simp [execOp, ho, Instr.sliceAt, Instr.slice, hpv, Go.run_underlying hu.ud, Z2s b1 b2 (Nat.le_refl _) (Nat.le_refl _) (Nat.le_refl _), Ze k1.tk, Sem.run_bind, Sem.run_pure, Result.andThen]
def evSlice (P : Program) (T : Tr AV) (t : TypeId) (x : AV) (lo hi : Option Operand) : Option AV := match x with
 | .own id sz off len => match P.underlying t with
  | some (.slice e) => match P.tk e with
   | some (_, n) => match evB T 0 lo, evB T len hi with
    | some l, some h => if n = sz ∧ l ≤ h ∧ h ≤ len then some (cutOwn id sz off l h) else none
    | _, _ => none
   | none => none
  | _ => none
 | .v (.string s) => match P.underlying t with
  | some .string => match evB T 0 lo, evB T s.size hi with
   | some l, some h => if l ≤ h ∧ h ≤ s.size then some (.v (.string (s.extract l h))) else none
   | _, _ => none
  | _ => none
 | .v (.slice none 0 0) => match P.underlying t with
  | some (.slice e) => match P.tk e with
   | some (_, n) => match evB T 0 lo, evB T 0 hi with
    | some 0, some 0 => some (.v (.slice none 0 0))
    | _, _ => none
   | none => none
  | _ => none
 | _ => none
theorem Z6o {Tr0 : Tr AV} {t : TypeId} {p : Operand} {lo hi : Option Operand} {x z : AV} (ho : o.op = .slice t p lo hi none) (hp : ev Tr0.ls p = some x) (h : evSlice P Tr0 t x lo hi = some z) : Eff P o Tr0.ls [] z [] := by
 unfold evSlice at h
 split at h
 ·split at h
  ·rename_i e hu
   have : UD P t (.slice e) := ⟨hu⟩
   split at h
   ·rename_i b n hk
    have : TK P e b n := ⟨hk⟩
    split at h
    ·rename_i l hh hl hh2
     split at h
     ·rename_i hc
      obtain ⟨rfl, h1, h2⟩ := hc
      cases h
      exact Z5k ho hp hl hh2 h1 h2
     ·cases h
    ·cases h
   ·cases h
  ·cases h
 ·split at h
  ·rename_i hu
   have : UD P t .string := ⟨hu⟩
   split at h
   ·rename_i l hh hl hh2
    split at h
    ·rename_i hc; cases h; exact Z5l ho hp hl hh2 hc.1 hc.2
    ·cases h
   ·cases h
  ·cases h
 ·split at h
  ·rename_i e hu
   have : UD P t (.slice e) := ⟨hu⟩
   split at h
   ·rename_i b n hk
    have : TK P e b n := ⟨hk⟩
    split at h
    ·rename_i hl hh2; cases h; exact Z4x ho hp hl hh2
    ·cases h
   ·cases h
  ·cases h
 ·cases h
def evIdxA (P : Program) (t : TypeId) (x : AV) (k : Int) : Option AV := match x with
 | .own id sz off len => match P.underlying t with
  | some (.slice e) => match P.tk e with
   | some (_, n) => if n = sz ∧ 0 ≤ k ∧ k < len then some (.ptr id sz (off + k.toNat) 0) else none
   | none => none
  | _ => none
 | .lst es => match P.underlying t with
  | some (.slice e) => match P.tk e with
   | some (_, n) => bif es.all (fun l => Nat.beq l.length n) then (if 0 ≤ k ∧ k < es.length then some (.elt es k.toNat 0) else none) else none
   | none => none
  | _ => none
 | y => match P.underlying t with
  | some (.array m e) => match P.tk e with
   | some (_, n) => if 0 ≤ k ∧ k < m then plus y (k.toNat * n) else none
   | none => none
  | _ => none
theorem Z7t {t : TypeId} {p q : Operand} {x z : AV} {kd : IntKind} {k : Int} (ho : o.op = .indexAddr t p q) (hp : ev T p = some x) (hq : ev T q = some (.v (.int kd k))) (h : evIdxA P t x k = some z) : Eff P o T [] z [] := by
 unfold evIdxA at h
 split at h
 ·split at h
  ·rename_i e hu
   have : UD P t (.slice e) := ⟨hu⟩
   split at h
   ·rename_i b n hk
    have : TK P e b n := ⟨hk⟩
    split at h
    ·rename_i hc; obtain ⟨rfl, h1, h2⟩ := hc; cases h; exact Z2m ho hp hq h1 h2
    ·cases h
   ·cases h
  ·cases h
 ·rename_i es
  split at h
  ·rename_i e hu
   have : UD P t (.slice e) := ⟨hu⟩
   split at h
   ·rename_i b n hk
    have : TK P e b n := ⟨hk⟩
    cases ha : es.all (fun l => Nat.beq l.length n) with
    | false => rw [ha] at h; cases h
    | true =>
     rw [ha, cond_true] at h
     split at h
     ·rename_i hc; cases h; exact Z2l ho hp hq (fun l' hl => Nat.eq_of_beq_eq_true (List.all_eq_true.1 ha l' hl)) hc.1 hc.2
     ·cases h
   ·cases h
  ·cases h
 ·split at h
  ·rename_i m e hu
   have : UD P t (.array m e) := ⟨hu⟩
   split at h
   ·rename_i b n hk
    have : TK P e b n := ⟨hk⟩
    split at h
    ·rename_i hc; exact Z2k ho hp hq hc.1 hc.2 h
    ·cases h
   ·cases h
  ·cases h
def evBuilt (P : Program) (b : Builtin) (xs : List AV) (ts : List TypeId) : Option AV := match b, xs, ts with
 | .len, [x], [t] => match P.underlying t, lenA x with
  | some d, some n => bif lenT x d then some (.v (.int .i64 n)) else none
  | _, _ => none
 | .min, [.v (.int k x), .v (.int k' y)], _ => if k = k' then some (.v (.int k (if y < x then y else x))) else none
 | _, _, _ => none
theorem Zf5 {α : Type} {a : Array α} {x : α} (h : a.toList = [x]) : a = #[x] := by apply Array.ext'; simpa using h
theorem Zbc {α : Type} {a : Array α} {x y : α} (h : a.toList = [x, y]) : a = #[x, y] := by apply Array.ext'; simpa using h
theorem Zf6 {ps : List Operand} {x : AV} (h : evs T ps = some [x]) : ∃ p, ps = [p] ∧ ev T p = some x := by
 match ps with
 | [] => simp [evs] at h
 | [p] =>
  simp only [evs] at h
  split at h
  ·rename_i y ys h1 h2; simp at h2; subst h2; simp at h; subst h; exact ⟨p, rfl, h1⟩
  ·cases h
 | p :: q :: r =>
  simp only [evs] at h
  split at h
  ·rename_i y ys h1 h2
   split at h2
   ·simp at h2; subst h2; simp at h
   ·cases h2
  ·cases h
theorem Zfd {ps : List Operand} {x y : AV} (h : evs T ps = some [x, y]) : ∃ p q, ps = [p, q] ∧ ev T p = some x ∧ ev T q = some y := by
 match ps with
 | [] => simp [evs] at h
 | p :: r =>
  simp only [evs] at h
  split at h
  ·rename_i z zs h1 h2
   simp only [Option.some.injEq, List.cons.injEq] at h
   obtain ⟨rfl, rfl⟩ := h
   obtain ⟨q, rfl, hq⟩ := Zf6 h2
   exact ⟨p, q, rfl, h1, hq⟩
  ·cases h
theorem Z6m {b : Builtin} {args : Array Operand} {ats : Array TypeId} {xs : List AV} {z : AV} (ho : o.op = .call { callee := .builtin b, args := args, argTypes := ats }) (hp : evs T args.toList = some xs) (h : evBuilt P b xs ats.toList = some z) : Eff P o T [] z [] := by
 unfold evBuilt at h
 split at h
 ·rename_i x t hts
  obtain ⟨p, h1, h2⟩ := Zf6 hp
  have e1 := Zf5 h1
  have e2 := Zf5 hts
  subst e1; subst e2
  split at h
  ·rename_i d n hu hl
   have : UD P t d := ⟨hu⟩
   cases hd : lenT x d with
   | false => rw [hd] at h; cases h
   | true => rw [hd] at h; cases h; exact Z3l ho h2 hl hd
  ·cases h
 ·rename_i k x k' y _
  obtain ⟨p, q, h1, h2, h3⟩ := Zfd hp
  have e1 := Zbc h1
  subst e1
  split at h
  ·rename_i e; subst e; cases h; exact Zbg ho h2 h3
  ·cases h
 ·cases h
def evLoad (P : Program) (H : Hp) (t : TypeId) (x : AV) : Option AV := match x with
 | .ptr id sz i c => match H.get id with
  | some (.rows _ sz' es) => if sz = sz' then (match es[i]? with | some e => ldA P t (e.drop c) | none => none) else none
  | _ => none
 | .elt es i c => match es[i]? with | some e => ldA P t (e.drop c) | none => none
 | _ => none
def evBuild (P : Program) (t : TypeId) (is : List Nat) (xs : List AV) : Option AV := match P.places t, P.zc t with
 | some pl, some zs => match fillA (pl[·]?) (zs.map .v) (is.zip xs) with
  | some cs => some (.agg cs)
  | none => none
 | _, _ => none
def evExt (P : Program) (f : Nat) (xs : List AV) : Option AV := match P.funcs[f]? with
 | some fn => bif fn.body.isNone && fn.origin == "" then (match xs with
  | [.v (.string s), .v (.int .u8 c)] => bif fn.name == "internal/bytealg.IndexByteString" then some (.v (.int .i64 (Lib.indexByte s.data.toList c.toNat.toUInt8))) else none
  | [.v (.string s), .v (.string t)] => bif fn.name == "internal/bytealg.abigen_runtime_cmpstring" then some (.v (.int .i64 (Lib.compareBytes s.data.toList t.data.toList))) else none
  | _ => none) else none
 | none => none
theorem Z77 {fn : Func} {nm : String} {e : Array Value → Sem Value} (h1 : (fn.name == nm) = true) (h2 : (fn.origin == "") = true) (k1 : Extern.allGenericRows.lookup nm = none) (k2 : Extern.allTypedRows.lookup nm = none) (k3 : Extern.allRows.lookup nm = some e)
  (k4 : Extern.allNextRows.lookup nm = none) (k5 : Extern.allNextRows.lookup "" = none) : Extern.findNext fn = none ∧ Extern.find fn = some e := by
 have e1 := eq_of_beq h1
 have e2 := eq_of_beq h2
 constructor
 ·simp [Extern.findNext, e1, e2, k4, k5]
 ·simp [Extern.find, e1, k1, k2, k3]
theorem Zb1 {T : List (Nat × AV)} : ∀ (ps : List Operand) (xs : List AV), evs T ps = some xs → ps.length = xs.length
 | [], xs, h => by simp only [evs, Option.some.injEq] at h; subst h; rfl
 | p :: r, xs, h => by
  simp only [evs] at h
  split at h
  ·rename_i y ys e1 e2
   cases h
   simp [Zb1 r ys e2]
  ·cases h
theorem Z8w {f : Nat} {args : Array Operand} {ats : Array TypeId} {T : List (Nat × AV)} {xs : List AV} {x : AV} (ho : o.op = .call ⟨.value (.func f), args, ats⟩) (h1 : evs T args.toList = some xs) (h : evExt P f xs = some x) : Eff P o T [] x [] := by
 unfold evExt at h
 split at h
 ·rename_i fn hf
  cases hb : (fn.body.isNone && fn.origin == "") with
  | false => rw [hb] at h; cases h
  | true =>
   rw [hb, cond_true] at h
   rw [Bool.and_eq_true] at hb
   have main : ∀ (nm : String) (e : Array Value → Sem Value) (v a1 a2 : Value), xs = [.v a1, .v a2] → (fn.name == nm) = true → (nm == "runtime.NumGoroutine") = false → Extern.findNext fn = none ∧ Extern.find fn = some e → (∀ w, (e #[a1, a2]).run P w = .ok v w) → Eff P o T [] (.v v) [] := by
    rintro nm e v a1 a2 rfl hn hg hx hrun
    obtain ⟨p, q, hpq, hp, hq⟩ : ∃ p q, args.toList = [p, q] ∧ ev T p = some (.v a1) ∧ ev T q = some (.v a2) := by
     match hl : args.toList with
     | [] => rw [hl] at h1; simp [evs] at h1
     | [p] =>
      rw [hl] at h1
      simp only [evs] at h1
      split at h1 <;> simp_all
     | [p, q] =>
      rw [hl] at h1
      refine ⟨p, q, rfl, ?_⟩
      simp only [evs] at h1
      split at h1
      ·rename_i y ys e1 e2
       split at e2
       ·rename_i z zs e3 e4
        simp_all
       ·cases e2
      ·cases h1
     | p :: q :: r :: l =>
      have := Zb1 _ _ h1
      rw [hl] at this
      simp at this
    have hargs : args = #[p, q] := by apply Array.ext'; simpa using hpq
    subst hargs
    refine Z6 (by intro c; rw [ho]; nofun) fun C H a w hw hH hv => ?_
    have g1 := VR.val (hv p (by rw [ho]; simp [Op.operands, Call.operands]) _ hp)
    have g2 := VR.val (hv q (by rw [ho]; simp [Op.operands, Call.operands]) _ hq)
    have key := run_callFunc_extern hf (by rw [eq_of_beq hn]; exact hg) hb.1 hx.1 hx.2 #[a1, a2] w
    rw [hrun w] at key
    refine ⟨v, ?_, .v _⟩
    simp only [execOp, ho, Sem.run_bind, resolve, Deferred.ofValue, Sem.run_pure, Result.andThen, invoke, Act.eval]
    simpa [g1, g2, Result.andThen] using key
   split at h
   ·rename_i s c
    cases hn : (fn.name == "internal/bytealg.IndexByteString") with
    | false => rw [hn] at h; cases h
    | true =>
     rw [hn] at h
     cases h
     exact main _ Extern.BytealgIndexByte.indexByte _ _ _ rfl hn (by kernel_rfl) (Z77 hn hb.2 (by kernel_rfl) (by kernel_rfl) (by kernel_rfl) (by kernel_rfl) (by kernel_rfl)) fun w => Lib.run_indexByteString s c w
   ·rename_i s t
    cases hn : (fn.name == "internal/bytealg.abigen_runtime_cmpstring") with
    | false => rw [hn] at h; cases h
    | true =>
     rw [hn] at h
     cases h
     exact main _ Extern.BytealgCompare.compare _ _ _ rfl hn (by kernel_rfl) (Z77 hn hb.2 (by kernel_rfl) (by kernel_rfl) (by kernel_rfl) (by kernel_rfl) (by kernel_rfl)) fun w => Lib.run_compareString s t w
   ·cases h
 ·cases h
def evPure (P : Program) (T : Tr AV) (H : Hp) (op : Op) : Option AV := match op with
 | .move p => evT T p
 | .assign p => evT T p
 | .pick c p q => match evT T c, evT T p, evT T q with
  | some (.v (.bool b)), some x, some y => some (if b then x else y)
  | _, _, _ => none
 | .nilCheck p => match evT T p with
  | some x => bif isPtr x then some x else none
  | none => none
 | .load t p => match evT T p with
  | some x => evLoad P H t x
  | none => none
 | .binOp b t p q _ => match evT T p, evT T q with
  | some x, some y => evBin P b t x y
  | _, _ => none
 | .unOp .not _ p => match evT T p with
  | some (.v (.bool x)) => some (.v (.bool (!x)))
  | _ => none
 | .convert s t p => match evT T p with
  | some x => evConv P s t x
  | none => none
 | .makeFunc f first caps => match first.toList, evTs T caps.toList with
  | [], some xs => some (.fn f xs)
  | _, _ => none
 | .slice t p lo hi none => match evT T p with
  | some x => evSlice P T t x lo hi
  | none => none
 | .fieldAddr s p f => match P.fo s f, evT T p with
  | some (off, _), some y => plus y off
  | _, _ => none
 | .field s p f => match P.fo s f, evT T p with
  | some (off, ft), some (.agg cs) => match P.tk ft with
   | some (b, n) => partA b n off cs
   | none => none
  | _, _ => none
 | .indexAddr t p q => match evT T p, evT T q with
  | some x, some (.v (.int _ k)) => evIdxA P t x k
  | _, _ => none
 | .index t p q => match evT T p, evT T q with
  | some (.v (.string u)), some (.v (.int _ i)) => match P.underlying t with
   | some .string => if 0 ≤ i ∧ i < u.size then some (.v (.int .u8 (byteAt u i))) else none
   | _ => none
  | _, _ => none
 | .extract p i => match evT T p with
  | some (.tup cs) => cs[i]?
  | _ => none
 | .build t ps => match evTs T (ps.toList.map Prod.snd) with
  | some xs => evBuild P t (ps.toList.map Prod.fst) xs
  | none => none
 | .call ⟨.builtin b, args, ats⟩ => match evTs T args.toList with
  | some xs => evBuilt P b xs ats.toList
  | none => none
 | .call ⟨.value (.func f), args, _⟩ => match evTs T args.toList with
  | some xs => evExt P f xs
  | none => none
 | _ => none
def SubH (H : Hp) (Hl : AHeap) : Prop := ∀ i ob, H.get i = some ob → (i, ob) ∈ Hl
theorem Z1g {T : Tr AV} {H : Hp} {x : AV} (h : evPure P T H o.op = some x) : ∃ Hn : AHeap, Eff P o T.ls Hn x [] ∧ ∀ p, p ∈ Hn → H.get p.1 = some p.2 := by
 have simple : Eff P o T.ls [] x [] → ∃ Hn : AHeap, Eff P o T.ls Hn x [] ∧ ∀ p, p ∈ Hn → H.get p.1 = some p.2 := fun h => ⟨[], h, nofun⟩
 unfold evPure at h
 split at h
 ·rename_i p ho; exact simple (Z0g ho (by rw [Z9]; exact h))
 ·rename_i p ho; exact simple (Zp ho (by rw [Z9]; exact h))
 ·rename_i c p q ho
  split at h
  ·rename_i b x y h1 h2 h3; cases h; exact simple (Z06 ho (by rw [Z9]; exact h1) (by rw [Z9]; exact h2) (by rw [Z9]; exact h3))
  ·cases h
 ·rename_i p ho
  split at h
  ·rename_i y hy
   cases hp : isPtr y with
   | false => rw [hp] at h; cases h
   | true => rw [hp] at h; cases h; exact simple (Z04 ho (by rw [Z9]; exact hy) hp)
  ·cases h
 ·rename_i t p ho
  split at h
  ·rename_i y hy
   unfold evLoad at h
   split at h
   ·rename_i id sz i c
    split at h
    ·rename_i el sz' es hg
     split at h
     ·rename_i e; subst e
      split at h
      ·rename_i e he
       exact ⟨[(id, .rows el sz es)], Z0x (y := .ptr id sz i c) (l := e.drop c) ho (by rw [Z9]; exact hy) ⟨el, es, e, List.mem_cons_self, he, rfl⟩ (Z1i h), fun p hp => by rw [List.mem_singleton.1 hp]; exact hg⟩
      ·cases h
     ·cases h
    ·cases h
   ·rename_i es i c
    split at h
    ·rename_i e he
     exact simple (Z0x (y := .elt es i c) (l := e.drop c) ho (by rw [Z9]; exact hy) ⟨e, he, rfl⟩ (Z1i h))
    ·cases h
   ·cases h
  ·cases h
 ·rename_i b t p q t' ho
  split at h
  ·rename_i x y h1 h2; exact simple (Z8r ho (by rw [Z9]; exact h1) (by rw [Z9]; exact h2) h)
  ·cases h
 ·rename_i t p ho
  split at h
  ·rename_i x h1; cases h; exact simple (Z2o ho (by rw [Z9]; exact h1))
  ·cases h
 ·rename_i s t p ho
  split at h
  ·rename_i x h1; exact simple (Z7s ho (by rw [Z9]; exact h1) h)
  ·cases h
 ·rename_i f first caps ho
  split at h
  ·rename_i xs h1 h2
   cases h
   have e : first = #[] := by apply Array.ext'; simpa using h1
   subst e
   exact simple (Z5h ho (by rw [Z2d]; exact h2))
  ·cases h
 ·rename_i t p lo hi ho
  split at h
  ·rename_i x h1; exact simple (Z6o ho (by rw [Z9]; exact h1) h)
  ·cases h
 ·rename_i s p f ho
  split at h
  ·rename_i off ft y h1 h2
   have : FO P s f off ft := ⟨h1⟩
   exact simple (Zz ho (by rw [Z9]; exact h2) h)
  ·cases h
 ·rename_i s p f ho
  split at h
  ·rename_i off ft cs h1 h2
   have : FO P s f off ft := ⟨h1⟩
   split at h
   ·rename_i b n hk
    have : TK P ft b n := ⟨hk⟩
    exact simple (Z8n ho (by rw [Z9]; exact h2) h)
   ·cases h
  ·cases h
 ·rename_i t p q ho
  split at h
  ·rename_i x kd k h1 h2; exact simple (Z7t ho (by rw [Z9]; exact h1) (by rw [Z9]; exact h2) h)
  ·cases h
 ·rename_i t p q ho
  split at h
  ·rename_i u kd i h1 h2
   split at h
   ·rename_i hu
    have : UD P t .string := ⟨hu⟩
    split at h
    ·rename_i hc; cases h; exact simple (Z26 ho (by rw [Z9]; exact h1) (by rw [Z9]; exact h2) hc.1 hc.2)
    ·cases h
   ·cases h
  ·cases h
 ·rename_i p i ho
  split at h
  ·rename_i cs h1; exact simple (Zm ho (by rw [Z9]; exact h1) h)
  ·cases h
 ·rename_i t ps ho
  split at h
  ·rename_i xs h1
   unfold evBuild at h
   split at h
   ·rename_i pl zs h2 h3
    have : PL P t pl := ⟨h2⟩
    have : ZC P t zs := ⟨h3⟩
    split at h
    ·rename_i cs hc; cases h; exact simple (Z5 ho (by rw [Z2d]; exact h1) hc)
    ·cases h
   ·cases h
  ·cases h
 ·rename_i b args ats ho
  split at h
  ·rename_i xs h1; exact simple (Z6m ho (by rw [Z2d]; exact h1) h)
  ·cases h
 ·rename_i f args ats ho
  split at h
  ·rename_i xs h1; exact simple (Z8w ho (by rw [Z2d]; exact h1) h)
  ·cases h
 ·cases h
end
end Go.Sx
namespace Go.Sx
open Go
def MM : Nat := 1099511627776
def Fr (k : Nat) (C : Ctx) : Prop := ∀ z, k ≤ z → z < MM → z ∉ C.U
theorem Zcz (k k' : Nat) : ∃ l : List Nat, ∀ z, z ∈ l ↔ z < MM ∧ (z < k ∨ k' ≤ z) :=
 ⟨(List.range MM).filter fun z => Nat.blt z k || Nat.ble k' z, fun z => by rw [List.mem_filter, List.mem_range, Bool.or_eq_true, Nat.ble_eq, Nat.blt_eq]⟩
noncomputable def Zx (k k' : Nat) : List Nat := Classical.choose (Zcz k k')
theorem mem_Zx {k k' z : Nat} : z ∈ Zx k k' ↔ z < MM ∧ (z < k ∨ k' ≤ z) := Classical.choose_spec (Zcz k k') z
structure EX (k : Nat) (C : Ctx) (H : AHeap) (w : World) (k' : Nat) (C' : Ctx) (H' : AHeap) (w' : World) : Prop where
 x : Ext [] C H w C' H' w'
 nx : ∀ z, z < MM → z ∈ C'.U → z ∈ C.U ∨ (k ≤ z ∧ z < k')
 kle : k ≤ k'
theorem EX.le {k k' : Nat} {C C' : Ctx} {H H' : AHeap} {w w' : World} (h : EX k C H w k' C' H' w') : C.Le C' := h.x.le
theorem EX.refl (k : Nat) (C : Ctx) (H : AHeap) (w : World) : EX k C H w k C H w := ⟨.refl .., fun _ _ h => .inl h, Nat.le_refl _⟩
theorem EX.trans {k k1 k2 : Nat} {C C1 C2 : Ctx} {H H1 H2 : AHeap} {w w1 w2 : World} (h : EX k C H w k1 C1 H1 w1) (g : EX k1 C1 H1 w1 k2 C2 H2 w2) : EX k C H w k2 C2 H2 w2 :=
 ⟨h.x.trans g.x, fun z hz hm => by
  rcases g.nx z hz hm with h1 | h1
  ·rcases h.nx z hz h1 with h2 | h2
   ·exact .inl h2
   ·exact .inr ⟨h2.1, Nat.lt_of_lt_of_le h2.2 g.kle⟩
  ·exact .inr ⟨Nat.le_trans h.kle h1.1, h1.2⟩, Nat.le_trans h.kle g.kle⟩
theorem EX.fr {k k' : Nat} {C C' : Ctx} {H H' : AHeap} {w w' : World} (h : EX k C H w k' C' H' w') (hf : Fr k C) : Fr k' C' := fun z h1 h2 hm => by
 rcases h.nx z h2 hm with h3 | h3
 ·exact hf z (Nat.le_trans h.kle h1) h2 h3
 ·omega
theorem Ext.ex {k k' : Nat} {C C' : Ctx} {H H' : AHeap} {w w' : World} (he : Ext (Zx k k') C H w C' H' w') (hk : k ≤ k') : EX k C H w k' C' H' w' :=
 ⟨he.subZ nofun, fun z hz hm => by
  by_cases h1 : k ≤ z ∧ z < k'
  ·exact .inr h1
  ·refine .inl ?_
   by_cases h2 : z ∈ C.U
   ·exact h2
   ·exact absurd hm (he.av z (mem_Zx.2 ⟨hz, by omega⟩) h2), hk⟩
theorem Ext.same {k : Nat} {C : Ctx} {H H' : AHeap} {w w' : World} (he : Ext [] C H w C H' w') : EX k C H w k C H' w' := ⟨he, fun _ _ h => .inl h, Nat.le_refl _⟩
structure ES where
 T : Tr AV
 H : Hp
 D : List Nat
 k : Nat
structure SE (C : Ctx) (Hl : AHeap) (e : ES) (n : Nat) (a : Act) (w : World) : Prop where
 sr : SR C ⟨e.T.ls, Hl, e.D, n⟩ a w
 hs : SubH e.H Hl
 fr : Fr e.k C
def OpOk (P : Program) (o : Oper) (e : ES) (x : AV) (H' : Hp) (k' : Nat) : Prop :=
 H'.R = e.H.R ∧ ∀ C Hl n a w, SE C Hl e n a w → ∀ ro next R, (∀ v w1 C1 Hl1, VR C1 x v → WR C1 Hl1 w1 → SubH H' Hl1 → Fr k' C1 → EX e.k C Hl w k' C1 Hl1 w1 → next (a.put o.dst v) w1) → o.uponIn (Wd ro) 0 P a next R ((o.semAt ro a.eval).run P w)
section
variable {P : Program} {o : Oper} {e : ES}
theorem Z10 {Hn : AHeap} {x : AV} (he : Eff P o e.T.ls Hn x []) (hn : ∀ p, p ∈ Hn → e.H.get p.1 = some p.2) : OpOk P o e x e.H e.k := by
 refine ⟨rfl, ?_⟩
 intro C Hl n a w hs ro next R hk
 refine he (Zx e.k e.k) C Hl a w hs.sr.wr (fun p hp => hs.hs p.1 p.2 (hn p hp)) (fun p _ y hy => hs.sr.ev hy) nofun List.nodup_nil (fun _ _ => List.not_mem_nil) ro next R ?_
 intro v w1 C1 hv hw1 he1
 have hx := he1.ex (Nat.le_refl _)
 exact hk v w1 C1 Hl hv hw1 hs.hs (hx.fr hs.fr) hx
theorem SubH.put {H : Hp} {Hl Hl' : AHeap} {k : Nat} {ob : AObj} (h : SubH H Hl) (hf : getR H.R k = none) (h1 : (k, ob) ∈ Hl') (h2 : ∀ i o, i ≠ k → (i, o) ∈ Hl → (i, o) ∈ Hl') : SubH (H.put k (some ob)) Hl' := by
 intro i o hg
 rcases Hp.put_get hf hg with ⟨rfl, e⟩ | ⟨hne, e⟩
 ·cases e; exact h1
 ·exact h2 i o hne (h i o e)
theorem SubH.erase {H : Hp} {Hl : AHeap} {k : Nat} (h : SubH H Hl) : SubH (H.put k none) Hl := fun i o hg => h i o (Hp.erase_get hg)
theorem Z5t {H : Hp} {k i : Nat} {ob : AObj} (hf : getR H.R k = none) (h : (H.put k none).get i = some ob) : i ≠ k ∧ H.get i = some ob := by
 rcases Hp.put_get hf h with ⟨_, e⟩ | ⟨hne, e⟩
 ·cases e
 ·exact ⟨hne, e⟩
theorem SubH.free {C : Ctx} {H : Hp} {Hl : AHeap} {w : World} {i k : Nat} (h : SubH H Hl) (hw : WR C Hl w) (hf : Fr k C) (hi : k ≤ i) (hm : i < MM) : getR H.R i = none := by
 cases hr : getR H.R i with
 | none => rfl
 | some o =>
  have hg : H.get i = some o := by unfold Hp.get; rw [hr]
  exact absurd (hw.ids i o (h i o hg)).1 (hf i hi hm)
theorem Zat {x : AV} {ob : AObj} (hk : Nat.blt e.k MM = true) (he : Eff P o e.T.ls [] x [(e.k, ob)]) : OpOk P o e x (e.H.put e.k (some ob)) (e.k + 1) := by
 refine ⟨rfl, ?_⟩
 intro C Hl n a w hs ro next R hc
 have hk : e.k < MM := by rwa [Nat.blt_eq] at hk
 refine he (Zx e.k (e.k + 1)) C Hl a w hs.sr.wr nofun (fun p _ y hy => hs.sr.ev hy) ?_ (List.nodup_cons.2 ⟨List.not_mem_nil, List.nodup_nil⟩) ?_ ro next R ?_
 ·intro p hp; rw [List.mem_singleton.1 hp]; exact hs.fr e.k (Nat.le_refl _) hk
 ·intro z hz hm; have h1 := (mem_Zx.1 hz).2; have h2 : z = e.k := List.mem_singleton.1 hm; omega
 intro v w1 C1 hv hw1 he1
 have hx := he1.ex (Nat.le_succ _)
 exact hc v w1 C1 _ hv hw1 (hs.hs.put (hs.hs.free hs.sr.wr hs.fr (Nat.le_refl _) hk) List.mem_cons_self (fun i o' _ h => List.mem_cons_of_mem _ h)) (hx.fr hs.fr) hx
theorem Z0h {Hl : AHeap} {i : Nat} {ob : AObj} (h : (i, ob) ∈ Hl) : ∃ j : Nat, Hl[j]? = some (i, ob) := List.mem_iff_getElem?.1 h
theorem Z2q {C : Ctx} {Hl : AHeap} {w : World} (hw : WR C Hl w) {j m i i' : Nat} {ob ob' : AObj} (h1 : Hl[j]? = some (i, ob)) (h2 : Hl[m]? = some (i', ob')) (hne : i' ≠ i) : m ≠ j := by
 rintro rfl; rw [h1] at h2; cases h2; exact hne rfl
theorem Z08 {Hl : AHeap} {j m : Nat} {p q : Nat × AObj} (h : Hl[m]? = some q) (hne : m ≠ j) : q ∈ Hl.set j p := by
 refine List.mem_iff_getElem?.2 ⟨m, ?_⟩
 rw [List.getElem?_set_ne (Ne.symm hne)]; exact h
theorem Z0p {Hl : AHeap} {j : Nat} {p q : Nat × AObj} (h : Hl[j]? = some q) : p ∈ Hl.set j p := by
 have hlt := Z7 h
 exact List.mem_iff_getElem?.2 ⟨j, by simp [hlt]⟩
theorem Z9a {id : Nat} {ob ob' : AObj} (hg0 : e.H.own id = some ob) (he : ∀ Hl j, SubH e.H Hl → Hl[j]? = some (id, ob) → EffW P o e.T.ls Hl (Hl.set j (id, ob'))) : OpOk P o e (.v undef) (e.H.put id (some ob')) e.k := by
 obtain ⟨hfree, hg⟩ := Hp.own_spec hg0
 refine ⟨rfl, ?_⟩
 intro C Hl n a w hs ro next R hc
 obtain ⟨j, hj⟩ := Z0h (hs.hs id ob hg)
 refine he Hl j hs.hs hj (Zx e.k e.k) C a w hs.sr.wr (fun p _ y hy => hs.sr.ev hy) ro next R ?_
 intro v w1 C1 hv hw1 he1
 have hx := he1.ex (Nat.le_refl _)
 refine hc v w1 C1 _ hv hw1 (hs.hs.put hfree (Z0p hj) ?_) (hx.fr hs.fr) hx
 intro i o' hne hm
 obtain ⟨m, hm⟩ := Z0h hm
 exact Z08 hm (Z2q hs.sr.wr hj hm hne)
theorem Zb4 {id : Nat} {ob ob' : AObj} {x : AV} (hk : Nat.blt e.k MM = true) (hg0 : e.H.own id = some ob) (he : ∀ Hl j, SubH e.H Hl → Hl[j]? = some (id, ob) → EffA P o e.T.ls Hl x (Hl.set j (e.k, ob')) e.k) : OpOk P o e x ((e.H.put id none).put e.k (some ob')) (e.k + 1) := by
 obtain ⟨hfree, hg⟩ := Hp.own_spec hg0
 refine ⟨rfl, ?_⟩
 intro C Hl n a w hs ro next R hc
 have hk : e.k < MM := by rwa [Nat.blt_eq] at hk
 obtain ⟨j, hj⟩ := Z0h (hs.hs id ob hg)
 refine he Hl j hs.hs hj (Zx e.k (e.k + 1)) C a w hs.sr.wr (fun p _ y hy => hs.sr.ev hy) (hs.fr e.k (Nat.le_refl _) hk) (fun h => by have := (mem_Zx.1 h).2; omega) ro next R ?_
 intro v w1 C1 hv hw1 he1
 have hx := he1.ex (Nat.le_succ _)
 refine hc v w1 C1 _ hv hw1 ?_ (hx.fr hs.fr) hx
 intro i o' hg'
 rcases Hp.put_get (h := e.H.put id none) (hs.hs.free hs.sr.wr hs.fr (Nat.le_refl _) hk) hg' with ⟨rfl, e1⟩ | ⟨_, e1⟩
 ·cases e1; exact Z0p hj
 ·obtain ⟨hne, e2⟩ := Z5t hfree e1
  obtain ⟨m, hm⟩ := Z0h (hs.hs i o' e2)
  exact Z08 hm (Z2q hs.sr.wr hj hm hne)
theorem Z4w (id n : Nat) {T : List (Nat × AV)} {t el size bytes : Nat} {p q : Operand} {zs : List Value} [hu : UD P t (.slice el)] [ha : AP P el size bytes] [hz : ZC P el zs] (ho : o.op = .makeSlice t p q)
  (hp : ev T p = some (.v (.int .i64 n))) (hq : ev T q = some (.v (.int .i64 n))) (h1 : bytes * n ≤ 140737488355328) (hm : n ≤ maxLen) (h2 : (zs.map AV.v).all one = true) :
  Eff P o T [] (.own id size 0 n) [(id, .rows el size (List.replicate n (zs.map .v)))] :=
 Z3o (N := n * size) (by intro c; rw [ho]; nofun) fun C H a w hw _ hv hid => by
  have e1 := VR.val (hv p (by rw [ho]; simp [Op.operands]) _ hp)
  have e2 := VR.val (hv q (by rw [ho]; simp [Op.operands]) _ hq)
  obtain ⟨i, zv, hi, hzv, hsz, hby, hzs, hpos⟩ := AP.open ha.ap
  have hz2 : zv.cells.toList = zs := by
   have := hz.zc
   unfold Program.zc at this
   rw [hi] at this
   simpa only [hzv, Option.map_some, Option.some.injEq] using this
  have hzl : zs.length = size := by rw [← hz2, Array.length_toList, hzs]
  have hm' : n ≤ 9223372036854775807 := hm
  have hw2 : IntKind.i64.wrap (n : Int) = n := Z33 (by omega)
  have hb1 : ¬ (281474976710656 < (bytes : Int) * n) := by
   have : ((bytes * n : Nat) : Int) ≤ 140737488355328 := Int.ofNat_le.2 h1
   rw [Int.natCast_mul] at this; omega
  let z0 : Array Value := if n * size = 0 then #[] else zv.cells
  refine ⟨.slice (some ⟨w.heap.size, 0, none⟩) n n, .cells ((Array.range (n * size)).map (z0[· % z0.size]!)) el, ?_, ?_, ?_⟩
  ·have e3 : (asInt (.int .i64 (n : Int))).run P w = .ok (n : Int) w := by simp [asInt, asIntOf, Sem.run_bind, Result.andThen]
   have h00 : ¬ ((n : Int) < 0) := by omega
   have hc1 : ¬ ((bytes : Int) * n > 2 ^ 48) := hb1
   have hc0 : (decide ((n : Int) < 0) || decide ((bytes : Int) * n > 2 ^ 48)) = false := by rw [decide_eq_false h00, decide_eq_false hc1]; rfl
   have hn0 : ((n : Int)).toNat = n := by omega
   have hrun : (Instr.makeSlice t (.int .i64 n) (.int .i64 n)).run P w = .ok (.slice (some ⟨w.heap.size, 0, none⟩) n n) (w.alloc (.cells ((Array.range (n * size)).map (z0[· % z0.size]!)) el)) := by
    unfold Instr.makeSlice
    simp only [Sem.run_bind, Go.run_underlying hu.ud, Result.andThen, e3, typeInfo, hi, hby, hw2, hc0, h00, Int.lt_irrefl, decide_false, Bool.or_false, Bool.false_or, Bool.false_eq_true, if_false, run_askRoom, hn0, sizeOf, hsz, Sem.run_pure]
    by_cases h0 : n * size = 0
    ·have hz0 : z0 = #[] := if_pos h0
     rw [hz0]
     simp [h0, hi, hby, hsz, hb1, newRow, run_newObj_alloc, Sem.run_bind, Result.andThen]
    ·have hz0 : z0 = zv.cells := if_neg h0
     rw [hz0]
     simp [h0, hi, hby, hsz, hb1, hzv, zeroValue, typeInfo, newRow, run_newObj_alloc, Sem.run_bind, Result.andThen, -getElem!_pos]
   have e4 : execOp a.eval o = (do pure (.value (← Instr.makeSlice t (a.eval p) (a.eval q)))) := by simp only [execOp, ho]
   rw [e4, e1, e2, Sem.run_bind, hrun]
   rfl
  ·have := VR.own (C := C.bind id w.heap.size (n * size)) id size 0 n w.heap.size (n * size) n (Ctx.bind_m ..) List.mem_cons_self (by simp) (Nat.le_refl _) hm
   simpa using this
  ·refine ⟨by intro l hl; rw [List.eq_of_mem_replicate hl]; simpa using hzl, .inr ⟨w.heap.size, n * size, _, Ctx.bind_m .., heap_alloc_new w _, by simp, by simp, ?_⟩⟩
   intro i' l j c hl hc
   have hlt := Z7 hl
   rw [List.length_replicate] at hlt
   have hl2 : l = zs.map .v := List.eq_of_mem_replicate (List.mem_of_getElem? hl)
   subst hl2
   have hj := Z7 hc
   rw [List.length_map, hzl] at hj
   have hbig : i' * size + j < n * size := by
    have : (i' + 1) * size ≤ n * size := Nat.mul_le_mul_right _ hlt
    rw [Nat.add_mul] at this; omega
   have hz0 : z0 = zv.cells := if_neg (by omega)
   rw [List.getElem?_map] at hc
   cases hzj : zs[j]? with
   | none => rw [hzj] at hc; cases hc
   | some u =>
    rw [hzj] at hc
    simp only [Option.map_some, Option.some.injEq] at hc
    subst hc
    have hu1 : one (.v u) = true := List.all_eq_true.1 h2 (.v u) (List.mem_map.2 ⟨u, List.mem_of_getElem? hzj, rfl⟩)
    have hcell : zv.cells[j]? = some u := by rw [← Array.getElem?_toList, hz2]; exact hzj
    refine ⟨u, ?_, .v u, Z50 (C := C) (.v u) hu1⟩
    rw [hz0]
    have hmod : (i' * size + j) % zv.cells.size = j := by rw [hzs, Nat.mul_comm, Nat.mul_add_mod, Nat.mod_eq_of_lt hj]
    have hjs : j < zv.cells.size := by rw [hzs]; exact hj
    have hcj : zv.cells[j] = u := by
     have := Array.getElem?_eq_getElem hjs
     rw [hcell] at this; exact (Option.some.inj this).symm
    rw [Array.getElem?_map, Array.getElem?_range, if_pos hbig]
    simp only [Option.map_some, hmod]
    rw [getElem!_pos zv.cells j hjs, hcj]
def evNew (P : Program) (T : Tr AV) (k : Nat) (op : Op) : Option (AV × AObj) := match op with
 | .box t p => match P.tk t, evT T p with
  | some (_, n), some x => bif Nat.beq (cellsA x).length n then (bif (cellsA x).all one then some (.ptr k n 0 0, .rows t n [cellsA x]) else none) else none
  | _, _ => none
 | .alloc t => match P.tk t, P.zc t with
  | some (_, n), some zs => bif Nat.beq zs.length n then (bif (zs.map AV.v).all one then some (.ptr k n 0 0, .rows t n [zs.map .v]) else none) else none
  | _, _ => none
 | .buildSlice t len ps => match P.underlying t with
  | some (.slice el) => match P.ap el, evTs T (ps.toList.map Prod.snd) with
   | some (size, _), some xs => bif inOrder 0 ps.toList && Nat.beq ps.toList.length len && (xs.map cellsA).all (fun l => Nat.beq l.length size) && (xs.map cellsA).all (fun l => l.all one) && Nat.ble (len * size) 16777216
    then some (.own k size 0 len, .rows el size (xs.map cellsA)) else none
   | _, _ => none
  | _ => none
 | .makeMap _ none => some (.map k, .mp [])
 | .makeSlice t p q => match P.underlying t with
  | some (.slice el) => match P.ap el, P.zc el, evT T p, evT T q with
   | some (size, bytes), some zs, some (.v (.int .i64 n)), some (.v (.int .i64 m)) =>
    if n = m ∧ 0 ≤ n ∧ bytes * n.toNat ≤ 140737488355328 ∧ n.toNat ≤ maxLen then (bif (zs.map AV.v).all one then some (.own k size 0 n.toNat, .rows el size (List.replicate n.toNat (zs.map .v))) else none) else none
   | _, _, _, _ => none
  | _ => none
 | _ => none
theorem Z5o {T : Tr AV} {k : Nat} {x : AV} {ob : AObj} (h : evNew P T k o.op = some (x, ob)) : Eff P o T.ls [] x [(k, ob)] := by
 unfold evNew at h
 split at h
 ·rename_i t p ho
  split at h
  ·rename_i b n y hk hy
   have : TK P t b n := ⟨hk⟩
   cases h1 : Nat.beq (cellsA y).length n with
   | false => rw [h1] at h; cases h
   | true =>
    cases h2 : (cellsA y).all one with
    | false => rw [h1, h2] at h; cases h
    | true => rw [h1, h2] at h; cases h; exact Z18 k ho (by rw [Z9]; exact hy) rfl (Nat.eq_of_beq_eq_true h1) h2
  ·cases h
 ·rename_i t ho
  split at h
  ·rename_i b n zs hk hz
   have : TK P t b n := ⟨hk⟩
   have : ZC P t zs := ⟨hz⟩
   cases h1 : Nat.beq zs.length n with
   | false => rw [h1] at h; cases h
   | true =>
    cases h2 : (zs.map AV.v).all one with
    | false => rw [h1, h2] at h; cases h
    | true => rw [h1, h2] at h; cases h; exact Zl k ho (Nat.eq_of_beq_eq_true h1) h2
  ·cases h
 ·rename_i t len ps ho
  split at h
  ·rename_i el hu
   have : UD P t (.slice el) := ⟨hu⟩
   split at h
   ·rename_i size bytes xs ha hx
    have : AP P el size bytes := ⟨ha⟩
    cases hc : (inOrder 0 ps.toList && Nat.beq ps.toList.length len && (xs.map cellsA).all (fun l => Nat.beq l.length size) && (xs.map cellsA).all (fun l => l.all one) && Nat.ble (len * size) 16777216) with
    | false => rw [hc] at h; cases h
    | true =>
     rw [hc] at h
     simp only [Bool.and_eq_true] at hc
     obtain ⟨⟨⟨⟨c1, c2⟩, c3⟩, c4⟩, c5⟩ := hc
     cases h
     exact Zd k (ps := ps.toList) (by rw [ho]) c1 (Nat.eq_of_beq_eq_true c2) (by rw [Z2d]; exact hx) rfl c3 c4 c5
   ·cases h
  ·cases h
 ·rename_i t ho; cases h; exact Z6l k ho
 ·rename_i t p q ho
  split at h
  ·rename_i el hu
   have : UD P t (.slice el) := ⟨hu⟩
   split at h
   ·rename_i size bytes zs n m ha hz hp hq
    have : AP P el size bytes := ⟨ha⟩
    have : ZC P el zs := ⟨hz⟩
    split at h
    ·rename_i hc
     obtain ⟨rfl, h0, h1, h2⟩ := hc
     cases h3 : (zs.map AV.v).all one with
     | false => rw [h3] at h; cases h
     | true =>
      rw [h3] at h; cases h
      have hn : (n.toNat : Int) = n := by omega
      exact Z4w k n.toNat ho (by rw [Z9, hp, hn]) (by rw [Z9, hq, hn]) h1 h2 h3
    ·cases h
   ·cases h
  ·cases h
 ·cases h
end
end Go.Sx
namespace Go.Sx
open Go
section
variable {P : Program}
def aggT (P : Program) (t : TypeId) : Bool := match P.underlying t with | some (.struct _) => true | _ => false
mutual
theorem Z9g (w : World) (b : Bool) : ∀ (d : Nat) (t : TypeId) (ks : List CK) (D : Nat) (xs : List Value), ckOf P d t = some ks → d ≤ D → xs.map ck1 = ks.map some →
  (Instr.checkKey b D t (asV (aggT P t) xs)).run P w = .ok () w
 | 0, t, ks, D, xs, h, _, _ => by simp [ckOf] at h
 | d + 1, t, ks, D, xs, h, hD, hx => by
  obtain ⟨D, rfl⟩ : ∃ D', D = D' + 1 := ⟨D - 1, by omega⟩
  simp only [ckOf] at h
  have one : ∀ k, xs.map ck1 = [some k] → ∃ x, xs = [x] ∧ ck1 x = some k := by
   intro k hx
   cases xs with
   | nil => simp at hx
   | cons x r => cases r with | nil => exact ⟨x, rfl, by simpa using hx⟩ | cons => simp at hx
  split at h
  ·rename_i k hu
   simp only [Option.some.injEq] at h; subst h
   obtain ⟨x, rfl, hxk⟩ := one _ (by simpa using hx)
   obtain ⟨_, rfl⟩ := Z3i hxk
   simp [Instr.checkKey, Go.run_underlying hu, aggT, hu, asV, Result.andThen, Sem.run_bind]
  ·rename_i hu
   simp only [Option.some.injEq] at h; subst h
   obtain ⟨x, rfl, hxk⟩ := one _ (by simpa using hx)
   obtain ⟨_, rfl⟩ := Z1r hxk
   simp [Instr.checkKey, Go.run_underlying hu, aggT, hu, asV, Result.andThen, Sem.run_bind]
  ·rename_i hu
   simp only [Option.some.injEq] at h; subst h
   obtain ⟨x, rfl, hxk⟩ := one _ (by simpa using hx)
   obtain ⟨_, rfl⟩ := Z3j hxk
   simp [Instr.checkKey, Go.run_underlying hu, aggT, hu, asV, Result.andThen, Sem.run_bind]
  ·rename_i fs hu
   split at h
   ·cases h
   ·have := Z2h w b d fs.toList 0 ks D xs [] h (by omega) hx rfl
    simp only [List.nil_append] at this
    simp only [Instr.checkKey, Sem.run_bind, Go.run_underlying hu, Result.andThen, aggT, hu, asV, if_true]
    rw [← Array.forIn_toList]
    simp only [this, Sem.run_pure]
  ·cases h
theorem Z2h (w : World) (b : Bool) : ∀ (d : Nat) (fs : List Field) (off : Nat) (ks : List CK) (D : Nat) (xs px : List Value), ckFields P d fs off = some ks → d ≤ D → xs.map ck1 = ks.map some → px.length = off →
  (forIn (m := Sem) fs PUnit.unit (fun f r => if f.name ≠ "_" then do
    let __do_lift ← part f.type (px ++ xs).toArray f.offset
    Instr.checkKey b D f.type __do_lift
    pure (ForInStep.yield PUnit.unit)
   else pure (ForInStep.yield PUnit.unit))).run P w = .ok () w
 | d, [], off, ks, D, xs, px, h, _, hx, _ => by simp [Sem.run_pure]
 | 0, _ :: _, off, ks, D, xs, px, h, _, _, _ => by simp [ckFields] at h
 | d + 1, f :: fs, off, ks, D, xs, px, h, hD, hx, hpx => by
  simp only [ckFields] at h
  split at h
  ·rename_i hc
   split at h
   ·rename_i ks1 hk1
    split at h
    ·rename_i hsz
     split at h
     ·rename_i r hr
      simp only [Option.some.injEq] at h
      subst h
      rw [List.map_append] at hx
      have hxl : xs.length = ks1.length + r.length := by have := congrArg List.length hx; simpa using this
      have hx1 : (xs.take ks1.length).map ck1 = ks1.map some := by have := congrArg (List.take ks1.length) hx; simpa using this
      have hx2 : (xs.drop ks1.length).map ck1 = r.map some := by have := congrArg (List.drop ks1.length) hx; simpa using this
      have hn : f.name ≠ "_" := by simpa using hc.1
      have he := Z9g w b d f.type ks1 D (xs.take ks1.length) hk1 (by omega) hx1
      have ih := Z2h w b d fs (off + ks1.length) r D (xs.drop ks1.length) (px ++ xs.take ks1.length) hr (by omega) hx2 (by simp; omega)
      rw [List.append_assoc, List.take_append_drop] at ih
      have hu : ∃ dd, P.underlying f.type = some dd := by
       cases d with
       | zero => simp [ckOf] at hk1
       | succ d =>
        simp only [ckOf] at hk1
        cases hz : P.underlying f.type with
        | some dd => exact ⟨dd, rfl⟩
        | none => rw [hz] at hk1; cases hk1
      obtain ⟨dd, hu⟩ := hu
      have htk := Zd5 hu hsz
      have hpart : ∀ (p l : List Value), p.length = off → ks1.length ≤ l.length → (ks1.length = 1 ∨ (∃ fs, dd = .struct fs)) → (∀ fs' : Nat × TypeId, dd ≠ .array fs'.1 fs'.2) →
        (part f.type (p ++ l).toArray f.offset).run P w = .ok (asV (aggT P f.type) (l.take ks1.length)) w := by
       intro p l hp hl hone hna
       unfold part
       rw [Sem.run_bind, Z0t htk]
       simp only [Result.andThen, aggT]
       rcases hone with hone | ⟨fs', rfl⟩
       ·cases dd with
        | struct fs' =>
         simp only [hu, aggD, if_true, Sem.run_bind, Ze htk, Result.andThen, Sem.run_pure, asV]
         congr 2
         apply Array.ext'
         simp [hc.2, ← hp]
        | array a b => exact absurd rfl (hna (a, b))
        | _ =>
         simp only [hu, aggD, Bool.false_eq_true, if_false, asV]
         obtain ⟨v, l', rfl⟩ : ∃ v l', l = v :: l' := by cases l with | nil => simp [hone] at hl | cons v l' => exact ⟨v, l', rfl⟩
         have : (p ++ v :: l').toArray[f.offset]? = some v := by rw [List.getElem?_toArray, hc.2, ← hp]; simp
         rw [this, hone]
         simp
       ·simp only [hu, aggD, if_true, Sem.run_bind, Ze htk, Result.andThen, Sem.run_pure, asV]
        congr 2
        apply Array.ext'
        simp [hc.2, ← hp]
      have hshape : (ks1.length = 1 ∨ (∃ fs, dd = .struct fs)) ∧ (∀ fs' : Nat × TypeId, dd ≠ .array fs'.1 fs'.2) := by
       cases d with
       | zero => simp [ckOf] at hk1
       | succ d =>
        simp only [ckOf, hu] at hk1
        cases dd <;> simp at hk1 <;> first | (subst hk1; exact ⟨.inl rfl, by intro _; nofun⟩) | exact ⟨.inr ⟨_, rfl⟩, by intro _; nofun⟩
      rw [List.forIn_cons]
      simp only [if_pos hn, Sem.run_bind, hpart px xs hpx (by omega) hshape.1 hshape.2, Result.andThen, he, Sem.run_pure]
      exact ih
     ·cases h
    ·cases h
   ·cases h
  ·cases h
end
def vcells : Value → List Value
 | .agg cs => cs.toList
 | v => [v]
def isAggV : Value → Bool
 | .agg _ => true
 | _ => false
theorem Z7m {v : Value} : asV (isAggV v) (vcells v) = v := by cases v <;> simp [asV, isAggV, vcells]
def vOk : Value → CK → Bool
 | .int k _, .int k' => decide (k = k')
 | .bool _, .bool => true
 | .string _, .str => true
 | _, _ => false
theorem Zax {x : Value} {k : CK} (h : vOk x k = true) : ck1 x = some k := by
 unfold vOk at h
 split at h
 ·have := of_decide_eq_true h; subst this; rfl
 ·rfl
 ·rfl
 ·cases h
def vsOk : List Value → List CK → Bool
 | [], [] => true
 | x :: xs, k :: ks => bif vOk x k then vsOk xs ks else false
 | _, _ => false
theorem Z68 : ∀ (xs : List Value) (ks : List CK), vsOk xs ks = true → xs.map ck1 = ks.map some
 | [], [], _ => rfl
 | [], _ :: _, h => by simp [vsOk] at h
 | _ :: _, [], h => by simp [vsOk] at h
 | x :: xs, k :: ks, h => by
  simp only [vsOk] at h
  cases hk : vOk x k with
  | false => rw [hk] at h; cases h
  | true => rw [hk] at h; simp [Zax hk, Z68 xs ks h]
def keyOk (agg : Bool) (ks : List CK) (v : Value) : Bool := bif Nat.beq agg.toNat (isAggV v).toNat then vsOk (vcells v) ks else false
theorem Zv {agg : Bool} {ks : List CK} {v : Value} (h : keyOk agg ks v = true) : (vcells v).map ck1 = ks.map some ∧ asV agg (vcells v) = v := by
 unfold keyOk at h
 cases hb : Nat.beq agg.toNat (isAggV v).toNat with
 | false => rw [hb] at h; cases h
 | true =>
  rw [hb] at h
  have e : agg = isAggV v := by
   have := Nat.eq_of_beq_eq_true hb
   revert this
   cases agg <;> cases isAggV v <;> simp
  exact ⟨Z68 _ _ h, by rw [e]; exact Z7m⟩
def beqL : List UInt8 → List UInt8 → Bool
 | [], [] => true
 | a :: l, b :: m => bif Nat.beq a.toNat b.toNat then beqL l m else false
 | _, _ => false
theorem Z59 : ∀ a b : List UInt8, beqL a b = (a == b)
 | [], [] => rfl
 | [], _ :: _ => rfl
 | _ :: _, [] => rfl
 | a :: l, b :: m => by
  simp only [beqL, List.cons_beq_cons]
  cases h : Nat.beq a.toNat b.toNat with
  | true =>
   have e : a = b := UInt8.toNat.inj (Nat.eq_of_beq_eq_true h)
   subst e; simp [Z59 l m]
  | false =>
   have e : (a == b) = false := by
    cases h2 : a == b with
    | false => rfl
    | true => have := eq_of_beq h2; subst this; rw [Nat.beq_refl] at h; cases h
   simp [e]
def veqF : Value → Value → Bool
 | .int _ a, .int _ b => a == b
 | .bool a, .bool b => a == b
 | .string a, .string b => beqL a.data.toList b.data.toList
 | _, _ => false
theorem Z9r (x y : Value) : veqF x y = veq x y := by
 unfold veqF veq
 split <;> simp [Z59, ByteArray.toList_eq]
def vseqF : List Value → List Value → Bool
 | [], [] => true
 | x :: xs, y :: ys => bif veqF x y then vseqF xs ys else false
 | _, _ => false
theorem Z4o : ∀ xs ys : List Value, vseqF xs ys = vseq xs ys
 | [], [] => rfl
 | [], _ :: _ => rfl
 | _ :: _, [] => rfl
 | x :: xs, y :: ys => by
  simp only [vseqF, vseq, Z9r, Z4o xs ys]
  cases veq x y <;> rfl
def mfind (agg : Bool) (ks : List CK) (key : Value) : List (Value × AV) → Nat → Option (Option (Nat × AV))
 | [], _ => some none
 | (kk, x) :: r, n => bif keyOk agg ks kk then (bif vseqF (vcells key) (vcells kk) then some (some (n, x)) else mfind agg ks key r (n + 1)) else none
theorem Z4k {xs : List Value} {k : CK} (hx : xs.map ck1 = [some k]) : ∃ x, xs = [x] ∧ ck1 x = some k := by
 cases xs with
 | nil => simp at hx
 | cons x r => cases r with | nil => exact ⟨x, rfl, by simpa using hx⟩ | cons => simp at hx
theorem Z9j {kt : TypeId} {ks : List CK} {a b : Value} (hck : ckOf P 20 kt = some ks) (ha : keyOk (aggT P kt) ks a = true) (hb : keyOk (aggT P kt) ks b = true) (w : World) : (Op.equal kt a b).run P w = .ok (vseq (vcells a) (vcells b)) w := by
 obtain ⟨a1, a2⟩ := Zv ha
 obtain ⟨b1, b2⟩ := Zv hb
 have h : (Op.equalIn 10000 kt (asV (aggT P kt) (vcells a)) (asV (aggT P kt) (vcells b))).run P w = .ok (vseq (vcells a) (vcells b)) w := Z7g (P := P) w 20 kt ks 10000 (vcells a) (vcells b) hck (by omega) a1 b1
 rw [a2, b2] at h
 exact h
theorem Z7z {kt : TypeId} {ks : List CK} {a b : Value} {d : TypeDesc} (hu : P.underlying kt = some d) (hck : ckOf P 20 kt = some ks) (ha : keyOk (aggT P kt) ks a = true) (hb : keyOk (aggT P kt) ks b = true) :
  (aggT P kt = true ∧ Instr.sameNow d a b = none) ∨ (aggT P kt = false ∧ Instr.sameNow d a b = some (vseq (vcells a) (vcells b))) := by
 obtain ⟨a1, a2⟩ := Zv ha
 obtain ⟨b1, b2⟩ := Zv hb
 simp only [ckOf, hu] at hck
 split at hck
 ·rename_i k hk
  cases hk
  simp only [Option.some.injEq] at hck; subst hck
  obtain ⟨x, hx, hxk⟩ := Z4k (by simpa using a1)
  obtain ⟨y, hy, hyk⟩ := Z4k (by simpa using b1)
  obtain ⟨n, rfl⟩ := Z3i hxk
  obtain ⟨m, rfl⟩ := Z3i hyk
  rw [hx] at a2 ⊢; rw [hy] at b2 ⊢
  refine .inr ⟨by simp [aggT, hu], ?_⟩
  simp only [aggT, hu, asV, Bool.false_eq_true, if_false, List.headD] at a2 b2
  rw [← a2, ← b2]
  simp [Instr.sameNow, vseq, veq]
 ·rename_i hk
  cases hk
  simp only [Option.some.injEq] at hck; subst hck
  obtain ⟨x, hx, hxk⟩ := Z4k (by simpa using a1)
  obtain ⟨y, hy, hyk⟩ := Z4k (by simpa using b1)
  obtain ⟨n, rfl⟩ := Z1r hxk
  obtain ⟨m, rfl⟩ := Z1r hyk
  rw [hx] at a2 ⊢; rw [hy] at b2 ⊢
  refine .inr ⟨by simp [aggT, hu], ?_⟩
  simp only [aggT, hu, asV, Bool.false_eq_true, if_false, List.headD] at a2 b2
  rw [← a2, ← b2]
  simp [Instr.sameNow, vseq, veq]
 ·rename_i hk
  cases hk
  simp only [Option.some.injEq] at hck; subst hck
  obtain ⟨x, hx, hxk⟩ := Z4k (by simpa using a1)
  obtain ⟨y, hy, hyk⟩ := Z4k (by simpa using b1)
  obtain ⟨n, rfl⟩ := Z3j hxk
  obtain ⟨m, rfl⟩ := Z3j hyk
  rw [hx] at a2 ⊢; rw [hy] at b2 ⊢
  refine .inr ⟨by simp [aggT, hu], ?_⟩
  simp only [aggT, hu, asV, Bool.false_eq_true, if_false, List.headD] at a2 b2
  rw [← a2, ← b2]
  simp [Instr.sameNow, vseq, veq, Z4s, beqS]
 ·rename_i fs hk
  cases hk
  exact .inl ⟨by simp [aggT, hu], by unfold Instr.sameNow; rfl⟩
 ·cases hck
def FindOk (C : Ctx) (key : Value) (es : List (Value × AV)) (n : Nat) (r : Option (Nat × AV)) (r' : Option (Nat × Value)) : Prop :=
 match r, r' with
 | none, none => True
 | some (i, x), some (i', v) => i' = i ∧ n ≤ i ∧ VR C x v ∧ (∃ kk, es[i - n]? = some (kk, x) ∧ vseq (vcells key) (vcells kk) = true)
 | _, _ => False
theorem FindOk.up {C : Ctx} {key : Value} {p : Value × AV} {es : List (Value × AV)} {n : Nat} {r : Option (Nat × AV)} {r' : Option (Nat × Value)} (h : FindOk C key es (n + 1) r r') : FindOk C key (p :: es) n r r' := by
 unfold FindOk at h ⊢
 split at h
 ·trivial
 ·obtain ⟨h1, h2, h3, kk, h4, h5⟩ := h
  refine ⟨h1, by omega, h3, kk, ?_, h5⟩
  rename_i i x _ _
  rw [show i - n = (i - (n + 1)) + 1 from by omega, List.getElem?_cons_succ]
  exact h4
 ·exact h.elim
theorem Z62 {C : Ctx} {kt : TypeId} {ks : List CK} {key : Value} {d : TypeDesc} (hu : P.underlying kt = some d) (hck : ckOf P 20 kt = some ks) (ha : keyOk (aggT P kt) ks key = true) (w : World) :
  ∀ (es : List (Value × AV)) (ents : List MapEntry) (n : Nat) (r : Option (Nat × AV)), es.length = ents.length →
   (∀ (i : Nat) (kk : Value) (x : AV), es[i]? = some (kk, x) → ∃ e : MapEntry, ents[i]? = some e ∧ e.key = kk ∧ VR C x e.val) → mfind (aggT P kt) ks key es n = some r →
   ∃ r', FindOk C key es n r r' ∧ (Instr.findAsking kt key ents n).run P w = .ok r' w ∧ (aggT P kt = false → Instr.findNow d key ents n = some r') ∧ (aggT P kt = true → ents ≠ [] → Instr.findNow d key ents n = none)
 | [], [], n, r, _, _, h => by
  simp only [mfind, Option.some.injEq] at h
  subst h
  exact ⟨none, trivial, by simp [Instr.findAsking, Sem.run_pure], fun _ => rfl, fun _ h => absurd rfl h⟩
 | [], _ :: _, _, _, h, _, _ => by simp at h
 | _ :: _, [], _, _, h, _, _ => by simp at h
 | (kk, x) :: es, e :: ents, n, r, hl, hes, h => by
  obtain ⟨e', he, hk', hv⟩ := hes 0 kk x rfl
  simp only [List.getElem?_cons_zero, Option.some.injEq] at he
  subst he
  simp only [mfind] at h
  cases hko : keyOk (aggT P kt) ks kk with
  | false => rw [hko] at h; cases h
  | true =>
   rw [hko, cond_true, Z4o] at h
   have heq := Z9j (P := P) hck ha hko w
   have hsn := Z7z hu hck ha hko
   cases hb : vseq (vcells key) (vcells kk) with
   | true =>
    rw [hb] at h heq
    simp only [cond_true, Option.some.injEq] at h
    subst h
    refine ⟨some (n, e.val), ⟨rfl, Nat.le_refl _, hv, kk, by simp, hb⟩, ?_, ?_, ?_⟩
    ·simp [Instr.findAsking, hk', heq, Sem.run_bind, Result.andThen]
    ·intro hag
     rcases hsn with ⟨h1, _⟩ | ⟨_, h2⟩
     ·rw [hag] at h1; cases h1
     ·simp [Instr.findNow, hk', h2, hb]
    ·intro hag _
     rcases hsn with ⟨_, h2⟩ | ⟨h1, _⟩
     ·simp [Instr.findNow, hk', h2]
     ·rw [hag] at h1; cases h1
   | false =>
    rw [hb] at h heq
    simp only [cond_false] at h
    obtain ⟨r', g1, g2, g3, g4⟩ := Z62 (C := C) hu hck ha w es ents (n + 1) r (by simpa using hl) (fun i a b c => hes (i + 1) a b (by simpa using c)) h
    refine ⟨r', g1.up, ?_, ?_, ?_⟩
    ·simp [Instr.findAsking, hk', heq, g2, Sem.run_bind, Result.andThen]
    ·intro hag
     rcases hsn with ⟨h1, _⟩ | ⟨_, h2⟩
     ·rw [hag] at h1; cases h1
     ·simp [Instr.findNow, hk', h2, hb, g3 hag]
    ·intro hag _
     rcases hsn with ⟨_, h2⟩ | ⟨h1, _⟩
     ·simp [Instr.findNow, hk', h2]
     ·rw [hag] at h1; cases h1
theorem Z0i {C : Ctx} {kt : TypeId} {ks : List CK} {key : Value} (hck : ckOf P 20 kt = some ks) (ha : keyOk (aggT P kt) ks key = true) (w : World) {es : List (Value × AV)} {ents : List MapEntry} {r : Option (Nat × AV)}
  (hl : es.length = ents.length) (hes : ∀ (i : Nat) (kk : Value) (x : AV), es[i]? = some (kk, x) → ∃ e : MapEntry, ents[i]? = some e ∧ e.key = kk ∧ VR C x e.val) (h : mfind (aggT P kt) ks key es 0 = some r) :
  ∃ r', FindOk C key es 0 r r' ∧ (Instr.findKey kt key ents).run P w = .ok r' w := by
 have hu : ∃ d, P.underlying kt = some d := by
  simp only [ckOf] at hck
  cases hz : P.underlying kt with
  | some d => exact ⟨d, rfl⟩
  | none => rw [hz] at hck; cases hck
 obtain ⟨d, hu⟩ := hu
 obtain ⟨r', h1, h2, h3, h4⟩ := Z62 (C := C) hu hck ha w es ents 0 r hl hes h
 refine ⟨r', h1, ?_⟩
 cases hag : aggT P kt with
 | false => simp [Instr.findKey, Go.run_underlying hu, h3 hag, Result.andThen, Sem.run_bind]
 | true =>
  cases ents with
  | nil =>
   have : r' = none := by
    have := h2
    simp only [Instr.findAsking, Sem.run_pure, Result.ok.injEq, and_true] at this
    exact this.symm
   subst this
   simp [Instr.findKey, Go.run_underlying hu, Instr.findNow, Result.andThen, Sem.run_bind]
  | cons e ents => simp [Instr.findKey, Go.run_underlying hu, h4 hag (by simp), h2, Result.andThen, Sem.run_bind]
theorem Z1k {kt : TypeId} {ks : List CK} {key : Value} (hck : ckOf P 20 kt = some ks) (ha : keyOk (aggT P kt) ks key = true) (b : Bool) (w : World) : (Instr.checkKey b 10000 kt key).run P w = .ok () w := by
 obtain ⟨a1, a2⟩ := Zv ha
 have := Z9g (P := P) w b 20 kt ks 10000 (vcells key) hck (by omega) a1
 rwa [a2] at this
theorem Z6u {agg : Bool} {ks : List CK} {key kk : Value} (ha : keyOk agg ks key = true) (hb : keyOk agg ks kk = true) (h : vseq (vcells key) (vcells kk) = true) : kk = key := by
 obtain ⟨a1, a2⟩ := Zv ha
 obtain ⟨b1, b2⟩ := Zv hb
 have : ∀ (xs ys : List Value) (ks : List CK), xs.map ck1 = ks.map some → ys.map ck1 = ks.map some → vseq xs ys = true → ys = xs := by
  intro xs
  induction xs with
  | nil => intro ys ks h1 h2 h3; cases ys with | nil => rfl | cons => simp [vseq] at h3
  | cons x xs ih =>
   intro ys ks h1 h2 h3
   cases ys with
   | nil => simp [vseq] at h3
   | cons y ys =>
    cases ks with
    | nil => simp at h1
    | cons k ks =>
     simp only [List.map_cons, List.cons.injEq] at h1 h2
     simp only [vseq, Bool.and_eq_true] at h3
     have e := ih ys ks h1.2 h2.2 h3.2
     subst e
     congr 1
     have h4 := h3.1
     cases k with
     | int kk =>
      obtain ⟨n, rfl⟩ := Z3i h1.1
      obtain ⟨m, rfl⟩ := Z3i h2.1
      simp only [veq, beq_iff_eq] at h4; rw [h4]
     | bool =>
      obtain ⟨n, rfl⟩ := Z1r h1.1
      obtain ⟨m, rfl⟩ := Z1r h2.1
      simp only [veq, beq_iff_eq] at h4; rw [h4]
     | str =>
      obtain ⟨n, rfl⟩ := Z3j h1.1
      obtain ⟨m, rfl⟩ := Z3j h2.1
      have : beqS n m = true := h4
      rw [beqS_iff.1 this]
 rw [← a2, ← b2, this _ _ ks a1 b1 h]
theorem Z63 : ∀ {agg : Bool} {ks : List CK} {key : Value}, keyOk agg ks key = true → Instr.sameBits 10000 key key = true := by
 intro agg ks key ha
 obtain ⟨a1, a2⟩ := Zv ha
 have h1 : ∀ (x : Value) (k : CK) (n : Nat), ck1 x = some k → Instr.sameBits n x x = true := by
  intro x k n h
  cases x <;> simp [ck1] at h <;> simp [Instr.sameBits, Z4s, Z5a]
 cases key with
 | agg cs =>
  simp only [vcells] at a1
  simp only [Instr.sameBits, beq_self_eq_true, Bool.true_and, List.all_eq_true]
  intro p hp
  obtain ⟨i, hi⟩ := List.mem_iff_getElem?.1 hp
  rw [List.getElem?_zip_eq_some] at hi
  have e : p.1 = p.2 := by have := hi.1.symm.trans hi.2; exact Option.some.inj this
  have hm := congrArg (·[i]?) a1
  simp only [List.getElem?_map, hi.1, Option.map_some] at hm
  cases hk : ks[i]? with
  | none => rw [hk] at hm; cases hm
  | some k =>
   rw [hk] at hm
   simp only [Option.map_some, Option.some.injEq] at hm
   rw [← e]; exact h1 _ k _ hm
 | _ =>
  simp only [vcells] at a1
  cases ks with
  | nil => simp at a1
  | cons k ks => simp only [List.map_cons, List.cons.injEq] at a1; exact h1 _ k _ a1.1
end
end Go.Sx
namespace Go.Sx
open Go
def avOf : Value → AV
 | .agg cs => .agg (cs.toList.map .v)
 | v => .v v
theorem Z15 {C : Ctx} (v : Value) : VR C (avOf v) v := by
 cases v with
 | agg cs => exact Z9s cs.toList
 | _ => exact .v _
def allV : List AV → Option (List Value)
 | [] => some []
 | .v x :: r => match allV r with | some l => some (x :: l) | none => none
 | _ => none
theorem Z56 : ∀ (l : List AV) (vs : List Value), allV l = some vs → l = vs.map .v
 | [], vs, h => by simp only [allV, Option.some.injEq] at h; subst h; rfl
 | x :: r, vs, h => by
  unfold allV at h
  split at h
  ·rename_i heq; cases heq
  ·rename_i heq
   cases heq
   split at h
   ·rename_i l hl
    simp only [Option.some.injEq] at h
    subst h
    simp [Z56 r l hl]
   ·cases h
  ·cases h
def keyA : AV → Option Value
 | .agg cs => match allV cs with | some l => some (.agg l.toArray) | none => none
 | .v v => some v
 | _ => none
theorem Z0o {C : Ctx} {x : AV} {k v : Value} (h : keyA x = some k) (hv : VR C x v) : v = k := by
 unfold keyA at h
 split at h
 ·rename_i cs
  split at h
  ·rename_i l hl
   simp only [Option.some.injEq] at h
   subst h
   rw [Z56 cs l hl] at hv
   exact hv.aggV
  ·cases h
 ·cases h; exact VR.val hv
 ·cases h
def mres (ok : Bool) (z : Value) (r : Option (Nat × AV)) : AV := match r with
 | some (_, x) => if ok then .tup [x, .v (.bool true)] else x
 | none => if ok then .tup [avOf z, .v (.bool false)] else avOf z
def mupd (es : List (Value × AV)) (r : Option (Nat × AV)) (key : Value) (x : AV) : List (Value × AV) := match r with
 | some (i, _) => es.set i (key, x)
 | none => es ++ [(key, x)]
def mdel (es : List (Value × AV)) (r : Option (Nat × AV)) : List (Value × AV) := match r with
 | some (i, _) => es.eraseIdx i
 | none => es
section
variable {P : Program} {o : Oper} {T : List (Nat × AV)}
theorem Z6k {t kt et id : Nat} {p q : Operand} {key : Value} {kx : AV} {es : List (Value × AV)} {r : Option (Nat × AV)} {z : Value} {ks : List CK} {ok : Bool} [hu : UD P t (.map kt et)] (hck : ckOf P 20 kt = some ks) (hz : P.zv et = some z)
  (ho : o.op = .lookup t p q ok) (hp : ev T p = some (.map id)) (hq : ev T q = some kx) (hkx : keyA kx = some key) (ha : keyOk (aggT P kt) ks key = true) (hf : mfind (aggT P kt) ks key es 0 = some r) :
  Eff P o T [(id, .mp es)] (mres ok z r) [] :=
 Z6 (by intro c; rw [ho]; nofun) fun C H a w hw hn hv => by
  have hpv := hv p (by rw [ho]; simp [Op.operands]) _ hp
  have hqv := Z0o hkx (hv q (by rw [ho]; simp [Op.operands]) _ hq)
  obtain ⟨_, b, N, ents, clock, hm, hh, hl, _, _, hrow⟩ := hw.ids _ _ (hn _ List.mem_cons_self)
  have hpe : a.eval p = .map (some b) := by
   generalize a.eval p = u at hpv
   cases hpv with
   | map _ b' N' hid _ => rw [hm] at hid; cases hid; rfl
  have hget : (getObj b).run P w = .ok (.map ents clock) w := by simp [getObj, Sem.run, hh]
  have hchk := fun b => Z1k (P := P) hck ha b w
  obtain ⟨r', h1, h2⟩ := Z0i (P := P) (C := C) (ents := ents.toList) hck ha w (by simpa using hl.symm) (fun i a b c => by rw [Array.getElem?_toList]; exact hrow i a b c) hf
  unfold FindOk at h1
  split at h1
  ·refine ⟨if ok then .tuple #[z, .bool false] else z, ?_, ?_⟩
   ·cases ok <;> simp [execOp, ho, Instr.lookup, hpe, hqv, Go.run_underlying hu.ud, hget, hchk, h2, Z53 hz, Result.andThen, Sem.run_bind]
   ·cases ok
    ·exact Z15 z
    ·exact Z1c (Z15 z) (.v _)
  ·rename_i i x i' v
   obtain ⟨_, _, h3, _⟩ := h1
   refine ⟨if ok then .tuple #[v, .bool true] else v, ?_, ?_⟩
   ·cases ok <;> simp [execOp, ho, Instr.lookup, hpe, hqv, Go.run_underlying hu.ud, hget, hchk, h2, Result.andThen, Sem.run_bind]
   ·cases ok
    ·exact h3
    ·exact Z1c h3 (.v _)
  ·exact h1.elim
theorem Z3m {t kt et : Nat} {p q : Operand} {key : Value} {kx : AV} {z : Value} {ks : List CK} {ok : Bool} [hu : UD P t (.map kt et)] (hck : ckOf P 20 kt = some ks) (hz : P.zv et = some z)
  (ho : o.op = .lookup t p q ok) (hp : ev T p = some (.v (.map none))) (hq : ev T q = some kx) (hkx : keyA kx = some key) (ha : keyOk (aggT P kt) ks key = true) :
  Eff P o T [] (mres ok z none) [] :=
 Z6 (by intro c; rw [ho]; nofun) fun C H a w hw hn hv => by
  have hpe := VR.val (hv p (by rw [ho]; simp [Op.operands]) _ hp)
  have hqv := Z0o hkx (hv q (by rw [ho]; simp [Op.operands]) _ hq)
  have hchk := fun b => Z1k (P := P) hck ha b w
  obtain ⟨r', h1, h2⟩ := Z0i (P := P) (C := C) (es := []) (ents := []) (r := none) hck ha w rfl (fun i a b c => by simp at c) rfl
  cases r' with
  | some => exact h1.elim
  | none =>
   refine ⟨if ok then .tuple #[z, .bool false] else z, ?_, ?_⟩
   ·cases ok <;> simp [execOp, ho, Instr.lookup, hpe, hqv, Go.run_underlying hu.ud, hchk, h2, Z53 hz, Result.andThen, Sem.run_bind]
   ·cases ok
    ·exact Z15 z
    ·exact Z1c (Z15 z) (.v _)
theorem Z8k {t kt et id : Nat} {p q q2 : Operand} {key : Value} {kx x : AV} {es : List (Value × AV)} {r : Option (Nat × AV)} {ks : List CK} {H : AHeap} (k : Nat) [hu : UD P t (.map kt et)] (hck : ckOf P 20 kt = some ks)
  (ho : o.op = .mapUpdate t p q q2 ∨ o.op = .insert t p q q2) (hp : ev T p = some (.map id)) (hH : H[k]? = some (id, .mp es)) (hq : ev T q = some kx) (hkx : keyA kx = some key) (hr : ev T q2 = some x) (ha : keyOk (aggT P kt) ks key = true) (hf : mfind (aggT P kt) ks key es 0 = some r) :
  EffW P o T H (H.set k (id, .mp (mupd es r key x))) := by
 intro Z C a w hswr hv ro next R hnext
 have hmem := List.mem_of_getElem? hH
 obtain ⟨hu', b, N, ents, clock, hm, hh, hl, hborn, hinj, hrow⟩ := hswr.ids _ _ hmem
 have m1 : p ∈ o.op.operands := by rcases ho with ho | ho <;> (rw [ho]; simp [Op.operands])
 have m2 : q ∈ o.op.operands := by rcases ho with ho | ho <;> (rw [ho]; simp [Op.operands])
 have m3 : q2 ∈ o.op.operands := by rcases ho with ho | ho <;> (rw [ho]; simp [Op.operands])
 have hpv := hv p m1 _ hp
 have hqv := Z0o hkx (hv q m2 _ hq)
 have hrv := hv q2 m3 _ hr
 have hsem : o.semAt ro a.eval = (do Instr.mapUpdate t (a.eval p) (a.eval q) (a.eval q2); pure .skip) := by
  rw [Oper.semAt_eq _ _ _ (by intro c; rcases ho with ho | ho <;> (rw [ho]; nofun))]
  rcases ho with ho | ho <;> simp only [execOp, ho]
 have hpe : a.eval p = .map (some b) := by
  generalize a.eval p = u at hpv
  cases hpv with
  | map _ b' N' hid _ => rw [hm] at hid; cases hid; rfl
 have hget : (getObj b).run P w = .ok (.map ents clock) w := by simp [getObj, Sem.run, hh]
 have hsetr : ∀ o', (setObj b o').run P w = .ok () (w.putObj b o') := fun o' => by simp [setObj, Sem.run, hh, World.putObj]
 have hlt : b < w.heap.size := (Array.getElem?_eq_some_iff.1 hh).1
 have hchk := fun b => Z1k (P := P) hck ha b w
 obtain ⟨r', h1, h2⟩ := Z0i (P := P) (C := C) (ents := ents.toList) hck ha w (by simpa using hl.symm) (fun i a b c => by rw [Array.getElem?_toList]; exact hrow i a b c) hf
 have fin : ∀ (ents' : Array MapEntry) (clock' : Nat) (es' : List (Value × AV)), (o.semAt ro a.eval).run P w = .ok .skip (w.putObj b (.map ents' clock')) →
   OR C id (w.putObj b (.map ents' clock')) (.mp es') → es' = mupd es r key x →
   o.uponIn (Wd ro) 0 P a next R ((o.semAt ro a.eval).run P w) := by
  intro ents' clock' es' hrun hor he
  subst he
  rw [hrun]
  obtain ⟨hw1, he1⟩ := Zt (Z := Z) (C' := C) (id' := id) (o' := .mp (mupd es r key x)) (w' := w.putObj b (.map ents' clock')) hswr hH (.refl C) rfl (.inl rfl) hu' (fun _ _ h => h) rfl rfl rfl (by simp)
   (fun b N' hm' => .inl ⟨N', hm'⟩) (fun b2 hb2 hne => World.putObj_heap_other (by rintro rfl; exact hne N hm)) hor
  exact hnext undef _ C (.v undef) hw1 he1
 have hnew : ∀ o', (w.putObj b o').heap[b]? = some o' := fun o' => World.putObj_heap_same hlt
 unfold FindOk at h1
 split at h1
 ·refine fin (ents.push { key := key, val := a.eval q2, born := clock }) (clock + 1) (es ++ [(key, x)]) ?_ ?_ rfl
  ·rw [hsem]
   simp [Instr.mapUpdate, hpe, hqv, Go.run_underlying hu.ud, hget, hchk, h2, hsetr, Result.andThen, Sem.run_bind]
  ·refine ⟨b, N, _, _, hm, hnew _, by simp [hl], ?_, ?_, ?_⟩
   ·intro i e he
    rw [Array.getElem?_push] at he
    split at he
    ·cases he; simp
    ·have := hborn i e he; omega
   ·intro i j e e' he he' hb
    rw [Array.getElem?_push] at he he'
    split at he <;> split at he'
    ·omega
    ·cases he
     have := hborn j e' he'
     simp only at hb; omega
    ·cases he'
     have := hborn i e he
     simp only at hb; omega
    ·exact hinj i j e e' he he' hb
   ·intro i kk z hz
    rw [List.getElem?_append] at hz
    split at hz
    ·rename_i hlt2
     obtain ⟨e, h7, h8⟩ := hrow i kk z hz
     exact ⟨e, by rw [Array.getElem?_push, if_neg (by omega)]; exact h7, h8⟩
    ·rename_i hge
     have hi : i = es.length := by
      have := Z7 hz; simp at this; omega
     subst hi
     simp at hz
     obtain ⟨rfl, rfl⟩ := hz
     exact ⟨{ key := key, val := a.eval q2, born := clock }, by rw [Array.getElem?_push, if_pos hl.symm], rfl, hrv⟩
 ·rename_i i y i' v
  obtain ⟨rfl, _, h3, kk, h5, h6⟩ := h1
  rw [Nat.sub_zero] at h5
  obtain ⟨e0, he0, hk0, _⟩ := hrow i' _ _ h5
  have hko : kk = key := by
   -- the entry's key was looked at
   have hkk : keyOk (aggT P kt) ks kk = true := by
    have : ∀ (l : List (Value × AV)) (n : Nat), mfind (aggT P kt) ks key l n = some (some (i', y)) → l[i' - n]? = some (kk, y) → n ≤ i' → keyOk (aggT P kt) ks kk = true := by
     intro l
     induction l with
     | nil => intro n h; simp [mfind] at h
     | cons p l ih =>
      intro n h hg hn
      obtain ⟨pk, px⟩ := p
      simp only [mfind] at h
      cases hko : keyOk (aggT P kt) ks pk with
      | false => rw [hko] at h; cases h
      | true =>
       rw [hko, cond_true] at h
       cases hb : vseqF (vcells key) (vcells pk) with
       | true =>
        rw [hb] at h
        simp only [cond_true, Option.some.injEq, Prod.mk.injEq] at h
        obtain ⟨rfl, rfl⟩ := h
        simp at hg
        rw [← hg]; exact hko
       | false =>
        rw [hb, cond_false] at h
        have hge : ∀ (l : List (Value × AV)) (n i : Nat) (z : AV), mfind (aggT P kt) ks key l n = some (some (i, z)) → n ≤ i := by
         intro l
         induction l with
         | nil => intro n i z h; simp [mfind] at h
         | cons p l ih =>
          intro n i z h
          obtain ⟨pk, px⟩ := p
          simp only [mfind] at h
          cases hko : keyOk (aggT P kt) ks pk with
          | false => rw [hko] at h; cases h
          | true =>
           rw [hko, cond_true] at h
           cases hb : vseqF (vcells key) (vcells pk) with
           | true => rw [hb] at h; simp only [cond_true, Option.some.injEq, Prod.mk.injEq] at h; omega
           | false => rw [hb, cond_false] at h; have := ih (n + 1) i z h; omega
        have h7 := hge l (n + 1) i' y h
        refine ih (n + 1) h ?_ h7
        rw [show i' - n = (i' - (n + 1)) + 1 from by omega, List.getElem?_cons_succ] at hg
        exact hg
    exact this es 0 hf h5 (Nat.zero_le _)
   exact Z6u ha hkk h6
  subst hko
  have hki : (((ents[i']?).map (·.key)).getD kk) = kk := by rw [he0]; simp [hk0]
  have hks : ∀ w, (Instr.keyThatStays kk kk).run P w = .ok kk w := by
   intro w; simp [Instr.keyThatStays, Z63 ha]
  refine fin (ents.modify i' fun e => { e with key := kk, val := a.eval q2 }) clock (es.set i' (kk, x)) ?_ ?_ rfl
  ·rw [hsem]
   simp only [Instr.mapUpdate, hpe, hqv, Sem.run_bind, Go.run_underlying hu.ud, hget, hchk, h2, Result.andThen, Sem.run_pure, hki, hks, hsetr]
  ·have hmod : ∀ (j : Nat) (e : MapEntry), (ents.modify i' fun e => { e with key := kk, val := a.eval q2 })[j]? = some e → ∃ e' : MapEntry, ents[j]? = some e' ∧ e.born = e'.born := by
    intro j e he
    rw [Array.getElem?_modify] at he
    split at he
    ·cases hj : ents[j]? with
     | none => rw [hj] at he; cases he
     | some e' => rw [hj] at he; simp at he; subst he; exact ⟨e', rfl, rfl⟩
    ·exact ⟨e, he, rfl⟩
   refine ⟨b, N, _, _, hm, hnew _, by simp [hl], ?_, ?_, ?_⟩
   ·intro j e he
    obtain ⟨e', h8, h9⟩ := hmod j e he
    rw [h9]; exact hborn j e' h8
   ·intro j m e e' he he' hbb
    obtain ⟨e1, h8, h9⟩ := hmod j e he
    obtain ⟨e2, h10, h11⟩ := hmod m e' he'
    exact hinj j m e1 e2 h8 h10 (by rw [← h9, ← h11]; exact hbb)
   ·intro j kx' z hz
    rw [List.getElem?_set] at hz
    split at hz
    ·rename_i hj
     subst hj
     split at hz
     ·cases hz
      exact ⟨{ e0 with key := kk, val := a.eval q2 }, by rw [Array.getElem?_modify, if_pos rfl, he0]; rfl, rfl, hrv⟩
     ·cases hz
    ·rename_i hj
     obtain ⟨e, h8, h9⟩ := hrow j kx' z hz
     exact ⟨e, by rw [Array.getElem?_modify, if_neg hj]; exact h8, h9⟩
 ·exact h1.elim
theorem Z8j {t tk kt et id : Nat} {p q : Operand} {key : Value} {kx : AV} {es : List (Value × AV)} {r : Option (Nat × AV)} {ks : List CK} {H : AHeap} (k : Nat) [hu : UD P t (.map kt et)] (hck : ckOf P 20 kt = some ks)
  (ho : o.op = .call { callee := .builtin .delete, args := #[p, q], argTypes := #[t, tk] }) (hp : ev T p = some (.map id)) (hH : H[k]? = some (id, .mp es)) (hq : ev T q = some kx) (hkx : keyA kx = some key) (ha : keyOk (aggT P kt) ks key = true) (hf : mfind (aggT P kt) ks key es 0 = some r) :
  EffW P o T H (H.set k (id, .mp (mdel es r))) := by
 intro Z C a w hswr hv ro next R hnext
 have hmem := List.mem_of_getElem? hH
 obtain ⟨hu', b, N, ents, clock, hm, hh, hl, hborn, hinj, hrow⟩ := hswr.ids _ _ hmem
 have hpv := hv p (by rw [ho]; simp [Op.operands, Call.operands]) _ hp
 have hqv := Z0o hkx (hv q (by rw [ho]; simp [Op.operands, Call.operands]) _ hq)
 have hpe : a.eval p = .map (some b) := by
  generalize a.eval p = u at hpv
  cases hpv with
  | map _ b' N' hid _ => rw [hm] at hid; cases hid; rfl
 have hget : (getObj b).run P w = .ok (.map ents clock) w := by simp [getObj, Sem.run, hh]
 have hsetr : ∀ o', (setObj b o').run P w = .ok () (w.putObj b o') := fun o' => by simp [setObj, Sem.run, hh, World.putObj]
 have hlt : b < w.heap.size := (Array.getElem?_eq_some_iff.1 hh).1
 have hchk := fun b => Z1k (P := P) hck ha b w
 obtain ⟨r', h1, h2⟩ := Z0i (P := P) (C := C) (ents := ents.toList) hck ha w (by simpa using hl.symm) (fun i a b c => by rw [Array.getElem?_toList]; exact hrow i a b c) hf
 have hnew : ∀ o', (w.putObj b o').heap[b]? = some o' := fun o' => World.putObj_heap_same hlt
 have fin : ∀ (ents' : Array MapEntry) (es' : List (Value × AV)), (o.semAt ro a.eval).run P w = .ok (.value (.tuple #[])) (w.putObj b (.map ents' clock)) →
   OR C id (w.putObj b (.map ents' clock)) (.mp es') → es' = mdel es r →
   o.uponIn (Wd ro) 0 P a next R ((o.semAt ro a.eval).run P w) := by
  intro ents' es' hrun hor he
  subst he
  rw [hrun]
  obtain ⟨hw1, he1⟩ := Zt (Z := Z) (C' := C) (id' := id) (o' := .mp (mdel es r)) (w' := w.putObj b (.map ents' clock)) hswr hH (.refl C) rfl (.inl rfl) hu' (fun _ _ h => h) rfl rfl rfl (by simp)
   (fun b N' hm' => .inl ⟨N', hm'⟩) (fun b2 hb2 hne => World.putObj_heap_other (by rintro rfl; exact hne N hm)) hor
  exact hnext (.tuple #[]) _ C (.v undef) hw1 he1
 unfold FindOk at h1
 split at h1
 ·refine fin ents es ?_ ⟨b, N, _, _, hm, hnew _, hl, hborn, hinj, hrow⟩ rfl
  rw [Oper.semAt_eq _ _ _ (by intro c; rw [ho]; nofun)]
  simp [execOp, ho, resolve, invoke, builtin, Builtin.delete_, hpe, hqv, Go.run_underlying hu.ud, hget, hchk, h2, hsetr, Result.andThen, Sem.run_bind]
 ·rename_i i y i' v
  obtain ⟨rfl, _, h3, kk, h5, h6⟩ := h1
  rw [Nat.sub_zero] at h5
  obtain ⟨e0, he0, hk0, _⟩ := hrow i' _ _ h5
  have hlt2 : i' < ents.size := (Array.getElem?_eq_some_iff.1 he0).1
  have hall : ∀ j, (ents.eraseIdxIfInBounds i')[j]? = ents[if j < i' then j else j + 1]? := by
   intro j
   rw [Array.eraseIdxIfInBounds_eq, dif_pos hlt2, ← Array.getElem?_toList, ← Array.getElem?_toList, Array.toList_eraseIdx, List.getElem?_eraseIdx]
   split <;> rfl
  refine fin (ents.eraseIdxIfInBounds i') (es.eraseIdx i') ?_ ?_ rfl
  ·rw [Oper.semAt_eq _ _ _ (by intro c; rw [ho]; nofun)]
   simp [execOp, ho, resolve, invoke, builtin, Builtin.delete_, hpe, hqv, Go.run_underlying hu.ud, hget, hchk, h2, hsetr, Result.andThen, Sem.run_bind]
  ·have hli : i' < es.length := by omega
   refine ⟨b, N, _, _, hm, hnew _, ?_, ?_, ?_, ?_⟩
   ·rw [Array.eraseIdxIfInBounds_eq, dif_pos hlt2, Array.size_eraseIdx, List.length_eraseIdx, if_pos hli, hl]
   ·intro j e he
    rw [hall] at he
    exact hborn _ e he
   ·intro j m e e' he he' hbb
    rw [hall] at he he'
    have := hinj _ _ e e' he he' hbb
    split at this <;> split at this <;> omega
   ·intro j kx' z hz
    rw [List.getElem?_eraseIdx] at hz
    rw [hall]
    split at hz
    ·rename_i hj; rw [if_pos hj]; exact hrow j kx' z hz
    ·rename_i hj; rw [if_neg hj]; exact hrow (j + 1) kx' z hz
 ·exact h1.elim
end
end Go.Sx
