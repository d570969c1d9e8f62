/- YtecfpjokgjdjcaaRaB2: texts of this claim, one behind the other. -/
import Derived.Test.YtecfpjokgjdjcaaRaB1
set_option linter.unusedVariables false
set_option linter.unusedSimpArgs false
set_option linter.unusedSectionVars false
set_option linter.unnecessarySimpa false
namespace Go.Sx
open Go
class Con (P : Program) (f : Nat) (xs : List AV) (x : outParam AV) : Prop where
 c : ACalls P f xs [] (Gives x)
structure Wk (A : Prop) : Prop where
 x : A
theorem wY {ops : Array Oper} {o : Oper} {T : List (Nat × AV)} {g t : Nat} {b : Bool} {og : Oper} (h : o.guard = some (g, b)) (h1 : ops[g]? = some og) (h2 : og.dst = some t) (h3 : lk T t = some (.v (.bool b))) : Wanted ops T o true := by
 cases b
 ·exact wF h h1 h2 h3
 ·exact wT h h1 h2 h3
theorem wZ {ops : Array Oper} {o : Oper} {T : List (Nat × AV)} {g t : Nat} {b : Bool} {og : Oper} (h : o.guard = some (g, b)) (h1 : ops[g]? = some og) (h2 : og.dst = some t) (h3 : lk T t = some (.v (.bool (!b)))) : Wanted ops T o false := by
 cases b
 ·exact wF h h1 h2 h3
 ·exact wT h h1 h2 h3
section
variable {P : Program} {t : TypeId} {r : List AV}
theorem Z2t {x1 x2 : AV} [h : TK P t true 2] : Ld P t (x1 :: x2 :: r) (.agg [x1, x2]) := .inr ⟨2, h.tk, by simp, rfl⟩
theorem Zfa {x1 x2 x3 : AV} [h : TK P t true 3] : Ld P t (x1 :: x2 :: x3 :: r) (.agg [x1, x2, x3]) := .inr ⟨3, h.tk, by simp, rfl⟩
theorem Zfb {x1 x2 x3 x4 : AV} [h : TK P t true 4] : Ld P t (x1 :: x2 :: x3 :: x4 :: r) (.agg [x1, x2, x3, x4]) := .inr ⟨4, h.tk, by simp, rfl⟩
theorem Zfc {x1 x2 x3 x4 x5 : AV} [h : TK P t true 5] : Ld P t (x1 :: x2 :: x3 :: x4 :: x5 :: r) (.agg [x1, x2, x3, x4, x5]) := .inr ⟨5, h.tk, by simp, rfl⟩
theorem Zfd {x1 x2 x3 x4 x5 x6 x7 : AV} [h : TK P t true 7] : Ld P t (x1 :: x2 :: x3 :: x4 :: x5 :: x6 :: x7 :: r) (.agg [x1, x2, x3, x4, x5, x6, x7]) := .inr ⟨7, h.tk, by simp, rfl⟩
end
def maskOf (ms : List Nat) (o : Oper) : Nat := o.after.foldl (fun m e => bif Region.binds .any e then m ||| (1 <<< e.on) ||| ms.getD e.on 0 else m) 0
def masksOf (l : List Oper) : List Nat := l.foldl (fun ms o => ms ++ [maskOf ms o]) []
section
variable {P : Program} {ro : Option Nat} {Q : Exit → St → Prop} {ops : Array Oper} {rest : List Oper} {T : List (Nat × AV)} {H : AHeap} {D : List Nat} {n d ty : Nat} {po : String} {af : Array Edge} {p q : Operand} {x y : AV} {t t' : TypeId} {H0 : AHeap} {KK : St → Prop} {kk : Nat} {M : List (Nat × (Nat × AObj))}
theorem zM  (h : AOps P ro ops rest Q ⟨(d, x) :: T, H, D, n⟩) (hp : ev T p = some x := by rfl) (hd : Nat.blt d n = true := by rfl) : AOps P ro ops ({ dst := some d, op := .move p, type := ty, pos := po, after := af, guard := none } :: rest) Q ⟨T, H, D, n⟩ := Z1 (w0 rfl) hd (Z0 rfl hp) h
theorem zcM  (h : Calm P ops H0 KK (kk + 1) rest M ⟨(d, x) :: T, H, D, n⟩) (hp : ev T p = some x := by rfl) (hd : Nat.blt d n = true := by rfl) : Calm P ops H0 KK kk ({ dst := some d, op := .move p, type := ty, pos := po, after := af, guard := none } :: rest) M ⟨T, H, D, n⟩ := Z9 (w0 rfl) hd (Z0 rfl hp) h
theorem Zm3  {g gt : Nat} {gb : Bool} {og : Oper} (h : Calm P ops H0 KK (kk + 1) rest M ⟨(d, x) :: T, H, D, n⟩) (g1 : ops[g]? = some og := by rfl) (g2 : og.dst = some gt := by rfl) (g3 : lk T gt = some (.v (.bool gb)) := by rfl) (hp : ev T p = some x := by rfl) (hd : Nat.blt d n = true := by rfl) : Calm P ops H0 KK kk ({ dst := some d, op := .move p, type := ty, pos := po, after := af, guard := some (g, gb) } :: rest) M ⟨T, H, D, n⟩ := Z9 (wY rfl g1 g2 g3) hd (Z0 rfl hp) h
theorem zgM  {g gt : Nat} {gb : Bool} {og : Oper} (h : AOps P ro ops rest Q ⟨(d, x) :: T, H, D, n⟩) (g1 : ops[g]? = some og := by rfl) (g2 : og.dst = some gt := by rfl) (g3 : lk T gt = some (.v (.bool gb)) := by rfl) (hp : ev T p = some x := by rfl) (hd : Nat.blt d n = true := by rfl) : AOps P ro ops ({ dst := some d, op := .move p, type := ty, pos := po, after := af, guard := some (g, gb) } :: rest) Q ⟨T, H, D, n⟩ := Z1 (wY rfl g1 g2 g3) hd (Z0 rfl hp) h
theorem zA  (h : AOps P ro ops rest Q ⟨(d, x) :: T, H, D, n⟩) (hp : ev T p = some x := by rfl) (hd : Nat.blt d n = true := by rfl) : AOps P ro ops ({ dst := some d, op := .assign p, type := ty, pos := po, after := af, guard := none } :: rest) Q ⟨T, H, D, n⟩ := Z1 (w0 rfl) hd (Z3 rfl hp) h
theorem zcA  (h : Calm P ops H0 KK (kk + 1) rest M ⟨(d, x) :: T, H, D, n⟩) (hp : ev T p = some x := by rfl) (hd : Nat.blt d n = true := by rfl) : Calm P ops H0 KK kk ({ dst := some d, op := .assign p, type := ty, pos := po, after := af, guard := none } :: rest) M ⟨T, H, D, n⟩ := Z9 (w0 rfl) hd (Z3 rfl hp) h
theorem Zlx  {g gt : Nat} {gb : Bool} {og : Oper} (h : Calm P ops H0 KK (kk + 1) rest M ⟨(d, x) :: T, H, D, n⟩) (g1 : ops[g]? = some og := by rfl) (g2 : og.dst = some gt := by rfl) (g3 : lk T gt = some (.v (.bool gb)) := by rfl) (hp : ev T p = some x := by rfl) (hd : Nat.blt d n = true := by rfl) : Calm P ops H0 KK kk ({ dst := some d, op := .assign p, type := ty, pos := po, after := af, guard := some (g, gb) } :: rest) M ⟨T, H, D, n⟩ := Z9 (wY rfl g1 g2 g3) hd (Z3 rfl hp) h
theorem zgA  {g gt : Nat} {gb : Bool} {og : Oper} (h : AOps P ro ops rest Q ⟨(d, x) :: T, H, D, n⟩) (g1 : ops[g]? = some og := by rfl) (g2 : og.dst = some gt := by rfl) (g3 : lk T gt = some (.v (.bool gb)) := by rfl) (hp : ev T p = some x := by rfl) (hd : Nat.blt d n = true := by rfl) : AOps P ro ops ({ dst := some d, op := .assign p, type := ty, pos := po, after := af, guard := some (g, gb) } :: rest) Q ⟨T, H, D, n⟩ := Z1 (wY rfl g1 g2 g3) hd (Z3 rfl hp) h
theorem zI {b : BinOp} {k : IntKind} {u v : Int} {z : Bool} (h : AOps P ro ops rest Q ⟨(d, .v (.bool z)) :: T, H, D, n⟩) (hp : ev T p = some (.v (.int k u)) := by rfl) (hq : ev T q = some (.v (.int k v)) := by rfl) (hz : icmp b u v = some z := by rfl) (hd : Nat.blt d n = true := by rfl) : AOps P ro ops ({ dst := some d, op := .binOp b t p q t', type := ty, pos := po, after := af, guard := none } :: rest) Q ⟨T, H, D, n⟩ := Z1 (w0 rfl) hd (Zb rfl hp hq hz) h
theorem zcI {b : BinOp} {k : IntKind} {u v : Int} {z : Bool} (h : Calm P ops H0 KK (kk + 1) rest M ⟨(d, .v (.bool z)) :: T, H, D, n⟩) (hp : ev T p = some (.v (.int k u)) := by rfl) (hq : ev T q = some (.v (.int k v)) := by rfl) (hz : icmp b u v = some z := by rfl) (hd : Nat.blt d n = true := by rfl) : Calm P ops H0 KK kk ({ dst := some d, op := .binOp b t p q t', type := ty, pos := po, after := af, guard := none } :: rest) M ⟨T, H, D, n⟩ := Z9 (w0 rfl) hd (Zb rfl hp hq hz) h
theorem Zlz {b : BinOp} {k : IntKind} {u v : Int} {z : Bool} {g gt : Nat} {gb : Bool} {og : Oper} (h : Calm P ops H0 KK (kk + 1) rest M ⟨(d, .v (.bool z)) :: T, H, D, n⟩) (g1 : ops[g]? = some og := by rfl) (g2 : og.dst = some gt := by rfl) (g3 : lk T gt = some (.v (.bool gb)) := by rfl) (hp : ev T p = some (.v (.int k u)) := by rfl) (hq : ev T q = some (.v (.int k v)) := by rfl) (hz : icmp b u v = some z := by rfl) (hd : Nat.blt d n = true := by rfl) : Calm P ops H0 KK kk ({ dst := some d, op := .binOp b t p q t', type := ty, pos := po, after := af, guard := some (g, gb) } :: rest) M ⟨T, H, D, n⟩ := Z9 (wY rfl g1 g2 g3) hd (Zb rfl hp hq hz) h
theorem zgI {b : BinOp} {k : IntKind} {u v : Int} {z : Bool} {g gt : Nat} {gb : Bool} {og : Oper} (h : AOps P ro ops rest Q ⟨(d, .v (.bool z)) :: T, H, D, n⟩) (g1 : ops[g]? = some og := by rfl) (g2 : og.dst = some gt := by rfl) (g3 : lk T gt = some (.v (.bool gb)) := by rfl) (hp : ev T p = some (.v (.int k u)) := by rfl) (hq : ev T q = some (.v (.int k v)) := by rfl) (hz : icmp b u v = some z := by rfl) (hd : Nat.blt d n = true := by rfl) : AOps P ro ops ({ dst := some d, op := .binOp b t p q t', type := ty, pos := po, after := af, guard := some (g, gb) } :: rest) Q ⟨T, H, D, n⟩ := Z1 (wY rfl g1 g2 g3) hd (Zb rfl hp hq hz) h
theorem zU {b : BinOp} {u v : ByteArray} {z : Bool} (h : AOps P ro ops rest Q ⟨(d, .v (.bool z)) :: T, H, D, n⟩) (hp : ev T p = some (.v (.string u)) := by rfl) (hq : ev T q = some (.v (.string v)) := by rfl) (hz : scmp b u v = some z := by rfl) (hd : Nat.blt d n = true := by rfl) : AOps P ro ops ({ dst := some d, op := .binOp b t p q t', type := ty, pos := po, after := af, guard := none } :: rest) Q ⟨T, H, D, n⟩ := Z1 (w0 rfl) hd (Z0n rfl hp hq hz) h
theorem zcU {b : BinOp} {u v : ByteArray} {z : Bool} (h : Calm P ops H0 KK (kk + 1) rest M ⟨(d, .v (.bool z)) :: T, H, D, n⟩) (hp : ev T p = some (.v (.string u)) := by rfl) (hq : ev T q = some (.v (.string v)) := by rfl) (hz : scmp b u v = some z := by rfl) (hd : Nat.blt d n = true := by rfl) : Calm P ops H0 KK kk ({ dst := some d, op := .binOp b t p q t', type := ty, pos := po, after := af, guard := none } :: rest) M ⟨T, H, D, n⟩ := Z9 (w0 rfl) hd (Z0n rfl hp hq hz) h
theorem Zm5 {b : BinOp} {u v : ByteArray} {z : Bool} {g gt : Nat} {gb : Bool} {og : Oper} (h : Calm P ops H0 KK (kk + 1) rest M ⟨(d, .v (.bool z)) :: T, H, D, n⟩) (g1 : ops[g]? = some og := by rfl) (g2 : og.dst = some gt := by rfl) (g3 : lk T gt = some (.v (.bool gb)) := by rfl) (hp : ev T p = some (.v (.string u)) := by rfl) (hq : ev T q = some (.v (.string v)) := by rfl) (hz : scmp b u v = some z := by rfl) (hd : Nat.blt d n = true := by rfl) : Calm P ops H0 KK kk ({ dst := some d, op := .binOp b t p q t', type := ty, pos := po, after := af, guard := some (g, gb) } :: rest) M ⟨T, H, D, n⟩ := Z9 (wY rfl g1 g2 g3) hd (Z0n rfl hp hq hz) h
theorem zgU {b : BinOp} {u v : ByteArray} {z : Bool} {g gt : Nat} {gb : Bool} {og : Oper} (h : AOps P ro ops rest Q ⟨(d, .v (.bool z)) :: T, H, D, n⟩) (g1 : ops[g]? = some og := by rfl) (g2 : og.dst = some gt := by rfl) (g3 : lk T gt = some (.v (.bool gb)) := by rfl) (hp : ev T p = some (.v (.string u)) := by rfl) (hq : ev T q = some (.v (.string v)) := by rfl) (hz : scmp b u v = some z := by rfl) (hd : Nat.blt d n = true := by rfl) : AOps P ro ops ({ dst := some d, op := .binOp b t p q t', type := ty, pos := po, after := af, guard := some (g, gb) } :: rest) Q ⟨T, H, D, n⟩ := Z1 (wY rfl g1 g2 g3) hd (Z0n rfl hp hq hz) h
theorem zUt {b : BinOp} {u v : ByteArray} (h : AOps P ro ops rest Q ⟨(d, .v (.bool true)) :: T, H, D, n⟩) (hp : ev T p = some (.v (.string u)) := by rfl) (hq : ev T q = some (.v (.string v)) := by rfl) (hz : scmp b u v = some true := by decide +kernel) (hd : Nat.blt d n = true := by rfl) : AOps P ro ops ({ dst := some d, op := .binOp b t p q t', type := ty, pos := po, after := af, guard := none } :: rest) Q ⟨T, H, D, n⟩ := Z1 (w0 rfl) hd (Z0n rfl hp hq hz) h
theorem Zlw {b : BinOp} {u v : ByteArray} (h : Calm P ops H0 KK (kk + 1) rest M ⟨(d, .v (.bool true)) :: T, H, D, n⟩) (hp : ev T p = some (.v (.string u)) := by rfl) (hq : ev T q = some (.v (.string v)) := by rfl) (hz : scmp b u v = some true := by decide +kernel) (hd : Nat.blt d n = true := by rfl) : Calm P ops H0 KK kk ({ dst := some d, op := .binOp b t p q t', type := ty, pos := po, after := af, guard := none } :: rest) M ⟨T, H, D, n⟩ := Z9 (w0 rfl) hd (Z0n rfl hp hq hz) h
theorem Zkr {b : BinOp} {u v : ByteArray} {g gt : Nat} {gb : Bool} {og : Oper} (h : Calm P ops H0 KK (kk + 1) rest M ⟨(d, .v (.bool true)) :: T, H, D, n⟩) (g1 : ops[g]? = some og := by rfl) (g2 : og.dst = some gt := by rfl) (g3 : lk T gt = some (.v (.bool gb)) := by rfl) (hp : ev T p = some (.v (.string u)) := by rfl) (hq : ev T q = some (.v (.string v)) := by rfl) (hz : scmp b u v = some true := by decide +kernel) (hd : Nat.blt d n = true := by rfl) : Calm P ops H0 KK kk ({ dst := some d, op := .binOp b t p q t', type := ty, pos := po, after := af, guard := some (g, gb) } :: rest) M ⟨T, H, D, n⟩ := Z9 (wY rfl g1 g2 g3) hd (Z0n rfl hp hq hz) h
theorem Zms {b : BinOp} {u v : ByteArray} {g gt : Nat} {gb : Bool} {og : Oper} (h : AOps P ro ops rest Q ⟨(d, .v (.bool true)) :: T, H, D, n⟩) (g1 : ops[g]? = some og := by rfl) (g2 : og.dst = some gt := by rfl) (g3 : lk T gt = some (.v (.bool gb)) := by rfl) (hp : ev T p = some (.v (.string u)) := by rfl) (hq : ev T q = some (.v (.string v)) := by rfl) (hz : scmp b u v = some true := by decide +kernel) (hd : Nat.blt d n = true := by rfl) : AOps P ro ops ({ dst := some d, op := .binOp b t p q t', type := ty, pos := po, after := af, guard := some (g, gb) } :: rest) Q ⟨T, H, D, n⟩ := Z1 (wY rfl g1 g2 g3) hd (Z0n rfl hp hq hz) h
theorem zUf {b : BinOp} {u v : ByteArray} (h : AOps P ro ops rest Q ⟨(d, .v (.bool false)) :: T, H, D, n⟩) (hp : ev T p = some (.v (.string u)) := by rfl) (hq : ev T q = some (.v (.string v)) := by rfl) (hz : scmp b u v = some false := by decide +kernel) (hd : Nat.blt d n = true := by rfl) : AOps P ro ops ({ dst := some d, op := .binOp b t p q t', type := ty, pos := po, after := af, guard := none } :: rest) Q ⟨T, H, D, n⟩ := Z1 (w0 rfl) hd (Z0n rfl hp hq hz) h
theorem Zlv {b : BinOp} {u v : ByteArray} (h : Calm P ops H0 KK (kk + 1) rest M ⟨(d, .v (.bool false)) :: T, H, D, n⟩) (hp : ev T p = some (.v (.string u)) := by rfl) (hq : ev T q = some (.v (.string v)) := by rfl) (hz : scmp b u v = some false := by decide +kernel) (hd : Nat.blt d n = true := by rfl) : Calm P ops H0 KK kk ({ dst := some d, op := .binOp b t p q t', type := ty, pos := po, after := af, guard := none } :: rest) M ⟨T, H, D, n⟩ := Z9 (w0 rfl) hd (Z0n rfl hp hq hz) h
theorem Zkq {b : BinOp} {u v : ByteArray} {g gt : Nat} {gb : Bool} {og : Oper} (h : Calm P ops H0 KK (kk + 1) rest M ⟨(d, .v (.bool false)) :: T, H, D, n⟩) (g1 : ops[g]? = some og := by rfl) (g2 : og.dst = some gt := by rfl) (g3 : lk T gt = some (.v (.bool gb)) := by rfl) (hp : ev T p = some (.v (.string u)) := by rfl) (hq : ev T q = some (.v (.string v)) := by rfl) (hz : scmp b u v = some false := by decide +kernel) (hd : Nat.blt d n = true := by rfl) : Calm P ops H0 KK kk ({ dst := some d, op := .binOp b t p q t', type := ty, pos := po, after := af, guard := some (g, gb) } :: rest) M ⟨T, H, D, n⟩ := Z9 (wY rfl g1 g2 g3) hd (Z0n rfl hp hq hz) h
theorem Zmr {b : BinOp} {u v : ByteArray} {g gt : Nat} {gb : Bool} {og : Oper} (h : AOps P ro ops rest Q ⟨(d, .v (.bool false)) :: T, H, D, n⟩) (g1 : ops[g]? = some og := by rfl) (g2 : og.dst = some gt := by rfl) (g3 : lk T gt = some (.v (.bool gb)) := by rfl) (hp : ev T p = some (.v (.string u)) := by rfl) (hq : ev T q = some (.v (.string v)) := by rfl) (hz : scmp b u v = some false := by decide +kernel) (hd : Nat.blt d n = true := by rfl) : AOps P ro ops ({ dst := some d, op := .binOp b t p q t', type := ty, pos := po, after := af, guard := some (g, gb) } :: rest) Q ⟨T, H, D, n⟩ := Z1 (wY rfl g1 g2 g3) hd (Z0n rfl hp hq hz) h
theorem zK {b : BinOp} {z : Bool} {e : Nat} (h : AOps P ro ops rest Q ⟨(d, .v (.bool z)) :: T, H, D, n⟩) (hp : ev T p = some (.v (.pointer none)) := by rfl) (hq : ev T q = some (.v (.pointer none)) := by rfl) (hb : pcmp b true = some z := by rfl) [hu : UD P t (.pointer e)] (hd : Nat.blt d n = true := by rfl) : AOps P ro ops ({ dst := some d, op := .binOp b t p q t', type := ty, pos := po, after := af, guard := none } :: rest) Q ⟨T, H, D, n⟩ := Z1 (w0 rfl) hd (Z8c rfl hp hq hb) h
theorem zcK {b : BinOp} {z : Bool} {e : Nat} (h : Calm P ops H0 KK (kk + 1) rest M ⟨(d, .v (.bool z)) :: T, H, D, n⟩) (hp : ev T p = some (.v (.pointer none)) := by rfl) (hq : ev T q = some (.v (.pointer none)) := by rfl) (hb : pcmp b true = some z := by rfl) [hu : UD P t (.pointer e)] (hd : Nat.blt d n = true := by rfl) : Calm P ops H0 KK kk ({ dst := some d, op := .binOp b t p q t', type := ty, pos := po, after := af, guard := none } :: rest) M ⟨T, H, D, n⟩ := Z9 (w0 rfl) hd (Z8c rfl hp hq hb) h
theorem Zm1 {b : BinOp} {z : Bool} {e : Nat} {g gt : Nat} {gb : Bool} {og : Oper} (h : Calm P ops H0 KK (kk + 1) rest M ⟨(d, .v (.bool z)) :: T, H, D, n⟩) (g1 : ops[g]? = some og := by rfl) (g2 : og.dst = some gt := by rfl) (g3 : lk T gt = some (.v (.bool gb)) := by rfl) (hp : ev T p = some (.v (.pointer none)) := by rfl) (hq : ev T q = some (.v (.pointer none)) := by rfl) (hb : pcmp b true = some z := by rfl) [hu : UD P t (.pointer e)] (hd : Nat.blt d n = true := by rfl) : Calm P ops H0 KK kk ({ dst := some d, op := .binOp b t p q t', type := ty, pos := po, after := af, guard := some (g, gb) } :: rest) M ⟨T, H, D, n⟩ := Z9 (wY rfl g1 g2 g3) hd (Z8c rfl hp hq hb) h
theorem zgK {b : BinOp} {z : Bool} {e : Nat} {g gt : Nat} {gb : Bool} {og : Oper} (h : AOps P ro ops rest Q ⟨(d, .v (.bool z)) :: T, H, D, n⟩) (g1 : ops[g]? = some og := by rfl) (g2 : og.dst = some gt := by rfl) (g3 : lk T gt = some (.v (.bool gb)) := by rfl) (hp : ev T p = some (.v (.pointer none)) := by rfl) (hq : ev T q = some (.v (.pointer none)) := by rfl) (hb : pcmp b true = some z := by rfl) [hu : UD P t (.pointer e)] (hd : Nat.blt d n = true := by rfl) : AOps P ro ops ({ dst := some d, op := .binOp b t p q t', type := ty, pos := po, after := af, guard := some (g, gb) } :: rest) Q ⟨T, H, D, n⟩ := Z1 (wY rfl g1 g2 g3) hd (Z8c rfl hp hq hb) h
theorem zJ {b : BinOp} {z : Bool} {e id sz i c : Nat} (h : AOps P ro ops rest Q ⟨(d, .v (.bool z)) :: T, H, D, n⟩) (hp : ev T p = some (.ptr id sz i c) := by rfl) (hq : ev T q = some (.v (.pointer none)) := by rfl) (hb : pcmp b false = some z := by rfl) [hu : UD P t (.pointer e)] (hd : Nat.blt d n = true := by rfl) : AOps P ro ops ({ dst := some d, op := .binOp b t p q t', type := ty, pos := po, after := af, guard := none } :: rest) Q ⟨T, H, D, n⟩ := Z1 (w0 rfl) hd (Z8d rfl hp hq hb) h
theorem zcJ {b : BinOp} {z : Bool} {e id sz i c : Nat} (h : Calm P ops H0 KK (kk + 1) rest M ⟨(d, .v (.bool z)) :: T, H, D, n⟩) (hp : ev T p = some (.ptr id sz i c) := by rfl) (hq : ev T q = some (.v (.pointer none)) := by rfl) (hb : pcmp b false = some z := by rfl) [hu : UD P t (.pointer e)] (hd : Nat.blt d n = true := by rfl) : Calm P ops H0 KK kk ({ dst := some d, op := .binOp b t p q t', type := ty, pos := po, after := af, guard := none } :: rest) M ⟨T, H, D, n⟩ := Z9 (w0 rfl) hd (Z8d rfl hp hq hb) h
theorem Zm0 {b : BinOp} {z : Bool} {e id sz i c : Nat} {g gt : Nat} {gb : Bool} {og : Oper} (h : Calm P ops H0 KK (kk + 1) rest M ⟨(d, .v (.bool z)) :: T, H, D, n⟩) (g1 : ops[g]? = some og := by rfl) (g2 : og.dst = some gt := by rfl) (g3 : lk T gt = some (.v (.bool gb)) := by rfl) (hp : ev T p = some (.ptr id sz i c) := by rfl) (hq : ev T q = some (.v (.pointer none)) := by rfl) (hb : pcmp b false = some z := by rfl) [hu : UD P t (.pointer e)] (hd : Nat.blt d n = true := by rfl) : Calm P ops H0 KK kk ({ dst := some d, op := .binOp b t p q t', type := ty, pos := po, after := af, guard := some (g, gb) } :: rest) M ⟨T, H, D, n⟩ := Z9 (wY rfl g1 g2 g3) hd (Z8d rfl hp hq hb) h
theorem zgJ {b : BinOp} {z : Bool} {e id sz i c : Nat} {g gt : Nat} {gb : Bool} {og : Oper} (h : AOps P ro ops rest Q ⟨(d, .v (.bool z)) :: T, H, D, n⟩) (g1 : ops[g]? = some og := by rfl) (g2 : og.dst = some gt := by rfl) (g3 : lk T gt = some (.v (.bool gb)) := by rfl) (hp : ev T p = some (.ptr id sz i c) := by rfl) (hq : ev T q = some (.v (.pointer none)) := by rfl) (hb : pcmp b false = some z := by rfl) [hu : UD P t (.pointer e)] (hd : Nat.blt d n = true := by rfl) : AOps P ro ops ({ dst := some d, op := .binOp b t p q t', type := ty, pos := po, after := af, guard := some (g, gb) } :: rest) Q ⟨T, H, D, n⟩ := Z1 (wY rfl g1 g2 g3) hd (Z8d rfl hp hq hb) h
theorem zP {u v : Int} (h : AOps P ro ops rest Q ⟨(d, .v (.int .i64 (u + v))) :: T, H, D, n⟩) (hp : ev T p = some (.v (.int .i64 u)) := by rfl) (hq : ev T q = some (.v (.int .i64 v)) := by rfl) (hz : -9223372036854775808 ≤ u + v ∧ u + v ≤ 9223372036854775807 := by first | omega | decide +kernel) (hd : Nat.blt d n = true := by rfl) : AOps P ro ops ({ dst := some d, op := .binOp .add t p q t', type := ty, pos := po, after := af, guard := none } :: rest) Q ⟨T, H, D, n⟩ := Z1 (w0 rfl) hd (Z7 rfl hp hq (Zd hz)) h
theorem zcP {u v : Int} (h : Calm P ops H0 KK (kk + 1) rest M ⟨(d, .v (.int .i64 (u + v))) :: T, H, D, n⟩) (hp : ev T p = some (.v (.int .i64 u)) := by rfl) (hq : ev T q = some (.v (.int .i64 v)) := by rfl) (hz : -9223372036854775808 ≤ u + v ∧ u + v ≤ 9223372036854775807 := by first | omega | decide +kernel) (hd : Nat.blt d n = true := by rfl) : Calm P ops H0 KK kk ({ dst := some d, op := .binOp .add t p q t', type := ty, pos := po, after := af, guard := none } :: rest) M ⟨T, H, D, n⟩ := Z9 (w0 rfl) hd (Z7 rfl hp hq (Zd hz)) h
theorem Zm4 {u v : Int} {g gt : Nat} {gb : Bool} {og : Oper} (h : Calm P ops H0 KK (kk + 1) rest M ⟨(d, .v (.int .i64 (u + v))) :: T, H, D, n⟩) (g1 : ops[g]? = some og := by rfl) (g2 : og.dst = some gt := by rfl) (g3 : lk T gt = some (.v (.bool gb)) := by rfl) (hp : ev T p = some (.v (.int .i64 u)) := by rfl) (hq : ev T q = some (.v (.int .i64 v)) := by rfl) (hz : -9223372036854775808 ≤ u + v ∧ u + v ≤ 9223372036854775807 := by first | omega | decide +kernel) (hd : Nat.blt d n = true := by rfl) : Calm P ops H0 KK kk ({ dst := some d, op := .binOp .add t p q t', type := ty, pos := po, after := af, guard := some (g, gb) } :: rest) M ⟨T, H, D, n⟩ := Z9 (wY rfl g1 g2 g3) hd (Z7 rfl hp hq (Zd hz)) h
theorem zgP {u v : Int} {g gt : Nat} {gb : Bool} {og : Oper} (h : AOps P ro ops rest Q ⟨(d, .v (.int .i64 (u + v))) :: T, H, D, n⟩) (g1 : ops[g]? = some og := by rfl) (g2 : og.dst = some gt := by rfl) (g3 : lk T gt = some (.v (.bool gb)) := by rfl) (hp : ev T p = some (.v (.int .i64 u)) := by rfl) (hq : ev T q = some (.v (.int .i64 v)) := by rfl) (hz : -9223372036854775808 ≤ u + v ∧ u + v ≤ 9223372036854775807 := by first | omega | decide +kernel) (hd : Nat.blt d n = true := by rfl) : AOps P ro ops ({ dst := some d, op := .binOp .add t p q t', type := ty, pos := po, after := af, guard := some (g, gb) } :: rest) Q ⟨T, H, D, n⟩ := Z1 (wY rfl g1 g2 g3) hd (Z7 rfl hp hq (Zd hz)) h
theorem zL {u v : Int} (h : AOps P ro ops rest Q ⟨(d, .v (.int .i64 (u - v))) :: T, H, D, n⟩) (hp : ev T p = some (.v (.int .i64 u)) := by rfl) (hq : ev T q = some (.v (.int .i64 v)) := by rfl) (hz : -9223372036854775808 ≤ u - v ∧ u - v ≤ 9223372036854775807 := by first | omega | decide +kernel) (hd : Nat.blt d n = true := by rfl) : AOps P ro ops ({ dst := some d, op := .binOp .sub t p q t', type := ty, pos := po, after := af, guard := none } :: rest) Q ⟨T, H, D, n⟩ := Z1 (w0 rfl) hd (Z7 rfl hp hq (Zg hz)) h
theorem zcL {u v : Int} (h : Calm P ops H0 KK (kk + 1) rest M ⟨(d, .v (.int .i64 (u - v))) :: T, H, D, n⟩) (hp : ev T p = some (.v (.int .i64 u)) := by rfl) (hq : ev T q = some (.v (.int .i64 v)) := by rfl) (hz : -9223372036854775808 ≤ u - v ∧ u - v ≤ 9223372036854775807 := by first | omega | decide +kernel) (hd : Nat.blt d n = true := by rfl) : Calm P ops H0 KK kk ({ dst := some d, op := .binOp .sub t p q t', type := ty, pos := po, after := af, guard := none } :: rest) M ⟨T, H, D, n⟩ := Z9 (w0 rfl) hd (Z7 rfl hp hq (Zg hz)) h
theorem Zm2 {u v : Int} {g gt : Nat} {gb : Bool} {og : Oper} (h : Calm P ops H0 KK (kk + 1) rest M ⟨(d, .v (.int .i64 (u - v))) :: T, H, D, n⟩) (g1 : ops[g]? = some og := by rfl) (g2 : og.dst = some gt := by rfl) (g3 : lk T gt = some (.v (.bool gb)) := by rfl) (hp : ev T p = some (.v (.int .i64 u)) := by rfl) (hq : ev T q = some (.v (.int .i64 v)) := by rfl) (hz : -9223372036854775808 ≤ u - v ∧ u - v ≤ 9223372036854775807 := by first | omega | decide +kernel) (hd : Nat.blt d n = true := by rfl) : Calm P ops H0 KK kk ({ dst := some d, op := .binOp .sub t p q t', type := ty, pos := po, after := af, guard := some (g, gb) } :: rest) M ⟨T, H, D, n⟩ := Z9 (wY rfl g1 g2 g3) hd (Z7 rfl hp hq (Zg hz)) h
theorem zgL {u v : Int} {g gt : Nat} {gb : Bool} {og : Oper} (h : AOps P ro ops rest Q ⟨(d, .v (.int .i64 (u - v))) :: T, H, D, n⟩) (g1 : ops[g]? = some og := by rfl) (g2 : og.dst = some gt := by rfl) (g3 : lk T gt = some (.v (.bool gb)) := by rfl) (hp : ev T p = some (.v (.int .i64 u)) := by rfl) (hq : ev T q = some (.v (.int .i64 v)) := by rfl) (hz : -9223372036854775808 ≤ u - v ∧ u - v ≤ 9223372036854775807 := by first | omega | decide +kernel) (hd : Nat.blt d n = true := by rfl) : AOps P ro ops ({ dst := some d, op := .binOp .sub t p q t', type := ty, pos := po, after := af, guard := some (g, gb) } :: rest) Q ⟨T, H, D, n⟩ := Z1 (wY rfl g1 g2 g3) hd (Z7 rfl hp hq (Zg hz)) h
theorem zNt {u : Bool} (h : AOps P ro ops rest Q ⟨(d, .v (.bool (!u))) :: T, H, D, n⟩) (hp : ev T p = some (.v (.bool u)) := by rfl) (hd : Nat.blt d n = true := by rfl) : AOps P ro ops ({ dst := some d, op := .unOp .not t p, type := ty, pos := po, after := af, guard := none } :: rest) Q ⟨T, H, D, n⟩ := Z1 (w0 rfl) hd (Z0j rfl hp) h
theorem Zlr {u : Bool} (h : Calm P ops H0 KK (kk + 1) rest M ⟨(d, .v (.bool (!u))) :: T, H, D, n⟩) (hp : ev T p = some (.v (.bool u)) := by rfl) (hd : Nat.blt d n = true := by rfl) : Calm P ops H0 KK kk ({ dst := some d, op := .unOp .not t p, type := ty, pos := po, after := af, guard := none } :: rest) M ⟨T, H, D, n⟩ := Z9 (w0 rfl) hd (Z0j rfl hp) h
theorem Zkm {u : Bool} {g gt : Nat} {gb : Bool} {og : Oper} (h : Calm P ops H0 KK (kk + 1) rest M ⟨(d, .v (.bool (!u))) :: T, H, D, n⟩) (g1 : ops[g]? = some og := by rfl) (g2 : og.dst = some gt := by rfl) (g3 : lk T gt = some (.v (.bool gb)) := by rfl) (hp : ev T p = some (.v (.bool u)) := by rfl) (hd : Nat.blt d n = true := by rfl) : Calm P ops H0 KK kk ({ dst := some d, op := .unOp .not t p, type := ty, pos := po, after := af, guard := some (g, gb) } :: rest) M ⟨T, H, D, n⟩ := Z9 (wY rfl g1 g2 g3) hd (Z0j rfl hp) h
theorem Zmn {u : Bool} {g gt : Nat} {gb : Bool} {og : Oper} (h : AOps P ro ops rest Q ⟨(d, .v (.bool (!u))) :: T, H, D, n⟩) (g1 : ops[g]? = some og := by rfl) (g2 : og.dst = some gt := by rfl) (g3 : lk T gt = some (.v (.bool gb)) := by rfl) (hp : ev T p = some (.v (.bool u)) := by rfl) (hd : Nat.blt d n = true := by rfl) : AOps P ro ops ({ dst := some d, op := .unOp .not t p, type := ty, pos := po, after := af, guard := some (g, gb) } :: rest) Q ⟨T, H, D, n⟩ := Z1 (wY rfl g1 g2 g3) hd (Z0j rfl hp) h
theorem zPT {c : Operand} (h : AOps P ro ops rest Q ⟨(d, x) :: T, H, D, n⟩) (hc : ev T c = some (.v (.bool true)) := by rfl) (hp : ev T p = some x := by rfl) (hq : ev T q = some y := by rfl) (hd : Nat.blt d n = true := by rfl) : AOps P ro ops ({ dst := some d, op := .pick c p q, type := ty, pos := po, after := af, guard := none } :: rest) Q ⟨T, H, D, n⟩ := Z1 (w0 rfl) hd (Z1a (t := true) rfl hc hp hq) h
theorem Zlt {c : Operand} (h : Calm P ops H0 KK (kk + 1) rest M ⟨(d, x) :: T, H, D, n⟩) (hc : ev T c = some (.v (.bool true)) := by rfl) (hp : ev T p = some x := by rfl) (hq : ev T q = some y := by rfl) (hd : Nat.blt d n = true := by rfl) : Calm P ops H0 KK kk ({ dst := some d, op := .pick c p q, type := ty, pos := po, after := af, guard := none } :: rest) M ⟨T, H, D, n⟩ := Z9 (w0 rfl) hd (Z1a (t := true) rfl hc hp hq) h
theorem Zko {c : Operand} {g gt : Nat} {gb : Bool} {og : Oper} (h : Calm P ops H0 KK (kk + 1) rest M ⟨(d, x) :: T, H, D, n⟩) (g1 : ops[g]? = some og := by rfl) (g2 : og.dst = some gt := by rfl) (g3 : lk T gt = some (.v (.bool gb)) := by rfl) (hc : ev T c = some (.v (.bool true)) := by rfl) (hp : ev T p = some x := by rfl) (hq : ev T q = some y := by rfl) (hd : Nat.blt d n = true := by rfl) : Calm P ops H0 KK kk ({ dst := some d, op := .pick c p q, type := ty, pos := po, after := af, guard := some (g, gb) } :: rest) M ⟨T, H, D, n⟩ := Z9 (wY rfl g1 g2 g3) hd (Z1a (t := true) rfl hc hp hq) h
theorem Zmp {c : Operand} {g gt : Nat} {gb : Bool} {og : Oper} (h : AOps P ro ops rest Q ⟨(d, x) :: T, H, D, n⟩) (g1 : ops[g]? = some og := by rfl) (g2 : og.dst = some gt := by rfl) (g3 : lk T gt = some (.v (.bool gb)) := by rfl) (hc : ev T c = some (.v (.bool true)) := by rfl) (hp : ev T p = some x := by rfl) (hq : ev T q = some y := by rfl) (hd : Nat.blt d n = true := by rfl) : AOps P ro ops ({ dst := some d, op := .pick c p q, type := ty, pos := po, after := af, guard := some (g, gb) } :: rest) Q ⟨T, H, D, n⟩ := Z1 (wY rfl g1 g2 g3) hd (Z1a (t := true) rfl hc hp hq) h
theorem zPF {c : Operand} (h : AOps P ro ops rest Q ⟨(d, x) :: T, H, D, n⟩) (hc : ev T c = some (.v (.bool false)) := by rfl) (hp : ev T p = some y := by rfl) (hq : ev T q = some x := by rfl) (hd : Nat.blt d n = true := by rfl) : AOps P ro ops ({ dst := some d, op := .pick c p q, type := ty, pos := po, after := af, guard := none } :: rest) Q ⟨T, H, D, n⟩ := Z1 (w0 rfl) hd (Z1a (t := false) rfl hc hp hq) h
theorem Zls {c : Operand} (h : Calm P ops H0 KK (kk + 1) rest M ⟨(d, x) :: T, H, D, n⟩) (hc : ev T c = some (.v (.bool false)) := by rfl) (hp : ev T p = some y := by rfl) (hq : ev T q = some x := by rfl) (hd : Nat.blt d n = true := by rfl) : Calm P ops H0 KK kk ({ dst := some d, op := .pick c p q, type := ty, pos := po, after := af, guard := none } :: rest) M ⟨T, H, D, n⟩ := Z9 (w0 rfl) hd (Z1a (t := false) rfl hc hp hq) h
theorem Zkn {c : Operand} {g gt : Nat} {gb : Bool} {og : Oper} (h : Calm P ops H0 KK (kk + 1) rest M ⟨(d, x) :: T, H, D, n⟩) (g1 : ops[g]? = some og := by rfl) (g2 : og.dst = some gt := by rfl) (g3 : lk T gt = some (.v (.bool gb)) := by rfl) (hc : ev T c = some (.v (.bool false)) := by rfl) (hp : ev T p = some y := by rfl) (hq : ev T q = some x := by rfl) (hd : Nat.blt d n = true := by rfl) : Calm P ops H0 KK kk ({ dst := some d, op := .pick c p q, type := ty, pos := po, after := af, guard := some (g, gb) } :: rest) M ⟨T, H, D, n⟩ := Z9 (wY rfl g1 g2 g3) hd (Z1a (t := false) rfl hc hp hq) h
theorem Zmo {c : Operand} {g gt : Nat} {gb : Bool} {og : Oper} (h : AOps P ro ops rest Q ⟨(d, x) :: T, H, D, n⟩) (g1 : ops[g]? = some og := by rfl) (g2 : og.dst = some gt := by rfl) (g3 : lk T gt = some (.v (.bool gb)) := by rfl) (hc : ev T c = some (.v (.bool false)) := by rfl) (hp : ev T p = some y := by rfl) (hq : ev T q = some x := by rfl) (hd : Nat.blt d n = true := by rfl) : AOps P ro ops ({ dst := some d, op := .pick c p q, type := ty, pos := po, after := af, guard := some (g, gb) } :: rest) Q ⟨T, H, D, n⟩ := Z1 (wY rfl g1 g2 g3) hd (Z1a (t := false) rfl hc hp hq) h
theorem zLn {td : TypeDesc} {m : Nat} (h : AOps P ro ops rest Q ⟨(d, .v (.int .i64 (m : Int))) :: T, H, D, n⟩) (hp : ev T p = some x := by rfl) (hx : lenA x = some m := by rfl) [hu : UD P t td] (hlt : lenT x td = true := by rfl) (hd : Nat.blt d n = true := by rfl) : AOps P ro ops ({ dst := some d, op := .call { callee := .builtin .len, args := #[p], argTypes := #[t] }, type := ty, pos := po, after := af, guard := none } :: rest) Q ⟨T, H, D, n⟩ := Z1 (w0 rfl) hd (Z10 rfl hp hx hlt) h
theorem Zlo {td : TypeDesc} {m : Nat} (h : Calm P ops H0 KK (kk + 1) rest M ⟨(d, .v (.int .i64 (m : Int))) :: T, H, D, n⟩) (hp : ev T p = some x := by rfl) (hx : lenA x = some m := by rfl) [hu : UD P t td] (hlt : lenT x td = true := by rfl) (hd : Nat.blt d n = true := by rfl) : Calm P ops H0 KK kk ({ dst := some d, op := .call { callee := .builtin .len, args := #[p], argTypes := #[t] }, type := ty, pos := po, after := af, guard := none } :: rest) M ⟨T, H, D, n⟩ := Z9 (w0 rfl) hd (Z10 rfl hp hx hlt) h
theorem Zkj {td : TypeDesc} {m : Nat} {g gt : Nat} {gb : Bool} {og : Oper} (h : Calm P ops H0 KK (kk + 1) rest M ⟨(d, .v (.int .i64 (m : Int))) :: T, H, D, n⟩) (g1 : ops[g]? = some og := by rfl) (g2 : og.dst = some gt := by rfl) (g3 : lk T gt = some (.v (.bool gb)) := by rfl) (hp : ev T p = some x := by rfl) (hx : lenA x = some m := by rfl) [hu : UD P t td] (hlt : lenT x td = true := by rfl) (hd : Nat.blt d n = true := by rfl) : Calm P ops H0 KK kk ({ dst := some d, op := .call { callee := .builtin .len, args := #[p], argTypes := #[t] }, type := ty, pos := po, after := af, guard := some (g, gb) } :: rest) M ⟨T, H, D, n⟩ := Z9 (wY rfl g1 g2 g3) hd (Z10 rfl hp hx hlt) h
theorem Zmk {td : TypeDesc} {m : Nat} {g gt : Nat} {gb : Bool} {og : Oper} (h : AOps P ro ops rest Q ⟨(d, .v (.int .i64 (m : Int))) :: T, H, D, n⟩) (g1 : ops[g]? = some og := by rfl) (g2 : og.dst = some gt := by rfl) (g3 : lk T gt = some (.v (.bool gb)) := by rfl) (hp : ev T p = some x := by rfl) (hx : lenA x = some m := by rfl) [hu : UD P t td] (hlt : lenT x td = true := by rfl) (hd : Nat.blt d n = true := by rfl) : AOps P ro ops ({ dst := some d, op := .call { callee := .builtin .len, args := #[p], argTypes := #[t] }, type := ty, pos := po, after := af, guard := some (g, gb) } :: rest) Q ⟨T, H, D, n⟩ := Z1 (wY rfl g1 g2 g3) hd (Z10 rfl hp hx hlt) h
theorem zEq {ks : List CK} {us vs : List AV} (h : AOps P ro ops rest Q ⟨(d, .v (.bool (ceqs us vs))) :: T, H, D, n⟩) (hp : ev T p = some (.agg us) := by rfl) (hq : ev T q = some (.agg vs) := by rfl) [hq' : EQ P t ks] (hx : us.map ckA = ks.map some := by rfl) (hy : vs.map ckA = ks.map some := by rfl) (hd : Nat.blt d n = true := by rfl) : AOps P ro ops ({ dst := some d, op := .binOp .eql t p q t', type := ty, pos := po, after := af, guard := none } :: rest) Q ⟨T, H, D, n⟩ := Z1 (w0 rfl) hd (Z1m rfl hp hq hx hy) h
theorem Zln {ks : List CK} {us vs : List AV} (h : Calm P ops H0 KK (kk + 1) rest M ⟨(d, .v (.bool (ceqs us vs))) :: T, H, D, n⟩) (hp : ev T p = some (.agg us) := by rfl) (hq : ev T q = some (.agg vs) := by rfl) [hq' : EQ P t ks] (hx : us.map ckA = ks.map some := by rfl) (hy : vs.map ckA = ks.map some := by rfl) (hd : Nat.blt d n = true := by rfl) : Calm P ops H0 KK kk ({ dst := some d, op := .binOp .eql t p q t', type := ty, pos := po, after := af, guard := none } :: rest) M ⟨T, H, D, n⟩ := Z9 (w0 rfl) hd (Z1m rfl hp hq hx hy) h
theorem Zki {ks : List CK} {us vs : List AV} {g gt : Nat} {gb : Bool} {og : Oper} (h : Calm P ops H0 KK (kk + 1) rest M ⟨(d, .v (.bool (ceqs us vs))) :: T, H, D, n⟩) (g1 : ops[g]? = some og := by rfl) (g2 : og.dst = some gt := by rfl) (g3 : lk T gt = some (.v (.bool gb)) := by rfl) (hp : ev T p = some (.agg us) := by rfl) (hq : ev T q = some (.agg vs) := by rfl) [hq' : EQ P t ks] (hx : us.map ckA = ks.map some := by rfl) (hy : vs.map ckA = ks.map some := by rfl) (hd : Nat.blt d n = true := by rfl) : Calm P ops H0 KK kk ({ dst := some d, op := .binOp .eql t p q t', type := ty, pos := po, after := af, guard := some (g, gb) } :: rest) M ⟨T, H, D, n⟩ := Z9 (wY rfl g1 g2 g3) hd (Z1m rfl hp hq hx hy) h
theorem Zmj {ks : List CK} {us vs : List AV} {g gt : Nat} {gb : Bool} {og : Oper} (h : AOps P ro ops rest Q ⟨(d, .v (.bool (ceqs us vs))) :: T, H, D, n⟩) (g1 : ops[g]? = some og := by rfl) (g2 : og.dst = some gt := by rfl) (g3 : lk T gt = some (.v (.bool gb)) := by rfl) (hp : ev T p = some (.agg us) := by rfl) (hq : ev T q = some (.agg vs) := by rfl) [hq' : EQ P t ks] (hx : us.map ckA = ks.map some := by rfl) (hy : vs.map ckA = ks.map some := by rfl) (hd : Nat.blt d n = true := by rfl) : AOps P ro ops ({ dst := some d, op := .binOp .eql t p q t', type := ty, pos := po, after := af, guard := some (g, gb) } :: rest) Q ⟨T, H, D, n⟩ := Z1 (wY rfl g1 g2 g3) hd (Z1m rfl hp hq hx hy) h
theorem Zl8 {ks : List CK} {us vs : List AV} (h : AOps P ro ops rest Q ⟨(d, .v (.bool true)) :: T, H, D, n⟩) (hp : ev T p = some (.agg us) := by rfl) (hq : ev T q = some (.agg vs) := by rfl) [hq' : EQ P t ks] (hx : us.map ckA = ks.map some := by rfl) (hy : vs.map ckA = ks.map some := by rfl) (hz : ceqs us vs = true := by decide +kernel) (hd : Nat.blt d n = true := by rfl) : AOps P ro ops ({ dst := some d, op := .binOp .eql t p q t', type := ty, pos := po, after := af, guard := none } :: rest) Q ⟨T, H, D, n⟩ := Z1 (w0 rfl) hd (hz ▸ Z1m rfl hp hq hx hy) h
theorem Zk3 {ks : List CK} {us vs : List AV} (h : Calm P ops H0 KK (kk + 1) rest M ⟨(d, .v (.bool true)) :: T, H, D, n⟩) (hp : ev T p = some (.agg us) := by rfl) (hq : ev T q = some (.agg vs) := by rfl) [hq' : EQ P t ks] (hx : us.map ckA = ks.map some := by rfl) (hy : vs.map ckA = ks.map some := by rfl) (hz : ceqs us vs = true := by decide +kernel) (hd : Nat.blt d n = true := by rfl) : Calm P ops H0 KK kk ({ dst := some d, op := .binOp .eql t p q t', type := ty, pos := po, after := af, guard := none } :: rest) M ⟨T, H, D, n⟩ := Z9 (w0 rfl) hd (hz ▸ Z1m rfl hp hq hx hy) h
theorem Zjg {ks : List CK} {us vs : List AV} {g gt : Nat} {gb : Bool} {og : Oper} (h : Calm P ops H0 KK (kk + 1) rest M ⟨(d, .v (.bool true)) :: T, H, D, n⟩) (g1 : ops[g]? = some og := by rfl) (g2 : og.dst = some gt := by rfl) (g3 : lk T gt = some (.v (.bool gb)) := by rfl) (hp : ev T p = some (.agg us) := by rfl) (hq : ev T q = some (.agg vs) := by rfl) [hq' : EQ P t ks] (hx : us.map ckA = ks.map some := by rfl) (hy : vs.map ckA = ks.map some := by rfl) (hz : ceqs us vs = true := by decide +kernel) (hd : Nat.blt d n = true := by rfl) : Calm P ops H0 KK kk ({ dst := some d, op := .binOp .eql t p q t', type := ty, pos := po, after := af, guard := some (g, gb) } :: rest) M ⟨T, H, D, n⟩ := Z9 (wY rfl g1 g2 g3) hd (hz ▸ Z1m rfl hp hq hx hy) h
theorem Zkw {ks : List CK} {us vs : List AV} {g gt : Nat} {gb : Bool} {og : Oper} (h : AOps P ro ops rest Q ⟨(d, .v (.bool true)) :: T, H, D, n⟩) (g1 : ops[g]? = some og := by rfl) (g2 : og.dst = some gt := by rfl) (g3 : lk T gt = some (.v (.bool gb)) := by rfl) (hp : ev T p = some (.agg us) := by rfl) (hq : ev T q = some (.agg vs) := by rfl) [hq' : EQ P t ks] (hx : us.map ckA = ks.map some := by rfl) (hy : vs.map ckA = ks.map some := by rfl) (hz : ceqs us vs = true := by decide +kernel) (hd : Nat.blt d n = true := by rfl) : AOps P ro ops ({ dst := some d, op := .binOp .eql t p q t', type := ty, pos := po, after := af, guard := some (g, gb) } :: rest) Q ⟨T, H, D, n⟩ := Z1 (wY rfl g1 g2 g3) hd (hz ▸ Z1m rfl hp hq hx hy) h
theorem Zl7 {ks : List CK} {us vs : List AV} (h : AOps P ro ops rest Q ⟨(d, .v (.bool false)) :: T, H, D, n⟩) (hp : ev T p = some (.agg us) := by rfl) (hq : ev T q = some (.agg vs) := by rfl) [hq' : EQ P t ks] (hx : us.map ckA = ks.map some := by rfl) (hy : vs.map ckA = ks.map some := by rfl) (hz : ceqs us vs = false := by decide +kernel) (hd : Nat.blt d n = true := by rfl) : AOps P ro ops ({ dst := some d, op := .binOp .eql t p q t', type := ty, pos := po, after := af, guard := none } :: rest) Q ⟨T, H, D, n⟩ := Z1 (w0 rfl) hd (hz ▸ Z1m rfl hp hq hx hy) h
theorem Zk2 {ks : List CK} {us vs : List AV} (h : Calm P ops H0 KK (kk + 1) rest M ⟨(d, .v (.bool false)) :: T, H, D, n⟩) (hp : ev T p = some (.agg us) := by rfl) (hq : ev T q = some (.agg vs) := by rfl) [hq' : EQ P t ks] (hx : us.map ckA = ks.map some := by rfl) (hy : vs.map ckA = ks.map some := by rfl) (hz : ceqs us vs = false := by decide +kernel) (hd : Nat.blt d n = true := by rfl) : Calm P ops H0 KK kk ({ dst := some d, op := .binOp .eql t p q t', type := ty, pos := po, after := af, guard := none } :: rest) M ⟨T, H, D, n⟩ := Z9 (w0 rfl) hd (hz ▸ Z1m rfl hp hq hx hy) h
theorem Zjf {ks : List CK} {us vs : List AV} {g gt : Nat} {gb : Bool} {og : Oper} (h : Calm P ops H0 KK (kk + 1) rest M ⟨(d, .v (.bool false)) :: T, H, D, n⟩) (g1 : ops[g]? = some og := by rfl) (g2 : og.dst = some gt := by rfl) (g3 : lk T gt = some (.v (.bool gb)) := by rfl) (hp : ev T p = some (.agg us) := by rfl) (hq : ev T q = some (.agg vs) := by rfl) [hq' : EQ P t ks] (hx : us.map ckA = ks.map some := by rfl) (hy : vs.map ckA = ks.map some := by rfl) (hz : ceqs us vs = false := by decide +kernel) (hd : Nat.blt d n = true := by rfl) : Calm P ops H0 KK kk ({ dst := some d, op := .binOp .eql t p q t', type := ty, pos := po, after := af, guard := some (g, gb) } :: rest) M ⟨T, H, D, n⟩ := Z9 (wY rfl g1 g2 g3) hd (hz ▸ Z1m rfl hp hq hx hy) h
theorem Zkv {ks : List CK} {us vs : List AV} {g gt : Nat} {gb : Bool} {og : Oper} (h : AOps P ro ops rest Q ⟨(d, .v (.bool false)) :: T, H, D, n⟩) (g1 : ops[g]? = some og := by rfl) (g2 : og.dst = some gt := by rfl) (g3 : lk T gt = some (.v (.bool gb)) := by rfl) (hp : ev T p = some (.agg us) := by rfl) (hq : ev T q = some (.agg vs) := by rfl) [hq' : EQ P t ks] (hx : us.map ckA = ks.map some := by rfl) (hy : vs.map ckA = ks.map some := by rfl) (hz : ceqs us vs = false := by decide +kernel) (hd : Nat.blt d n = true := by rfl) : AOps P ro ops ({ dst := some d, op := .binOp .eql t p q t', type := ty, pos := po, after := af, guard := some (g, gb) } :: rest) Q ⟨T, H, D, n⟩ := Z1 (wY rfl g1 g2 g3) hd (hz ▸ Z1m rfl hp hq hx hy) h
theorem Zl6 {u v : ByteArray} (h : AOps P ro ops rest Q ⟨(d, .v (.string (u ++ v))) :: T, H, D, n⟩) (hp : ev T p = some (.v (.string u)) := by rfl) (hq : ev T q = some (.v (.string v)) := by rfl) (hz : u.size + v.size ≤ 9223372036854775807 := by decide +kernel) (hd : Nat.blt d n = true := by rfl) : AOps P ro ops ({ dst := some d, op := .binOp .add t p q t', type := ty, pos := po, after := af, guard := none } :: rest) Q ⟨T, H, D, n⟩ := Z1 (w0 rfl) hd (Z0x rfl hp hq hz) h
theorem Zk1 {u v : ByteArray} (h : Calm P ops H0 KK (kk + 1) rest M ⟨(d, .v (.string (u ++ v))) :: T, H, D, n⟩) (hp : ev T p = some (.v (.string u)) := by rfl) (hq : ev T q = some (.v (.string v)) := by rfl) (hz : u.size + v.size ≤ 9223372036854775807 := by decide +kernel) (hd : Nat.blt d n = true := by rfl) : Calm P ops H0 KK kk ({ dst := some d, op := .binOp .add t p q t', type := ty, pos := po, after := af, guard := none } :: rest) M ⟨T, H, D, n⟩ := Z9 (w0 rfl) hd (Z0x rfl hp hq hz) h
theorem Zje {u v : ByteArray} {g gt : Nat} {gb : Bool} {og : Oper} (h : Calm P ops H0 KK (kk + 1) rest M ⟨(d, .v (.string (u ++ v))) :: T, H, D, n⟩) (g1 : ops[g]? = some og := by rfl) (g2 : og.dst = some gt := by rfl) (g3 : lk T gt = some (.v (.bool gb)) := by rfl) (hp : ev T p = some (.v (.string u)) := by rfl) (hq : ev T q = some (.v (.string v)) := by rfl) (hz : u.size + v.size ≤ 9223372036854775807 := by decide +kernel) (hd : Nat.blt d n = true := by rfl) : Calm P ops H0 KK kk ({ dst := some d, op := .binOp .add t p q t', type := ty, pos := po, after := af, guard := some (g, gb) } :: rest) M ⟨T, H, D, n⟩ := Z9 (wY rfl g1 g2 g3) hd (Z0x rfl hp hq hz) h
theorem Zkt {u v : ByteArray} {g gt : Nat} {gb : Bool} {og : Oper} (h : AOps P ro ops rest Q ⟨(d, .v (.string (u ++ v))) :: T, H, D, n⟩) (g1 : ops[g]? = some og := by rfl) (g2 : og.dst = some gt := by rfl) (g3 : lk T gt = some (.v (.bool gb)) := by rfl) (hp : ev T p = some (.v (.string u)) := by rfl) (hq : ev T q = some (.v (.string v)) := by rfl) (hz : u.size + v.size ≤ 9223372036854775807 := by decide +kernel) (hd : Nat.blt d n = true := by rfl) : AOps P ro ops ({ dst := some d, op := .binOp .add t p q t', type := ty, pos := po, after := af, guard := some (g, gb) } :: rest) Q ⟨T, H, D, n⟩ := Z1 (wY rfl g1 g2 g3) hd (Z0x rfl hp hq hz) h
theorem zCv {k k' : IntKind} {u : Int} {td : TypeDesc} (h : AOps P ro ops rest Q ⟨(d, .v (.int k' u)) :: T, H, D, n⟩) (hp : ev T p = some (.v (.int k u)) := by rfl) [hu : UD P t td] [hu' : UD P t' (.int k')] (hz : k'.wrap u = u := by first | decide +kernel | rfl) (hd : Nat.blt d n = true := by rfl) : AOps P ro ops ({ dst := some d, op := .convert t t' p, type := ty, pos := po, after := af, guard := none } :: rest) Q ⟨T, H, D, n⟩ := Z1 (w0 rfl) hd (hz.symm ▸ Z03 rfl hp) h
theorem Zll {k k' : IntKind} {u : Int} {td : TypeDesc} (h : Calm P ops H0 KK (kk + 1) rest M ⟨(d, .v (.int k' u)) :: T, H, D, n⟩) (hp : ev T p = some (.v (.int k u)) := by rfl) [hu : UD P t td] [hu' : UD P t' (.int k')] (hz : k'.wrap u = u := by first | decide +kernel | rfl) (hd : Nat.blt d n = true := by rfl) : Calm P ops H0 KK kk ({ dst := some d, op := .convert t t' p, type := ty, pos := po, after := af, guard := none } :: rest) M ⟨T, H, D, n⟩ := Z9 (w0 rfl) hd (hz.symm ▸ Z03 rfl hp) h
theorem Zkh {k k' : IntKind} {u : Int} {td : TypeDesc} {g gt : Nat} {gb : Bool} {og : Oper} (h : Calm P ops H0 KK (kk + 1) rest M ⟨(d, .v (.int k' u)) :: T, H, D, n⟩) (g1 : ops[g]? = some og := by rfl) (g2 : og.dst = some gt := by rfl) (g3 : lk T gt = some (.v (.bool gb)) := by rfl) (hp : ev T p = some (.v (.int k u)) := by rfl) [hu : UD P t td] [hu' : UD P t' (.int k')] (hz : k'.wrap u = u := by first | decide +kernel | rfl) (hd : Nat.blt d n = true := by rfl) : Calm P ops H0 KK kk ({ dst := some d, op := .convert t t' p, type := ty, pos := po, after := af, guard := some (g, gb) } :: rest) M ⟨T, H, D, n⟩ := Z9 (wY rfl g1 g2 g3) hd (hz.symm ▸ Z03 rfl hp) h
theorem Zku {k k' : IntKind} {u : Int} {td : TypeDesc} {g gt : Nat} {gb : Bool} {og : Oper} (h : AOps P ro ops rest Q ⟨(d, .v (.int k' u)) :: T, H, D, n⟩) (g1 : ops[g]? = some og := by rfl) (g2 : og.dst = some gt := by rfl) (g3 : lk T gt = some (.v (.bool gb)) := by rfl) (hp : ev T p = some (.v (.int k u)) := by rfl) [hu : UD P t td] [hu' : UD P t' (.int k')] (hz : k'.wrap u = u := by first | decide +kernel | rfl) (hd : Nat.blt d n = true := by rfl) : AOps P ro ops ({ dst := some d, op := .convert t t' p, type := ty, pos := po, after := af, guard := some (g, gb) } :: rest) Q ⟨T, H, D, n⟩ := Z1 (wY rfl g1 g2 g3) hd (hz.symm ▸ Z03 rfl hp) h
theorem zSx {k : IntKind} {u : ByteArray} {i : Int} (h : AOps P ro ops rest Q ⟨(d, .v (.int .u8 (byteAt u i))) :: T, H, D, n⟩) (hp : ev T p = some (.v (.string u)) := by rfl) (hq : ev T q = some (.v (.int k i)) := by rfl) [hu : UD P t .string] (h0 : 0 ≤ i := by first | decide +kernel | omega) (h1 : i < u.size := by first | decide +kernel | omega) (hd : Nat.blt d n = true := by rfl) : AOps P ro ops ({ dst := some d, op := .index t p q, type := ty, pos := po, after := af, guard := none } :: rest) Q ⟨T, H, D, n⟩ := Z1 (w0 rfl) hd (Z12 rfl hp hq h0 h1) h
theorem Zlu {k : IntKind} {u : ByteArray} {i : Int} (h : Calm P ops H0 KK (kk + 1) rest M ⟨(d, .v (.int .u8 (byteAt u i))) :: T, H, D, n⟩) (hp : ev T p = some (.v (.string u)) := by rfl) (hq : ev T q = some (.v (.int k i)) := by rfl) [hu : UD P t .string] (h0 : 0 ≤ i := by first | decide +kernel | omega) (h1 : i < u.size := by first | decide +kernel | omega) (hd : Nat.blt d n = true := by rfl) : Calm P ops H0 KK kk ({ dst := some d, op := .index t p q, type := ty, pos := po, after := af, guard := none } :: rest) M ⟨T, H, D, n⟩ := Z9 (w0 rfl) hd (Z12 rfl hp hq h0 h1) h
theorem Zkp {k : IntKind} {u : ByteArray} {i : Int} {g gt : Nat} {gb : Bool} {og : Oper} (h : Calm P ops H0 KK (kk + 1) rest M ⟨(d, .v (.int .u8 (byteAt u i))) :: T, H, D, n⟩) (g1 : ops[g]? = some og := by rfl) (g2 : og.dst = some gt := by rfl) (g3 : lk T gt = some (.v (.bool gb)) := by rfl) (hp : ev T p = some (.v (.string u)) := by rfl) (hq : ev T q = some (.v (.int k i)) := by rfl) [hu : UD P t .string] (h0 : 0 ≤ i := by first | decide +kernel | omega) (h1 : i < u.size := by first | decide +kernel | omega) (hd : Nat.blt d n = true := by rfl) : Calm P ops H0 KK kk ({ dst := some d, op := .index t p q, type := ty, pos := po, after := af, guard := some (g, gb) } :: rest) M ⟨T, H, D, n⟩ := Z9 (wY rfl g1 g2 g3) hd (Z12 rfl hp hq h0 h1) h
theorem Zmq {k : IntKind} {u : ByteArray} {i : Int} {g gt : Nat} {gb : Bool} {og : Oper} (h : AOps P ro ops rest Q ⟨(d, .v (.int .u8 (byteAt u i))) :: T, H, D, n⟩) (g1 : ops[g]? = some og := by rfl) (g2 : og.dst = some gt := by rfl) (g3 : lk T gt = some (.v (.bool gb)) := by rfl) (hp : ev T p = some (.v (.string u)) := by rfl) (hq : ev T q = some (.v (.int k i)) := by rfl) [hu : UD P t .string] (h0 : 0 ≤ i := by first | decide +kernel | omega) (h1 : i < u.size := by first | decide +kernel | omega) (hd : Nat.blt d n = true := by rfl) : AOps P ro ops ({ dst := some d, op := .index t p q, type := ty, pos := po, after := af, guard := some (g, gb) } :: rest) Q ⟨T, H, D, n⟩ := Z1 (wY rfl g1 g2 g3) hd (Z12 rfl hp hq h0 h1) h
theorem zNe {ks : List CK} {us vs : List AV} (h : AOps P ro ops rest Q ⟨(d, .v (.bool (!(ceqs us vs)))) :: T, H, D, n⟩) (hp : ev T p = some (.agg us) := by rfl) (hq : ev T q = some (.agg vs) := by rfl) [hq' : EQ P t ks] (hx : us.map ckA = ks.map some := by rfl) (hy : vs.map ckA = ks.map some := by rfl) (hd : Nat.blt d n = true := by rfl) : AOps P ro ops ({ dst := some d, op := .binOp .neq t p q t', type := ty, pos := po, after := af, guard := none } :: rest) Q ⟨T, H, D, n⟩ := Z1 (w0 rfl) hd (Z4i rfl hp hq hx hy) h
theorem Zlq {ks : List CK} {us vs : List AV} (h : Calm P ops H0 KK (kk + 1) rest M ⟨(d, .v (.bool (!(ceqs us vs)))) :: T, H, D, n⟩) (hp : ev T p = some (.agg us) := by rfl) (hq : ev T q = some (.agg vs) := by rfl) [hq' : EQ P t ks] (hx : us.map ckA = ks.map some := by rfl) (hy : vs.map ckA = ks.map some := by rfl) (hd : Nat.blt d n = true := by rfl) : Calm P ops H0 KK kk ({ dst := some d, op := .binOp .neq t p q t', type := ty, pos := po, after := af, guard := none } :: rest) M ⟨T, H, D, n⟩ := Z9 (w0 rfl) hd (Z4i rfl hp hq hx hy) h
theorem Zkl {ks : List CK} {us vs : List AV} {g gt : Nat} {gb : Bool} {og : Oper} (h : Calm P ops H0 KK (kk + 1) rest M ⟨(d, .v (.bool (!(ceqs us vs)))) :: T, H, D, n⟩) (g1 : ops[g]? = some og := by rfl) (g2 : og.dst = some gt := by rfl) (g3 : lk T gt = some (.v (.bool gb)) := by rfl) (hp : ev T p = some (.agg us) := by rfl) (hq : ev T q = some (.agg vs) := by rfl) [hq' : EQ P t ks] (hx : us.map ckA = ks.map some := by rfl) (hy : vs.map ckA = ks.map some := by rfl) (hd : Nat.blt d n = true := by rfl) : Calm P ops H0 KK kk ({ dst := some d, op := .binOp .neq t p q t', type := ty, pos := po, after := af, guard := some (g, gb) } :: rest) M ⟨T, H, D, n⟩ := Z9 (wY rfl g1 g2 g3) hd (Z4i rfl hp hq hx hy) h
theorem Zmm {ks : List CK} {us vs : List AV} {g gt : Nat} {gb : Bool} {og : Oper} (h : AOps P ro ops rest Q ⟨(d, .v (.bool (!(ceqs us vs)))) :: T, H, D, n⟩) (g1 : ops[g]? = some og := by rfl) (g2 : og.dst = some gt := by rfl) (g3 : lk T gt = some (.v (.bool gb)) := by rfl) (hp : ev T p = some (.agg us) := by rfl) (hq : ev T q = some (.agg vs) := by rfl) [hq' : EQ P t ks] (hx : us.map ckA = ks.map some := by rfl) (hy : vs.map ckA = ks.map some := by rfl) (hd : Nat.blt d n = true := by rfl) : AOps P ro ops ({ dst := some d, op := .binOp .neq t p q t', type := ty, pos := po, after := af, guard := some (g, gb) } :: rest) Q ⟨T, H, D, n⟩ := Z1 (wY rfl g1 g2 g3) hd (Z4i rfl hp hq hx hy) h
theorem zX {i : Nat} {cs : List AV} (h : AOps P ro ops rest Q ⟨(d, x) :: T, H, D, n⟩) (hp : ev T p = some (.tup cs) := by rfl) (hx : cs[i]? = some x := by rfl) (hd : Nat.blt d n = true := by rfl) : AOps P ro ops ({ dst := some d, op := .extract p i, type := ty, pos := po, after := af, guard := none } :: rest) Q ⟨T, H, D, n⟩ := Z1 (w0 rfl) hd (Zv rfl hp hx) h
theorem zcX {i : Nat} {cs : List AV} (h : Calm P ops H0 KK (kk + 1) rest M ⟨(d, x) :: T, H, D, n⟩) (hp : ev T p = some (.tup cs) := by rfl) (hx : cs[i]? = some x := by rfl) (hd : Nat.blt d n = true := by rfl) : Calm P ops H0 KK kk ({ dst := some d, op := .extract p i, type := ty, pos := po, after := af, guard := none } :: rest) M ⟨T, H, D, n⟩ := Z9 (w0 rfl) hd (Zv rfl hp hx) h
theorem Zm6 {i : Nat} {cs : List AV} {g gt : Nat} {gb : Bool} {og : Oper} (h : Calm P ops H0 KK (kk + 1) rest M ⟨(d, x) :: T, H, D, n⟩) (g1 : ops[g]? = some og := by rfl) (g2 : og.dst = some gt := by rfl) (g3 : lk T gt = some (.v (.bool gb)) := by rfl) (hp : ev T p = some (.tup cs) := by rfl) (hx : cs[i]? = some x := by rfl) (hd : Nat.blt d n = true := by rfl) : Calm P ops H0 KK kk ({ dst := some d, op := .extract p i, type := ty, pos := po, after := af, guard := some (g, gb) } :: rest) M ⟨T, H, D, n⟩ := Z9 (wY rfl g1 g2 g3) hd (Zv rfl hp hx) h
theorem zgX {i : Nat} {cs : List AV} {g gt : Nat} {gb : Bool} {og : Oper} (h : AOps P ro ops rest Q ⟨(d, x) :: T, H, D, n⟩) (g1 : ops[g]? = some og := by rfl) (g2 : og.dst = some gt := by rfl) (g3 : lk T gt = some (.v (.bool gb)) := by rfl) (hp : ev T p = some (.tup cs) := by rfl) (hx : cs[i]? = some x := by rfl) (hd : Nat.blt d n = true := by rfl) : AOps P ro ops ({ dst := some d, op := .extract p i, type := ty, pos := po, after := af, guard := some (g, gb) } :: rest) Q ⟨T, H, D, n⟩ := Z1 (wY rfl g1 g2 g3) hd (Zv rfl hp hx) h
theorem zF {f off ft : Nat} (h : AOps P ro ops rest Q ⟨(d, x) :: T, H, D, n⟩) (hp : ev T p = some y := by rfl) [hf : FO P t f off ft] (hz : plus y off = some x := by rfl) (hd : Nat.blt d n = true := by rfl) : AOps P ro ops ({ dst := some d, op := .fieldAddr t p f, type := ty, pos := po, after := af, guard := none } :: rest) Q ⟨T, H, D, n⟩ := Z1 (w0 rfl) hd (Z09 rfl hp hz) h
theorem zcF {f off ft : Nat} (h : Calm P ops H0 KK (kk + 1) rest M ⟨(d, x) :: T, H, D, n⟩) (hp : ev T p = some y := by rfl) [hf : FO P t f off ft] (hz : plus y off = some x := by rfl) (hd : Nat.blt d n = true := by rfl) : Calm P ops H0 KK kk ({ dst := some d, op := .fieldAddr t p f, type := ty, pos := po, after := af, guard := none } :: rest) M ⟨T, H, D, n⟩ := Z9 (w0 rfl) hd (Z09 rfl hp hz) h
theorem Zly {f off ft : Nat} {g gt : Nat} {gb : Bool} {og : Oper} (h : Calm P ops H0 KK (kk + 1) rest M ⟨(d, x) :: T, H, D, n⟩) (g1 : ops[g]? = some og := by rfl) (g2 : og.dst = some gt := by rfl) (g3 : lk T gt = some (.v (.bool gb)) := by rfl) (hp : ev T p = some y := by rfl) [hf : FO P t f off ft] (hz : plus y off = some x := by rfl) (hd : Nat.blt d n = true := by rfl) : Calm P ops H0 KK kk ({ dst := some d, op := .fieldAddr t p f, type := ty, pos := po, after := af, guard := some (g, gb) } :: rest) M ⟨T, H, D, n⟩ := Z9 (wY rfl g1 g2 g3) hd (Z09 rfl hp hz) h
theorem zgF {f off ft : Nat} {g gt : Nat} {gb : Bool} {og : Oper} (h : AOps P ro ops rest Q ⟨(d, x) :: T, H, D, n⟩) (g1 : ops[g]? = some og := by rfl) (g2 : og.dst = some gt := by rfl) (g3 : lk T gt = some (.v (.bool gb)) := by rfl) (hp : ev T p = some y := by rfl) [hf : FO P t f off ft] (hz : plus y off = some x := by rfl) (hd : Nat.blt d n = true := by rfl) : AOps P ro ops ({ dst := some d, op := .fieldAddr t p f, type := ty, pos := po, after := af, guard := some (g, gb) } :: rest) Q ⟨T, H, D, n⟩ := Z1 (wY rfl g1 g2 g3) hd (Z09 rfl hp hz) h
theorem zNc  (h : AOps P ro ops rest Q ⟨(d, x) :: T, H, D, n⟩) (hp : ev T p = some x := by rfl) (hx : isPtr x = true := by rfl) (hd : Nat.blt d n = true := by rfl) : AOps P ro ops ({ dst := some d, op := .nilCheck p, type := ty, pos := po, after := af, guard := none } :: rest) Q ⟨T, H, D, n⟩ := Z1 (w0 rfl) hd (Z0d rfl hp hx) h
theorem Zlp  (h : Calm P ops H0 KK (kk + 1) rest M ⟨(d, x) :: T, H, D, n⟩) (hp : ev T p = some x := by rfl) (hx : isPtr x = true := by rfl) (hd : Nat.blt d n = true := by rfl) : Calm P ops H0 KK kk ({ dst := some d, op := .nilCheck p, type := ty, pos := po, after := af, guard := none } :: rest) M ⟨T, H, D, n⟩ := Z9 (w0 rfl) hd (Z0d rfl hp hx) h
theorem Zkk  {g gt : Nat} {gb : Bool} {og : Oper} (h : Calm P ops H0 KK (kk + 1) rest M ⟨(d, x) :: T, H, D, n⟩) (g1 : ops[g]? = some og := by rfl) (g2 : og.dst = some gt := by rfl) (g3 : lk T gt = some (.v (.bool gb)) := by rfl) (hp : ev T p = some x := by rfl) (hx : isPtr x = true := by rfl) (hd : Nat.blt d n = true := by rfl) : Calm P ops H0 KK kk ({ dst := some d, op := .nilCheck p, type := ty, pos := po, after := af, guard := some (g, gb) } :: rest) M ⟨T, H, D, n⟩ := Z9 (wY rfl g1 g2 g3) hd (Z0d rfl hp hx) h
theorem Zml  {g gt : Nat} {gb : Bool} {og : Oper} (h : AOps P ro ops rest Q ⟨(d, x) :: T, H, D, n⟩) (g1 : ops[g]? = some og := by rfl) (g2 : og.dst = some gt := by rfl) (g3 : lk T gt = some (.v (.bool gb)) := by rfl) (hp : ev T p = some x := by rfl) (hx : isPtr x = true := by rfl) (hd : Nat.blt d n = true := by rfl) : AOps P ro ops ({ dst := some d, op := .nilCheck p, type := ty, pos := po, after := af, guard := some (g, gb) } :: rest) Q ⟨T, H, D, n⟩ := Z1 (wY rfl g1 g2 g3) hd (Z0d rfl hp hx) h
theorem zB1 [tk : TK P t true 1] {c1 : AV} {pl : List (Nat × Nat)} {zs : List Value} {ps : Array (Nat × Operand)} {xs : List AV} (h : AOps P ro ops rest Q ⟨(d, .agg [c1]) :: T, H, D, n⟩) (hxs : evs T (ps.toList.map Prod.snd) = some xs := by rfl) [hl : PL P t pl] [hz : ZC P t zs] (hc : fillA (fun i => pl[i]?) (zs.map .v) ((ps.toList.map Prod.fst).zip xs) = some [c1] := by rfl) (hd : Nat.blt d n = true := by rfl) : AOps P ro ops ({ dst := some d, op := .build t ps, type := ty, pos := po, after := af, guard := none } :: rest) Q ⟨T, H, D, n⟩ := Z1 (w0 rfl) hd (Z01 rfl hxs hc) h
theorem Zl9 [tk : TK P t true 1] {c1 : AV} {pl : List (Nat × Nat)} {zs : List Value} {ps : Array (Nat × Operand)} {xs : List AV} (h : Calm P ops H0 KK (kk + 1) rest M ⟨(d, .agg [c1]) :: T, H, D, n⟩) (hxs : evs T (ps.toList.map Prod.snd) = some xs := by rfl) [hl : PL P t pl] [hz : ZC P t zs] (hc : fillA (fun i => pl[i]?) (zs.map .v) ((ps.toList.map Prod.fst).zip xs) = some [c1] := by rfl) (hd : Nat.blt d n = true := by rfl) : Calm P ops H0 KK kk ({ dst := some d, op := .build t ps, type := ty, pos := po, after := af, guard := none } :: rest) M ⟨T, H, D, n⟩ := Z9 (w0 rfl) hd (Z01 rfl hxs hc) h
theorem Zk5 [tk : TK P t true 1] {c1 : AV} {pl : List (Nat × Nat)} {zs : List Value} {ps : Array (Nat × Operand)} {xs : List AV} {g gt : Nat} {gb : Bool} {og : Oper} (h : Calm P ops H0 KK (kk + 1) rest M ⟨(d, .agg [c1]) :: T, H, D, n⟩) (g1 : ops[g]? = some og := by rfl) (g2 : og.dst = some gt := by rfl) (g3 : lk T gt = some (.v (.bool gb)) := by rfl) (hxs : evs T (ps.toList.map Prod.snd) = some xs := by rfl) [hl : PL P t pl] [hz : ZC P t zs] (hc : fillA (fun i => pl[i]?) (zs.map .v) ((ps.toList.map Prod.fst).zip xs) = some [c1] := by rfl) (hd : Nat.blt d n = true := by rfl) : Calm P ops H0 KK kk ({ dst := some d, op := .build t ps, type := ty, pos := po, after := af, guard := some (g, gb) } :: rest) M ⟨T, H, D, n⟩ := Z9 (wY rfl g1 g2 g3) hd (Z01 rfl hxs hc) h
theorem Zm7 [tk : TK P t true 1] {c1 : AV} {pl : List (Nat × Nat)} {zs : List Value} {ps : Array (Nat × Operand)} {xs : List AV} {g gt : Nat} {gb : Bool} {og : Oper} (h : AOps P ro ops rest Q ⟨(d, .agg [c1]) :: T, H, D, n⟩) (g1 : ops[g]? = some og := by rfl) (g2 : og.dst = some gt := by rfl) (g3 : lk T gt = some (.v (.bool gb)) := by rfl) (hxs : evs T (ps.toList.map Prod.snd) = some xs := by rfl) [hl : PL P t pl] [hz : ZC P t zs] (hc : fillA (fun i => pl[i]?) (zs.map .v) ((ps.toList.map Prod.fst).zip xs) = some [c1] := by rfl) (hd : Nat.blt d n = true := by rfl) : AOps P ro ops ({ dst := some d, op := .build t ps, type := ty, pos := po, after := af, guard := some (g, gb) } :: rest) Q ⟨T, H, D, n⟩ := Z1 (wY rfl g1 g2 g3) hd (Z01 rfl hxs hc) h
theorem zB2 [tk : TK P t true 2] {c1 c2 : AV} {pl : List (Nat × Nat)} {zs : List Value} {ps : Array (Nat × Operand)} {xs : List AV} (h : AOps P ro ops rest Q ⟨(d, .agg [c1, c2]) :: T, H, D, n⟩) (hxs : evs T (ps.toList.map Prod.snd) = some xs := by rfl) [hl : PL P t pl] [hz : ZC P t zs] (hc : fillA (fun i => pl[i]?) (zs.map .v) ((ps.toList.map Prod.fst).zip xs) = some [c1, c2] := by rfl) (hd : Nat.blt d n = true := by rfl) : AOps P ro ops ({ dst := some d, op := .build t ps, type := ty, pos := po, after := af, guard := none } :: rest) Q ⟨T, H, D, n⟩ := Z1 (w0 rfl) hd (Z01 rfl hxs hc) h
theorem Zla [tk : TK P t true 2] {c1 c2 : AV} {pl : List (Nat × Nat)} {zs : List Value} {ps : Array (Nat × Operand)} {xs : List AV} (h : Calm P ops H0 KK (kk + 1) rest M ⟨(d, .agg [c1, c2]) :: T, H, D, n⟩) (hxs : evs T (ps.toList.map Prod.snd) = some xs := by rfl) [hl : PL P t pl] [hz : ZC P t zs] (hc : fillA (fun i => pl[i]?) (zs.map .v) ((ps.toList.map Prod.fst).zip xs) = some [c1, c2] := by rfl) (hd : Nat.blt d n = true := by rfl) : Calm P ops H0 KK kk ({ dst := some d, op := .build t ps, type := ty, pos := po, after := af, guard := none } :: rest) M ⟨T, H, D, n⟩ := Z9 (w0 rfl) hd (Z01 rfl hxs hc) h
theorem Zk6 [tk : TK P t true 2] {c1 c2 : AV} {pl : List (Nat × Nat)} {zs : List Value} {ps : Array (Nat × Operand)} {xs : List AV} {g gt : Nat} {gb : Bool} {og : Oper} (h : Calm P ops H0 KK (kk + 1) rest M ⟨(d, .agg [c1, c2]) :: T, H, D, n⟩) (g1 : ops[g]? = some og := by rfl) (g2 : og.dst = some gt := by rfl) (g3 : lk T gt = some (.v (.bool gb)) := by rfl) (hxs : evs T (ps.toList.map Prod.snd) = some xs := by rfl) [hl : PL P t pl] [hz : ZC P t zs] (hc : fillA (fun i => pl[i]?) (zs.map .v) ((ps.toList.map Prod.fst).zip xs) = some [c1, c2] := by rfl) (hd : Nat.blt d n = true := by rfl) : Calm P ops H0 KK kk ({ dst := some d, op := .build t ps, type := ty, pos := po, after := af, guard := some (g, gb) } :: rest) M ⟨T, H, D, n⟩ := Z9 (wY rfl g1 g2 g3) hd (Z01 rfl hxs hc) h
theorem Zm8 [tk : TK P t true 2] {c1 c2 : AV} {pl : List (Nat × Nat)} {zs : List Value} {ps : Array (Nat × Operand)} {xs : List AV} {g gt : Nat} {gb : Bool} {og : Oper} (h : AOps P ro ops rest Q ⟨(d, .agg [c1, c2]) :: T, H, D, n⟩) (g1 : ops[g]? = some og := by rfl) (g2 : og.dst = some gt := by rfl) (g3 : lk T gt = some (.v (.bool gb)) := by rfl) (hxs : evs T (ps.toList.map Prod.snd) = some xs := by rfl) [hl : PL P t pl] [hz : ZC P t zs] (hc : fillA (fun i => pl[i]?) (zs.map .v) ((ps.toList.map Prod.fst).zip xs) = some [c1, c2] := by rfl) (hd : Nat.blt d n = true := by rfl) : AOps P ro ops ({ dst := some d, op := .build t ps, type := ty, pos := po, after := af, guard := some (g, gb) } :: rest) Q ⟨T, H, D, n⟩ := Z1 (wY rfl g1 g2 g3) hd (Z01 rfl hxs hc) h
theorem zB3 [tk : TK P t true 3] {c1 c2 c3 : AV} {pl : List (Nat × Nat)} {zs : List Value} {ps : Array (Nat × Operand)} {xs : List AV} (h : AOps P ro ops rest Q ⟨(d, .agg [c1, c2, c3]) :: T, H, D, n⟩) (hxs : evs T (ps.toList.map Prod.snd) = some xs := by rfl) [hl : PL P t pl] [hz : ZC P t zs] (hc : fillA (fun i => pl[i]?) (zs.map .v) ((ps.toList.map Prod.fst).zip xs) = some [c1, c2, c3] := by rfl) (hd : Nat.blt d n = true := by rfl) : AOps P ro ops ({ dst := some d, op := .build t ps, type := ty, pos := po, after := af, guard := none } :: rest) Q ⟨T, H, D, n⟩ := Z1 (w0 rfl) hd (Z01 rfl hxs hc) h
theorem Zlb [tk : TK P t true 3] {c1 c2 c3 : AV} {pl : List (Nat × Nat)} {zs : List Value} {ps : Array (Nat × Operand)} {xs : List AV} (h : Calm P ops H0 KK (kk + 1) rest M ⟨(d, .agg [c1, c2, c3]) :: T, H, D, n⟩) (hxs : evs T (ps.toList.map Prod.snd) = some xs := by rfl) [hl : PL P t pl] [hz : ZC P t zs] (hc : fillA (fun i => pl[i]?) (zs.map .v) ((ps.toList.map Prod.fst).zip xs) = some [c1, c2, c3] := by rfl) (hd : Nat.blt d n = true := by rfl) : Calm P ops H0 KK kk ({ dst := some d, op := .build t ps, type := ty, pos := po, after := af, guard := none } :: rest) M ⟨T, H, D, n⟩ := Z9 (w0 rfl) hd (Z01 rfl hxs hc) h
theorem Zk7 [tk : TK P t true 3] {c1 c2 c3 : AV} {pl : List (Nat × Nat)} {zs : List Value} {ps : Array (Nat × Operand)} {xs : List AV} {g gt : Nat} {gb : Bool} {og : Oper} (h : Calm P ops H0 KK (kk + 1) rest M ⟨(d, .agg [c1, c2, c3]) :: T, H, D, n⟩) (g1 : ops[g]? = some og := by rfl) (g2 : og.dst = some gt := by rfl) (g3 : lk T gt = some (.v (.bool gb)) := by rfl) (hxs : evs T (ps.toList.map Prod.snd) = some xs := by rfl) [hl : PL P t pl] [hz : ZC P t zs] (hc : fillA (fun i => pl[i]?) (zs.map .v) ((ps.toList.map Prod.fst).zip xs) = some [c1, c2, c3] := by rfl) (hd : Nat.blt d n = true := by rfl) : Calm P ops H0 KK kk ({ dst := some d, op := .build t ps, type := ty, pos := po, after := af, guard := some (g, gb) } :: rest) M ⟨T, H, D, n⟩ := Z9 (wY rfl g1 g2 g3) hd (Z01 rfl hxs hc) h
theorem Zm9 [tk : TK P t true 3] {c1 c2 c3 : AV} {pl : List (Nat × Nat)} {zs : List Value} {ps : Array (Nat × Operand)} {xs : List AV} {g gt : Nat} {gb : Bool} {og : Oper} (h : AOps P ro ops rest Q ⟨(d, .agg [c1, c2, c3]) :: T, H, D, n⟩) (g1 : ops[g]? = some og := by rfl) (g2 : og.dst = some gt := by rfl) (g3 : lk T gt = some (.v (.bool gb)) := by rfl) (hxs : evs T (ps.toList.map Prod.snd) = some xs := by rfl) [hl : PL P t pl] [hz : ZC P t zs] (hc : fillA (fun i => pl[i]?) (zs.map .v) ((ps.toList.map Prod.fst).zip xs) = some [c1, c2, c3] := by rfl) (hd : Nat.blt d n = true := by rfl) : AOps P ro ops ({ dst := some d, op := .build t ps, type := ty, pos := po, after := af, guard := some (g, gb) } :: rest) Q ⟨T, H, D, n⟩ := Z1 (wY rfl g1 g2 g3) hd (Z01 rfl hxs hc) h
theorem zB4 [tk : TK P t true 4] {c1 c2 c3 c4 : AV} {pl : List (Nat × Nat)} {zs : List Value} {ps : Array (Nat × Operand)} {xs : List AV} (h : AOps P ro ops rest Q ⟨(d, .agg [c1, c2, c3, c4]) :: T, H, D, n⟩) (hxs : evs T (ps.toList.map Prod.snd) = some xs := by rfl) [hl : PL P t pl] [hz : ZC P t zs] (hc : fillA (fun i => pl[i]?) (zs.map .v) ((ps.toList.map Prod.fst).zip xs) = some [c1, c2, c3, c4] := by rfl) (hd : Nat.blt d n = true := by rfl) : AOps P ro ops ({ dst := some d, op := .build t ps, type := ty, pos := po, after := af, guard := none } :: rest) Q ⟨T, H, D, n⟩ := Z1 (w0 rfl) hd (Z01 rfl hxs hc) h
theorem Zlc [tk : TK P t true 4] {c1 c2 c3 c4 : AV} {pl : List (Nat × Nat)} {zs : List Value} {ps : Array (Nat × Operand)} {xs : List AV} (h : Calm P ops H0 KK (kk + 1) rest M ⟨(d, .agg [c1, c2, c3, c4]) :: T, H, D, n⟩) (hxs : evs T (ps.toList.map Prod.snd) = some xs := by rfl) [hl : PL P t pl] [hz : ZC P t zs] (hc : fillA (fun i => pl[i]?) (zs.map .v) ((ps.toList.map Prod.fst).zip xs) = some [c1, c2, c3, c4] := by rfl) (hd : Nat.blt d n = true := by rfl) : Calm P ops H0 KK kk ({ dst := some d, op := .build t ps, type := ty, pos := po, after := af, guard := none } :: rest) M ⟨T, H, D, n⟩ := Z9 (w0 rfl) hd (Z01 rfl hxs hc) h
theorem Zk8 [tk : TK P t true 4] {c1 c2 c3 c4 : AV} {pl : List (Nat × Nat)} {zs : List Value} {ps : Array (Nat × Operand)} {xs : List AV} {g gt : Nat} {gb : Bool} {og : Oper} (h : Calm P ops H0 KK (kk + 1) rest M ⟨(d, .agg [c1, c2, c3, c4]) :: T, H, D, n⟩) (g1 : ops[g]? = some og := by rfl) (g2 : og.dst = some gt := by rfl) (g3 : lk T gt = some (.v (.bool gb)) := by rfl) (hxs : evs T (ps.toList.map Prod.snd) = some xs := by rfl) [hl : PL P t pl] [hz : ZC P t zs] (hc : fillA (fun i => pl[i]?) (zs.map .v) ((ps.toList.map Prod.fst).zip xs) = some [c1, c2, c3, c4] := by rfl) (hd : Nat.blt d n = true := by rfl) : Calm P ops H0 KK kk ({ dst := some d, op := .build t ps, type := ty, pos := po, after := af, guard := some (g, gb) } :: rest) M ⟨T, H, D, n⟩ := Z9 (wY rfl g1 g2 g3) hd (Z01 rfl hxs hc) h
theorem Zma [tk : TK P t true 4] {c1 c2 c3 c4 : AV} {pl : List (Nat × Nat)} {zs : List Value} {ps : Array (Nat × Operand)} {xs : List AV} {g gt : Nat} {gb : Bool} {og : Oper} (h : AOps P ro ops rest Q ⟨(d, .agg [c1, c2, c3, c4]) :: T, H, D, n⟩) (g1 : ops[g]? = some og := by rfl) (g2 : og.dst = some gt := by rfl) (g3 : lk T gt = some (.v (.bool gb)) := by rfl) (hxs : evs T (ps.toList.map Prod.snd) = some xs := by rfl) [hl : PL P t pl] [hz : ZC P t zs] (hc : fillA (fun i => pl[i]?) (zs.map .v) ((ps.toList.map Prod.fst).zip xs) = some [c1, c2, c3, c4] := by rfl) (hd : Nat.blt d n = true := by rfl) : AOps P ro ops ({ dst := some d, op := .build t ps, type := ty, pos := po, after := af, guard := some (g, gb) } :: rest) Q ⟨T, H, D, n⟩ := Z1 (wY rfl g1 g2 g3) hd (Z01 rfl hxs hc) h
theorem zB5 [tk : TK P t true 5] {c1 c2 c3 c4 c5 : AV} {pl : List (Nat × Nat)} {zs : List Value} {ps : Array (Nat × Operand)} {xs : List AV} (h : AOps P ro ops rest Q ⟨(d, .agg [c1, c2, c3, c4, c5]) :: T, H, D, n⟩) (hxs : evs T (ps.toList.map Prod.snd) = some xs := by rfl) [hl : PL P t pl] [hz : ZC P t zs] (hc : fillA (fun i => pl[i]?) (zs.map .v) ((ps.toList.map Prod.fst).zip xs) = some [c1, c2, c3, c4, c5] := by rfl) (hd : Nat.blt d n = true := by rfl) : AOps P ro ops ({ dst := some d, op := .build t ps, type := ty, pos := po, after := af, guard := none } :: rest) Q ⟨T, H, D, n⟩ := Z1 (w0 rfl) hd (Z01 rfl hxs hc) h
theorem Zld [tk : TK P t true 5] {c1 c2 c3 c4 c5 : AV} {pl : List (Nat × Nat)} {zs : List Value} {ps : Array (Nat × Operand)} {xs : List AV} (h : Calm P ops H0 KK (kk + 1) rest M ⟨(d, .agg [c1, c2, c3, c4, c5]) :: T, H, D, n⟩) (hxs : evs T (ps.toList.map Prod.snd) = some xs := by rfl) [hl : PL P t pl] [hz : ZC P t zs] (hc : fillA (fun i => pl[i]?) (zs.map .v) ((ps.toList.map Prod.fst).zip xs) = some [c1, c2, c3, c4, c5] := by rfl) (hd : Nat.blt d n = true := by rfl) : Calm P ops H0 KK kk ({ dst := some d, op := .build t ps, type := ty, pos := po, after := af, guard := none } :: rest) M ⟨T, H, D, n⟩ := Z9 (w0 rfl) hd (Z01 rfl hxs hc) h
theorem Zk9 [tk : TK P t true 5] {c1 c2 c3 c4 c5 : AV} {pl : List (Nat × Nat)} {zs : List Value} {ps : Array (Nat × Operand)} {xs : List AV} {g gt : Nat} {gb : Bool} {og : Oper} (h : Calm P ops H0 KK (kk + 1) rest M ⟨(d, .agg [c1, c2, c3, c4, c5]) :: T, H, D, n⟩) (g1 : ops[g]? = some og := by rfl) (g2 : og.dst = some gt := by rfl) (g3 : lk T gt = some (.v (.bool gb)) := by rfl) (hxs : evs T (ps.toList.map Prod.snd) = some xs := by rfl) [hl : PL P t pl] [hz : ZC P t zs] (hc : fillA (fun i => pl[i]?) (zs.map .v) ((ps.toList.map Prod.fst).zip xs) = some [c1, c2, c3, c4, c5] := by rfl) (hd : Nat.blt d n = true := by rfl) : Calm P ops H0 KK kk ({ dst := some d, op := .build t ps, type := ty, pos := po, after := af, guard := some (g, gb) } :: rest) M ⟨T, H, D, n⟩ := Z9 (wY rfl g1 g2 g3) hd (Z01 rfl hxs hc) h
theorem Zmb [tk : TK P t true 5] {c1 c2 c3 c4 c5 : AV} {pl : List (Nat × Nat)} {zs : List Value} {ps : Array (Nat × Operand)} {xs : List AV} {g gt : Nat} {gb : Bool} {og : Oper} (h : AOps P ro ops rest Q ⟨(d, .agg [c1, c2, c3, c4, c5]) :: T, H, D, n⟩) (g1 : ops[g]? = some og := by rfl) (g2 : og.dst = some gt := by rfl) (g3 : lk T gt = some (.v (.bool gb)) := by rfl) (hxs : evs T (ps.toList.map Prod.snd) = some xs := by rfl) [hl : PL P t pl] [hz : ZC P t zs] (hc : fillA (fun i => pl[i]?) (zs.map .v) ((ps.toList.map Prod.fst).zip xs) = some [c1, c2, c3, c4, c5] := by rfl) (hd : Nat.blt d n = true := by rfl) : AOps P ro ops ({ dst := some d, op := .build t ps, type := ty, pos := po, after := af, guard := some (g, gb) } :: rest) Q ⟨T, H, D, n⟩ := Z1 (wY rfl g1 g2 g3) hd (Z01 rfl hxs hc) h
theorem zB7 [tk : TK P t true 7] {c1 c2 c3 c4 c5 c6 c7 : AV} {pl : List (Nat × Nat)} {zs : List Value} {ps : Array (Nat × Operand)} {xs : List AV} (h : AOps P ro ops rest Q ⟨(d, .agg [c1, c2, c3, c4, c5, c6, c7]) :: T, H, D, n⟩) (hxs : evs T (ps.toList.map Prod.snd) = some xs := by rfl) [hl : PL P t pl] [hz : ZC P t zs] (hc : fillA (fun i => pl[i]?) (zs.map .v) ((ps.toList.map Prod.fst).zip xs) = some [c1, c2, c3, c4, c5, c6, c7] := by rfl) (hd : Nat.blt d n = true := by rfl) : AOps P ro ops ({ dst := some d, op := .build t ps, type := ty, pos := po, after := af, guard := none } :: rest) Q ⟨T, H, D, n⟩ := Z1 (w0 rfl) hd (Z01 rfl hxs hc) h
theorem Zle [tk : TK P t true 7] {c1 c2 c3 c4 c5 c6 c7 : AV} {pl : List (Nat × Nat)} {zs : List Value} {ps : Array (Nat × Operand)} {xs : List AV} (h : Calm P ops H0 KK (kk + 1) rest M ⟨(d, .agg [c1, c2, c3, c4, c5, c6, c7]) :: T, H, D, n⟩) (hxs : evs T (ps.toList.map Prod.snd) = some xs := by rfl) [hl : PL P t pl] [hz : ZC P t zs] (hc : fillA (fun i => pl[i]?) (zs.map .v) ((ps.toList.map Prod.fst).zip xs) = some [c1, c2, c3, c4, c5, c6, c7] := by rfl) (hd : Nat.blt d n = true := by rfl) : Calm P ops H0 KK kk ({ dst := some d, op := .build t ps, type := ty, pos := po, after := af, guard := none } :: rest) M ⟨T, H, D, n⟩ := Z9 (w0 rfl) hd (Z01 rfl hxs hc) h
theorem Zka [tk : TK P t true 7] {c1 c2 c3 c4 c5 c6 c7 : AV} {pl : List (Nat × Nat)} {zs : List Value} {ps : Array (Nat × Operand)} {xs : List AV} {g gt : Nat} {gb : Bool} {og : Oper} (h : Calm P ops H0 KK (kk + 1) rest M ⟨(d, .agg [c1, c2, c3, c4, c5, c6, c7]) :: T, H, D, n⟩) (g1 : ops[g]? = some og := by rfl) (g2 : og.dst = some gt := by rfl) (g3 : lk T gt = some (.v (.bool gb)) := by rfl) (hxs : evs T (ps.toList.map Prod.snd) = some xs := by rfl) [hl : PL P t pl] [hz : ZC P t zs] (hc : fillA (fun i => pl[i]?) (zs.map .v) ((ps.toList.map Prod.fst).zip xs) = some [c1, c2, c3, c4, c5, c6, c7] := by rfl) (hd : Nat.blt d n = true := by rfl) : Calm P ops H0 KK kk ({ dst := some d, op := .build t ps, type := ty, pos := po, after := af, guard := some (g, gb) } :: rest) M ⟨T, H, D, n⟩ := Z9 (wY rfl g1 g2 g3) hd (Z01 rfl hxs hc) h
theorem Zmc [tk : TK P t true 7] {c1 c2 c3 c4 c5 c6 c7 : AV} {pl : List (Nat × Nat)} {zs : List Value} {ps : Array (Nat × Operand)} {xs : List AV} {g gt : Nat} {gb : Bool} {og : Oper} (h : AOps P ro ops rest Q ⟨(d, .agg [c1, c2, c3, c4, c5, c6, c7]) :: T, H, D, n⟩) (g1 : ops[g]? = some og := by rfl) (g2 : og.dst = some gt := by rfl) (g3 : lk T gt = some (.v (.bool gb)) := by rfl) (hxs : evs T (ps.toList.map Prod.snd) = some xs := by rfl) [hl : PL P t pl] [hz : ZC P t zs] (hc : fillA (fun i => pl[i]?) (zs.map .v) ((ps.toList.map Prod.fst).zip xs) = some [c1, c2, c3, c4, c5, c6, c7] := by rfl) (hd : Nat.blt d n = true := by rfl) : AOps P ro ops ({ dst := some d, op := .build t ps, type := ty, pos := po, after := af, guard := some (g, gb) } :: rest) Q ⟨T, H, D, n⟩ := Z1 (wY rfl g1 g2 g3) hd (Z01 rfl hxs hc) h
theorem zB9 [tk : TK P t true 9] {c1 c2 c3 c4 c5 c6 c7 c8 c9 : AV} {pl : List (Nat × Nat)} {zs : List Value} {ps : Array (Nat × Operand)} {xs : List AV} (h : AOps P ro ops rest Q ⟨(d, .agg [c1, c2, c3, c4, c5, c6, c7, c8, c9]) :: T, H, D, n⟩) (hxs : evs T (ps.toList.map Prod.snd) = some xs := by rfl) [hl : PL P t pl] [hz : ZC P t zs] (hc : fillA (fun i => pl[i]?) (zs.map .v) ((ps.toList.map Prod.fst).zip xs) = some [c1, c2, c3, c4, c5, c6, c7, c8, c9] := by rfl) (hd : Nat.blt d n = true := by rfl) : AOps P ro ops ({ dst := some d, op := .build t ps, type := ty, pos := po, after := af, guard := none } :: rest) Q ⟨T, H, D, n⟩ := Z1 (w0 rfl) hd (Z01 rfl hxs hc) h
theorem Zlf [tk : TK P t true 9] {c1 c2 c3 c4 c5 c6 c7 c8 c9 : AV} {pl : List (Nat × Nat)} {zs : List Value} {ps : Array (Nat × Operand)} {xs : List AV} (h : Calm P ops H0 KK (kk + 1) rest M ⟨(d, .agg [c1, c2, c3, c4, c5, c6, c7, c8, c9]) :: T, H, D, n⟩) (hxs : evs T (ps.toList.map Prod.snd) = some xs := by rfl) [hl : PL P t pl] [hz : ZC P t zs] (hc : fillA (fun i => pl[i]?) (zs.map .v) ((ps.toList.map Prod.fst).zip xs) = some [c1, c2, c3, c4, c5, c6, c7, c8, c9] := by rfl) (hd : Nat.blt d n = true := by rfl) : Calm P ops H0 KK kk ({ dst := some d, op := .build t ps, type := ty, pos := po, after := af, guard := none } :: rest) M ⟨T, H, D, n⟩ := Z9 (w0 rfl) hd (Z01 rfl hxs hc) h
theorem Zkb [tk : TK P t true 9] {c1 c2 c3 c4 c5 c6 c7 c8 c9 : AV} {pl : List (Nat × Nat)} {zs : List Value} {ps : Array (Nat × Operand)} {xs : List AV} {g gt : Nat} {gb : Bool} {og : Oper} (h : Calm P ops H0 KK (kk + 1) rest M ⟨(d, .agg [c1, c2, c3, c4, c5, c6, c7, c8, c9]) :: T, H, D, n⟩) (g1 : ops[g]? = some og := by rfl) (g2 : og.dst = some gt := by rfl) (g3 : lk T gt = some (.v (.bool gb)) := by rfl) (hxs : evs T (ps.toList.map Prod.snd) = some xs := by rfl) [hl : PL P t pl] [hz : ZC P t zs] (hc : fillA (fun i => pl[i]?) (zs.map .v) ((ps.toList.map Prod.fst).zip xs) = some [c1, c2, c3, c4, c5, c6, c7, c8, c9] := by rfl) (hd : Nat.blt d n = true := by rfl) : Calm P ops H0 KK kk ({ dst := some d, op := .build t ps, type := ty, pos := po, after := af, guard := some (g, gb) } :: rest) M ⟨T, H, D, n⟩ := Z9 (wY rfl g1 g2 g3) hd (Z01 rfl hxs hc) h
theorem Zmd [tk : TK P t true 9] {c1 c2 c3 c4 c5 c6 c7 c8 c9 : AV} {pl : List (Nat × Nat)} {zs : List Value} {ps : Array (Nat × Operand)} {xs : List AV} {g gt : Nat} {gb : Bool} {og : Oper} (h : AOps P ro ops rest Q ⟨(d, .agg [c1, c2, c3, c4, c5, c6, c7, c8, c9]) :: T, H, D, n⟩) (g1 : ops[g]? = some og := by rfl) (g2 : og.dst = some gt := by rfl) (g3 : lk T gt = some (.v (.bool gb)) := by rfl) (hxs : evs T (ps.toList.map Prod.snd) = some xs := by rfl) [hl : PL P t pl] [hz : ZC P t zs] (hc : fillA (fun i => pl[i]?) (zs.map .v) ((ps.toList.map Prod.fst).zip xs) = some [c1, c2, c3, c4, c5, c6, c7, c8, c9] := by rfl) (hd : Nat.blt d n = true := by rfl) : AOps P ro ops ({ dst := some d, op := .build t ps, type := ty, pos := po, after := af, guard := some (g, gb) } :: rest) Q ⟨T, H, D, n⟩ := Z1 (wY rfl g1 g2 g3) hd (Z01 rfl hxs hc) h
theorem Zl5 [tk : TK P t true 10] {c1 c2 c3 c4 c5 c6 c7 c8 c9 c10 : AV} {pl : List (Nat × Nat)} {zs : List Value} {ps : Array (Nat × Operand)} {xs : List AV} (h : AOps P ro ops rest Q ⟨(d, .agg [c1, c2, c3, c4, c5, c6, c7, c8, c9, c10]) :: T, H, D, n⟩) (hxs : evs T (ps.toList.map Prod.snd) = some xs := by rfl) [hl : PL P t pl] [hz : ZC P t zs] (hc : fillA (fun i => pl[i]?) (zs.map .v) ((ps.toList.map Prod.fst).zip xs) = some [c1, c2, c3, c4, c5, c6, c7, c8, c9, c10] := by rfl) (hd : Nat.blt d n = true := by rfl) : AOps P ro ops ({ dst := some d, op := .build t ps, type := ty, pos := po, after := af, guard := none } :: rest) Q ⟨T, H, D, n⟩ := Z1 (w0 rfl) hd (Z01 rfl hxs hc) h
theorem Zk0 [tk : TK P t true 10] {c1 c2 c3 c4 c5 c6 c7 c8 c9 c10 : AV} {pl : List (Nat × Nat)} {zs : List Value} {ps : Array (Nat × Operand)} {xs : List AV} (h : Calm P ops H0 KK (kk + 1) rest M ⟨(d, .agg [c1, c2, c3, c4, c5, c6, c7, c8, c9, c10]) :: T, H, D, n⟩) (hxs : evs T (ps.toList.map Prod.snd) = some xs := by rfl) [hl : PL P t pl] [hz : ZC P t zs] (hc : fillA (fun i => pl[i]?) (zs.map .v) ((ps.toList.map Prod.fst).zip xs) = some [c1, c2, c3, c4, c5, c6, c7, c8, c9, c10] := by rfl) (hd : Nat.blt d n = true := by rfl) : Calm P ops H0 KK kk ({ dst := some d, op := .build t ps, type := ty, pos := po, after := af, guard := none } :: rest) M ⟨T, H, D, n⟩ := Z9 (w0 rfl) hd (Z01 rfl hxs hc) h
theorem Zjd [tk : TK P t true 10] {c1 c2 c3 c4 c5 c6 c7 c8 c9 c10 : AV} {pl : List (Nat × Nat)} {zs : List Value} {ps : Array (Nat × Operand)} {xs : List AV} {g gt : Nat} {gb : Bool} {og : Oper} (h : Calm P ops H0 KK (kk + 1) rest M ⟨(d, .agg [c1, c2, c3, c4, c5, c6, c7, c8, c9, c10]) :: T, H, D, n⟩) (g1 : ops[g]? = some og := by rfl) (g2 : og.dst = some gt := by rfl) (g3 : lk T gt = some (.v (.bool gb)) := by rfl) (hxs : evs T (ps.toList.map Prod.snd) = some xs := by rfl) [hl : PL P t pl] [hz : ZC P t zs] (hc : fillA (fun i => pl[i]?) (zs.map .v) ((ps.toList.map Prod.fst).zip xs) = some [c1, c2, c3, c4, c5, c6, c7, c8, c9, c10] := by rfl) (hd : Nat.blt d n = true := by rfl) : Calm P ops H0 KK kk ({ dst := some d, op := .build t ps, type := ty, pos := po, after := af, guard := some (g, gb) } :: rest) M ⟨T, H, D, n⟩ := Z9 (wY rfl g1 g2 g3) hd (Z01 rfl hxs hc) h
theorem Zks [tk : TK P t true 10] {c1 c2 c3 c4 c5 c6 c7 c8 c9 c10 : AV} {pl : List (Nat × Nat)} {zs : List Value} {ps : Array (Nat × Operand)} {xs : List AV} {g gt : Nat} {gb : Bool} {og : Oper} (h : AOps P ro ops rest Q ⟨(d, .agg [c1, c2, c3, c4, c5, c6, c7, c8, c9, c10]) :: T, H, D, n⟩) (g1 : ops[g]? = some og := by rfl) (g2 : og.dst = some gt := by rfl) (g3 : lk T gt = some (.v (.bool gb)) := by rfl) (hxs : evs T (ps.toList.map Prod.snd) = some xs := by rfl) [hl : PL P t pl] [hz : ZC P t zs] (hc : fillA (fun i => pl[i]?) (zs.map .v) ((ps.toList.map Prod.fst).zip xs) = some [c1, c2, c3, c4, c5, c6, c7, c8, c9, c10] := by rfl) (hd : Nat.blt d n = true := by rfl) : AOps P ro ops ({ dst := some d, op := .build t ps, type := ty, pos := po, after := af, guard := some (g, gb) } :: rest) Q ⟨T, H, D, n⟩ := Z1 (wY rfl g1 g2 g3) hd (Z01 rfl hxs hc) h
theorem zC0 {ats : Array TypeId} {f : Nat} (h : AOps P ro ops rest Q ⟨(d, x) :: T, H, D, n⟩)  [hc : Con P f [] x] (hd : Nat.blt d n = true := by rfl) : AOps P ro ops ({ dst := some d, op := .call { callee := .value (.func f), args := #[], argTypes := ats }, type := ty, pos := po, after := af, guard := none } :: rest) Q ⟨T, H, D, n⟩ := Z1 (w0 rfl) hd (Zp (caps := []) [] rfl rfl Z0e hc.c List.nodup_nil) h
theorem Zlg {ats : Array TypeId} {f : Nat} (h : Calm P ops H0 KK (kk + 1) rest M ⟨(d, x) :: T, H, D, n⟩)  [hc : Con P f [] x] (hd : Nat.blt d n = true := by rfl) : Calm P ops H0 KK kk ({ dst := some d, op := .call { callee := .value (.func f), args := #[], argTypes := ats }, type := ty, pos := po, after := af, guard := none } :: rest) M ⟨T, H, D, n⟩ := Z9 (w0 rfl) hd (Zp (caps := []) [] rfl rfl Z0e hc.c List.nodup_nil) h
theorem Zkc {ats : Array TypeId} {f : Nat} {g gt : Nat} {gb : Bool} {og : Oper} (h : Calm P ops H0 KK (kk + 1) rest M ⟨(d, x) :: T, H, D, n⟩) (g1 : ops[g]? = some og := by rfl) (g2 : og.dst = some gt := by rfl) (g3 : lk T gt = some (.v (.bool gb)) := by rfl)  [hc : Con P f [] x] (hd : Nat.blt d n = true := by rfl) : Calm P ops H0 KK kk ({ dst := some d, op := .call { callee := .value (.func f), args := #[], argTypes := ats }, type := ty, pos := po, after := af, guard := some (g, gb) } :: rest) M ⟨T, H, D, n⟩ := Z9 (wY rfl g1 g2 g3) hd (Zp (caps := []) [] rfl rfl Z0e hc.c List.nodup_nil) h
theorem Zme {ats : Array TypeId} {f : Nat} {g gt : Nat} {gb : Bool} {og : Oper} (h : AOps P ro ops rest Q ⟨(d, x) :: T, H, D, n⟩) (g1 : ops[g]? = some og := by rfl) (g2 : og.dst = some gt := by rfl) (g3 : lk T gt = some (.v (.bool gb)) := by rfl)  [hc : Con P f [] x] (hd : Nat.blt d n = true := by rfl) : AOps P ro ops ({ dst := some d, op := .call { callee := .value (.func f), args := #[], argTypes := ats }, type := ty, pos := po, after := af, guard := some (g, gb) } :: rest) Q ⟨T, H, D, n⟩ := Z1 (wY rfl g1 g2 g3) hd (Zp (caps := []) [] rfl rfl Z0e hc.c List.nodup_nil) h
theorem zC1 {ats : Array TypeId} {f : Nat} {p1 : Operand} {x1 : AV} (h : AOps P ro ops rest Q ⟨(d, x) :: T, H, D, n⟩) (h1 : ev T p1 = some x1 := by rfl) [hc : Con P f [x1] x] (hd : Nat.blt d n = true := by rfl) : AOps P ro ops ({ dst := some d, op := .call { callee := .value (.func f), args := #[p1], argTypes := ats }, type := ty, pos := po, after := af, guard := none } :: rest) Q ⟨T, H, D, n⟩ := Z1 (w0 rfl) hd (Zp (caps := []) [] rfl rfl (Zn h1 Z0e) hc.c List.nodup_nil) h
theorem Zlh {ats : Array TypeId} {f : Nat} {p1 : Operand} {x1 : AV} (h : Calm P ops H0 KK (kk + 1) rest M ⟨(d, x) :: T, H, D, n⟩) (h1 : ev T p1 = some x1 := by rfl) [hc : Con P f [x1] x] (hd : Nat.blt d n = true := by rfl) : Calm P ops H0 KK kk ({ dst := some d, op := .call { callee := .value (.func f), args := #[p1], argTypes := ats }, type := ty, pos := po, after := af, guard := none } :: rest) M ⟨T, H, D, n⟩ := Z9 (w0 rfl) hd (Zp (caps := []) [] rfl rfl (Zn h1 Z0e) hc.c List.nodup_nil) h
theorem Zkd {ats : Array TypeId} {f : Nat} {p1 : Operand} {x1 : AV} {g gt : Nat} {gb : Bool} {og : Oper} (h : Calm P ops H0 KK (kk + 1) rest M ⟨(d, x) :: T, H, D, n⟩) (g1 : ops[g]? = some og := by rfl) (g2 : og.dst = some gt := by rfl) (g3 : lk T gt = some (.v (.bool gb)) := by rfl) (h1 : ev T p1 = some x1 := by rfl) [hc : Con P f [x1] x] (hd : Nat.blt d n = true := by rfl) : Calm P ops H0 KK kk ({ dst := some d, op := .call { callee := .value (.func f), args := #[p1], argTypes := ats }, type := ty, pos := po, after := af, guard := some (g, gb) } :: rest) M ⟨T, H, D, n⟩ := Z9 (wY rfl g1 g2 g3) hd (Zp (caps := []) [] rfl rfl (Zn h1 Z0e) hc.c List.nodup_nil) h
theorem Zmf {ats : Array TypeId} {f : Nat} {p1 : Operand} {x1 : AV} {g gt : Nat} {gb : Bool} {og : Oper} (h : AOps P ro ops rest Q ⟨(d, x) :: T, H, D, n⟩) (g1 : ops[g]? = some og := by rfl) (g2 : og.dst = some gt := by rfl) (g3 : lk T gt = some (.v (.bool gb)) := by rfl) (h1 : ev T p1 = some x1 := by rfl) [hc : Con P f [x1] x] (hd : Nat.blt d n = true := by rfl) : AOps P ro ops ({ dst := some d, op := .call { callee := .value (.func f), args := #[p1], argTypes := ats }, type := ty, pos := po, after := af, guard := some (g, gb) } :: rest) Q ⟨T, H, D, n⟩ := Z1 (wY rfl g1 g2 g3) hd (Zp (caps := []) [] rfl rfl (Zn h1 Z0e) hc.c List.nodup_nil) h
theorem zC2 {ats : Array TypeId} {f : Nat} {p1 p2 : Operand} {x1 x2 : AV} (h : AOps P ro ops rest Q ⟨(d, x) :: T, H, D, n⟩) (h1 : ev T p1 = some x1 := by rfl) (h2 : ev T p2 = some x2 := by rfl) [hc : Con P f [x1, x2] x] (hd : Nat.blt d n = true := by rfl) : AOps P ro ops ({ dst := some d, op := .call { callee := .value (.func f), args := #[p1, p2], argTypes := ats }, type := ty, pos := po, after := af, guard := none } :: rest) Q ⟨T, H, D, n⟩ := Z1 (w0 rfl) hd (Zp (caps := []) [] rfl rfl (Zn h1 (Zn h2 Z0e)) hc.c List.nodup_nil) h
theorem Zli {ats : Array TypeId} {f : Nat} {p1 p2 : Operand} {x1 x2 : AV} (h : Calm P ops H0 KK (kk + 1) rest M ⟨(d, x) :: T, H, D, n⟩) (h1 : ev T p1 = some x1 := by rfl) (h2 : ev T p2 = some x2 := by rfl) [hc : Con P f [x1, x2] x] (hd : Nat.blt d n = true := by rfl) : Calm P ops H0 KK kk ({ dst := some d, op := .call { callee := .value (.func f), args := #[p1, p2], argTypes := ats }, type := ty, pos := po, after := af, guard := none } :: rest) M ⟨T, H, D, n⟩ := Z9 (w0 rfl) hd (Zp (caps := []) [] rfl rfl (Zn h1 (Zn h2 Z0e)) hc.c List.nodup_nil) h
theorem Zke {ats : Array TypeId} {f : Nat} {p1 p2 : Operand} {x1 x2 : AV} {g gt : Nat} {gb : Bool} {og : Oper} (h : Calm P ops H0 KK (kk + 1) rest M ⟨(d, x) :: T, H, D, n⟩) (g1 : ops[g]? = some og := by rfl) (g2 : og.dst = some gt := by rfl) (g3 : lk T gt = some (.v (.bool gb)) := by rfl) (h1 : ev T p1 = some x1 := by rfl) (h2 : ev T p2 = some x2 := by rfl) [hc : Con P f [x1, x2] x] (hd : Nat.blt d n = true := by rfl) : Calm P ops H0 KK kk ({ dst := some d, op := .call { callee := .value (.func f), args := #[p1, p2], argTypes := ats }, type := ty, pos := po, after := af, guard := some (g, gb) } :: rest) M ⟨T, H, D, n⟩ := Z9 (wY rfl g1 g2 g3) hd (Zp (caps := []) [] rfl rfl (Zn h1 (Zn h2 Z0e)) hc.c List.nodup_nil) h
theorem Zmg {ats : Array TypeId} {f : Nat} {p1 p2 : Operand} {x1 x2 : AV} {g gt : Nat} {gb : Bool} {og : Oper} (h : AOps P ro ops rest Q ⟨(d, x) :: T, H, D, n⟩) (g1 : ops[g]? = some og := by rfl) (g2 : og.dst = some gt := by rfl) (g3 : lk T gt = some (.v (.bool gb)) := by rfl) (h1 : ev T p1 = some x1 := by rfl) (h2 : ev T p2 = some x2 := by rfl) [hc : Con P f [x1, x2] x] (hd : Nat.blt d n = true := by rfl) : AOps P ro ops ({ dst := some d, op := .call { callee := .value (.func f), args := #[p1, p2], argTypes := ats }, type := ty, pos := po, after := af, guard := some (g, gb) } :: rest) Q ⟨T, H, D, n⟩ := Z1 (wY rfl g1 g2 g3) hd (Zp (caps := []) [] rfl rfl (Zn h1 (Zn h2 Z0e)) hc.c List.nodup_nil) h
theorem zC3 {ats : Array TypeId} {f : Nat} {p1 p2 p3 : Operand} {x1 x2 x3 : AV} (h : AOps P ro ops rest Q ⟨(d, x) :: T, H, D, n⟩) (h1 : ev T p1 = some x1 := by rfl) (h2 : ev T p2 = some x2 := by rfl) (h3 : ev T p3 = some x3 := by rfl) [hc : Con P f [x1, x2, x3] x] (hd : Nat.blt d n = true := by rfl) : AOps P ro ops ({ dst := some d, op := .call { callee := .value (.func f), args := #[p1, p2, p3], argTypes := ats }, type := ty, pos := po, after := af, guard := none } :: rest) Q ⟨T, H, D, n⟩ := Z1 (w0 rfl) hd (Zp (caps := []) [] rfl rfl (Zn h1 (Zn h2 (Zn h3 Z0e))) hc.c List.nodup_nil) h
theorem Zlj {ats : Array TypeId} {f : Nat} {p1 p2 p3 : Operand} {x1 x2 x3 : AV} (h : Calm P ops H0 KK (kk + 1) rest M ⟨(d, x) :: T, H, D, n⟩) (h1 : ev T p1 = some x1 := by rfl) (h2 : ev T p2 = some x2 := by rfl) (h3 : ev T p3 = some x3 := by rfl) [hc : Con P f [x1, x2, x3] x] (hd : Nat.blt d n = true := by rfl) : Calm P ops H0 KK kk ({ dst := some d, op := .call { callee := .value (.func f), args := #[p1, p2, p3], argTypes := ats }, type := ty, pos := po, after := af, guard := none } :: rest) M ⟨T, H, D, n⟩ := Z9 (w0 rfl) hd (Zp (caps := []) [] rfl rfl (Zn h1 (Zn h2 (Zn h3 Z0e))) hc.c List.nodup_nil) h
theorem Zkf {ats : Array TypeId} {f : Nat} {p1 p2 p3 : Operand} {x1 x2 x3 : AV} {g gt : Nat} {gb : Bool} {og : Oper} (h : Calm P ops H0 KK (kk + 1) rest M ⟨(d, x) :: T, H, D, n⟩) (g1 : ops[g]? = some og := by rfl) (g2 : og.dst = some gt := by rfl) (g3 : lk T gt = some (.v (.bool gb)) := by rfl) (h1 : ev T p1 = some x1 := by rfl) (h2 : ev T p2 = some x2 := by rfl) (h3 : ev T p3 = some x3 := by rfl) [hc : Con P f [x1, x2, x3] x] (hd : Nat.blt d n = true := by rfl) : Calm P ops H0 KK kk ({ dst := some d, op := .call { callee := .value (.func f), args := #[p1, p2, p3], argTypes := ats }, type := ty, pos := po, after := af, guard := some (g, gb) } :: rest) M ⟨T, H, D, n⟩ := Z9 (wY rfl g1 g2 g3) hd (Zp (caps := []) [] rfl rfl (Zn h1 (Zn h2 (Zn h3 Z0e))) hc.c List.nodup_nil) h
theorem Zmh {ats : Array TypeId} {f : Nat} {p1 p2 p3 : Operand} {x1 x2 x3 : AV} {g gt : Nat} {gb : Bool} {og : Oper} (h : AOps P ro ops rest Q ⟨(d, x) :: T, H, D, n⟩) (g1 : ops[g]? = some og := by rfl) (g2 : og.dst = some gt := by rfl) (g3 : lk T gt = some (.v (.bool gb)) := by rfl) (h1 : ev T p1 = some x1 := by rfl) (h2 : ev T p2 = some x2 := by rfl) (h3 : ev T p3 = some x3 := by rfl) [hc : Con P f [x1, x2, x3] x] (hd : Nat.blt d n = true := by rfl) : AOps P ro ops ({ dst := some d, op := .call { callee := .value (.func f), args := #[p1, p2, p3], argTypes := ats }, type := ty, pos := po, after := af, guard := some (g, gb) } :: rest) Q ⟨T, H, D, n⟩ := Z1 (wY rfl g1 g2 g3) hd (Zp (caps := []) [] rfl rfl (Zn h1 (Zn h2 (Zn h3 Z0e))) hc.c List.nodup_nil) h
theorem zC4 {ats : Array TypeId} {f : Nat} {p1 p2 p3 p4 : Operand} {x1 x2 x3 x4 : AV} (h : AOps P ro ops rest Q ⟨(d, x) :: T, H, D, n⟩) (h1 : ev T p1 = some x1 := by rfl) (h2 : ev T p2 = some x2 := by rfl) (h3 : ev T p3 = some x3 := by rfl) (h4 : ev T p4 = some x4 := by rfl) [hc : Con P f [x1, x2, x3, x4] x] (hd : Nat.blt d n = true := by rfl) : AOps P ro ops ({ dst := some d, op := .call { callee := .value (.func f), args := #[p1, p2, p3, p4], argTypes := ats }, type := ty, pos := po, after := af, guard := none } :: rest) Q ⟨T, H, D, n⟩ := Z1 (w0 rfl) hd (Zp (caps := []) [] rfl rfl (Zn h1 (Zn h2 (Zn h3 (Zn h4 Z0e)))) hc.c List.nodup_nil) h
theorem Zlk {ats : Array TypeId} {f : Nat} {p1 p2 p3 p4 : Operand} {x1 x2 x3 x4 : AV} (h : Calm P ops H0 KK (kk + 1) rest M ⟨(d, x) :: T, H, D, n⟩) (h1 : ev T p1 = some x1 := by rfl) (h2 : ev T p2 = some x2 := by rfl) (h3 : ev T p3 = some x3 := by rfl) (h4 : ev T p4 = some x4 := by rfl) [hc : Con P f [x1, x2, x3, x4] x] (hd : Nat.blt d n = true := by rfl) : Calm P ops H0 KK kk ({ dst := some d, op := .call { callee := .value (.func f), args := #[p1, p2, p3, p4], argTypes := ats }, type := ty, pos := po, after := af, guard := none } :: rest) M ⟨T, H, D, n⟩ := Z9 (w0 rfl) hd (Zp (caps := []) [] rfl rfl (Zn h1 (Zn h2 (Zn h3 (Zn h4 Z0e)))) hc.c List.nodup_nil) h
theorem Zkg {ats : Array TypeId} {f : Nat} {p1 p2 p3 p4 : Operand} {x1 x2 x3 x4 : AV} {g gt : Nat} {gb : Bool} {og : Oper} (h : Calm P ops H0 KK (kk + 1) rest M ⟨(d, x) :: T, H, D, n⟩) (g1 : ops[g]? = some og := by rfl) (g2 : og.dst = some gt := by rfl) (g3 : lk T gt = some (.v (.bool gb)) := by rfl) (h1 : ev T p1 = some x1 := by rfl) (h2 : ev T p2 = some x2 := by rfl) (h3 : ev T p3 = some x3 := by rfl) (h4 : ev T p4 = some x4 := by rfl) [hc : Con P f [x1, x2, x3, x4] x] (hd : Nat.blt d n = true := by rfl) : Calm P ops H0 KK kk ({ dst := some d, op := .call { callee := .value (.func f), args := #[p1, p2, p3, p4], argTypes := ats }, type := ty, pos := po, after := af, guard := some (g, gb) } :: rest) M ⟨T, H, D, n⟩ := Z9 (wY rfl g1 g2 g3) hd (Zp (caps := []) [] rfl rfl (Zn h1 (Zn h2 (Zn h3 (Zn h4 Z0e)))) hc.c List.nodup_nil) h
theorem Zmi {ats : Array TypeId} {f : Nat} {p1 p2 p3 p4 : Operand} {x1 x2 x3 x4 : AV} {g gt : Nat} {gb : Bool} {og : Oper} (h : AOps P ro ops rest Q ⟨(d, x) :: T, H, D, n⟩) (g1 : ops[g]? = some og := by rfl) (g2 : og.dst = some gt := by rfl) (g3 : lk T gt = some (.v (.bool gb)) := by rfl) (h1 : ev T p1 = some x1 := by rfl) (h2 : ev T p2 = some x2 := by rfl) (h3 : ev T p3 = some x3 := by rfl) (h4 : ev T p4 = some x4 := by rfl) [hc : Con P f [x1, x2, x3, x4] x] (hd : Nat.blt d n = true := by rfl) : AOps P ro ops ({ dst := some d, op := .call { callee := .value (.func f), args := #[p1, p2, p3, p4], argTypes := ats }, type := ty, pos := po, after := af, guard := some (g, gb) } :: rest) Q ⟨T, H, D, n⟩ := Z1 (wY rfl g1 g2 g3) hd (Zp (caps := []) [] rfl rfl (Zn h1 (Zn h2 (Zn h3 (Zn h4 Z0e)))) hc.c List.nodup_nil) h
theorem zD {g gt : Nat} {gb : Bool} {og : Oper} {op : Op} (h : AOps P ro ops rest Q ⟨(d, .v undef) :: T, H, D, n⟩) (g1 : ops[g]? = some og := by rfl) (g2 : og.dst = some gt := by rfl) (g3 : lk T gt = some (.v (.bool (!gb))) := by rfl) (hd : Nat.blt d n = true := by rfl) : AOps P ro ops ({ dst := some d, op := op, type := ty, pos := po, after := af, guard := some (g, gb) } :: rest) Q ⟨T, H, D, n⟩ := Z0f (x := .v undef) (wZ rfl g1 g2 g3) hd nofun h
theorem Zjy {m : Nat} {b : Bool} {l : List AV} (h : ∀ id, AOps P ro ops rest Q ⟨(d, .ptr id m 0 0) :: T, (id, .rows t m [l]) :: H, D, n⟩) (hp : ev T p = some x := by rfl) [k : TK P t b m] (hl : cellsA x = l := by rfl) (hn : l.length = m := by rfl) (h1 : l.all one = true := by rfl) (hd : Nat.blt d n = true := by rfl) : AOps P ro ops ({ dst := some d, op := .box t p, type := ty, pos := po, after := af, guard := none } :: rest) Q ⟨T, H, D, n⟩ := Z15 (w0 rfl) hd (fun id => Z4g id rfl hp hl hn h1) h
theorem Zl4 {b : Bool} [kt : TK P t b 1] {zs : List Value} [z : ZC P t zs] {c1 : AV} (h : ∀ id, AOps P ro ops rest Q ⟨(d, .ptr id 1 0 0) :: T, (id, .rows t 1 [[c1]]) :: H, D, n⟩) (hl : zs.map AV.v = [c1] := by rfl) (hn : zs.length = 1 := by rfl) (h1 : (zs.map AV.v).all one = true := by rfl) (hd : Nat.blt d n = true := by rfl) : AOps P ro ops ({ dst := some d, op := .alloc t, type := ty, pos := po, after := af, guard := none } :: rest) Q ⟨T, H, D, n⟩ := Z15 (w0 rfl) hd (fun id => Z20 id rfl hn h1) (by rw [hl]; exact h)
theorem Zed {b : Bool} [kt : TK P t b 2] {zs : List Value} [z : ZC P t zs] {c1 c2 : AV} (h : ∀ id, AOps P ro ops rest Q ⟨(d, .ptr id 2 0 0) :: T, (id, .rows t 2 [[c1, c2]]) :: H, D, n⟩) (hl : zs.map AV.v = [c1, c2] := by rfl) (hn : zs.length = 2 := by rfl) (h1 : (zs.map AV.v).all one = true := by rfl) (hd : Nat.blt d n = true := by rfl) : AOps P ro ops ({ dst := some d, op := .alloc t, type := ty, pos := po, after := af, guard := none } :: rest) Q ⟨T, H, D, n⟩ := Z15 (w0 rfl) hd (fun id => Z20 id rfl hn h1) (by rw [hl]; exact h)
theorem Zja {b : Bool} [kt : TK P t b 10] {zs : List Value} [z : ZC P t zs] {c1 c2 c3 c4 c5 c6 c7 c8 c9 c10 : AV} (h : ∀ id, AOps P ro ops rest Q ⟨(d, .ptr id 10 0 0) :: T, (id, .rows t 10 [[c1, c2, c3, c4, c5, c6, c7, c8, c9, c10]]) :: H, D, n⟩) (hl : zs.map AV.v = [c1, c2, c3, c4, c5, c6, c7, c8, c9, c10] := by rfl) (hn : zs.length = 10 := by rfl) (h1 : (zs.map AV.v).all one = true := by rfl) (hd : Nat.blt d n = true := by rfl) : AOps P ro ops ({ dst := some d, op := .alloc t, type := ty, pos := po, after := af, guard := none } :: rest) Q ⟨T, H, D, n⟩ := Z15 (w0 rfl) hd (fun id => Z20 id rfl hn h1) (by rw [hl]; exact h)
theorem zLd {id sz i c el : Nat} {es : List (List AV)} {ee : List AV} (j : Nat) (h : AOps P ro ops rest Q ⟨(d, x) :: T, H, D, n⟩) (hp : ev T p = some (.ptr id sz i c) := by rfl) (hH : H[j]? = some (id, .rows el sz es) := by rfl) (he : es[i]? = some ee := by rfl) (hl : Ld P t (ee.drop c) x := by first | exact Zo | exact Z2t | exact Zfa | exact Zfb | exact Zfc | exact Zfd) (hd : Nat.blt d n = true := by rfl) : AOps P ro ops ({ dst := some d, op := .load t p, type := ty, pos := po, after := af, guard := none } :: rest) Q ⟨T, H, D, n⟩ := Z00 j (w0 rfl) hd rfl hp hH he hl h
theorem Zji {id sz i c el g gt : Nat} {gb : Bool} {og : Oper} {es : List (List AV)} {ee : List AV} (j : Nat) (h : AOps P ro ops rest Q ⟨(d, x) :: T, H, D, n⟩) (g1 : ops[g]? = some og := by rfl) (g2 : og.dst = some gt := by rfl) (g3 : lk T gt = some (.v (.bool gb)) := by rfl) (hp : ev T p = some (.ptr id sz i c) := by rfl) (hH : H[j]? = some (id, .rows el sz es) := by rfl) (he : es[i]? = some ee := by rfl) (hl : Ld P t (ee.drop c) x := by first | exact Zo | exact Z2t | exact Zfa | exact Zfb | exact Zfc | exact Zfd) (hd : Nat.blt d n = true := by rfl) : AOps P ro ops ({ dst := some d, op := .load t p, type := ty, pos := po, after := af, guard := some (g, gb) } :: rest) Q ⟨T, H, D, n⟩ := Z00 j (wY rfl g1 g2 g3) hd rfl hp hH he hl h
theorem zSt {m id sz i c el : Nat} {b : Bool} {es : List (List AV)} {ee : List AV} {H' : AHeap} (j : Nat) [kt : TK P t b m] (h : AOps P ro ops rest Q ⟨T, H', D, n⟩) (hp : ev T p = some (.ptr id sz i c) := by rfl) (hH : H[j]? = some (id, .rows el sz es) := by rfl) (he : es[i]? = some ee := by rfl) (hq : ev T q = some x := by rfl) (hx : (cellsA x).length = m := by rfl) (h1 : (cellsA x).all one = true := by rfl) (hc : Nat.ble (c + m) sz = true := by rfl) (hh : H.set j (id, .rows el sz (es.set i (ee.take c ++ cellsA x ++ ee.drop (c + (cellsA x).length)))) = H' := by rfl) : AOps P ro ops ({ dst := none, op := .store t p q, type := ty, pos := po, after := af, guard := none } :: rest) Q ⟨T, H, D, n⟩ := by subst hh; exact Z19 j (w0 rfl) rfl rfl hp hH he hq hx h1 hc h
theorem Zjh {id sz i c el : Nat} {es : List (List AV)} {ee : List AV} (j : Nat) (h : Calm P ops H0 KK (kk + 1) rest M ⟨(d, x) :: T, H, D, n⟩) (hp : ev T p = some (.ptr id sz i c) := by rfl) (hH : H0[j]? = some (id, .rows el sz es) := by rfl) (he : es[i]? = some ee := by rfl) (hl : Ld P t (ee.drop c) x := by first | exact Zo | exact Z2t | exact Zfa | exact Zfb | exact Zfc | exact Zfd) (hd : Nat.blt d n = true := by rfl) : Calm P ops H0 KK kk ({ dst := some d, op := .load t p, type := ty, pos := po, after := af, guard := none } :: rest) M ⟨T, H, D, n⟩ := Zw j (w0 rfl) hd rfl hp hH he hl h
theorem Zfx {id sz i c el g gt : Nat} {gb : Bool} {og : Oper} {es : List (List AV)} {ee : List AV} (j : Nat) (h : Calm P ops H0 KK (kk + 1) rest M ⟨(d, x) :: T, H, D, n⟩) (g1 : ops[g]? = some og := by rfl) (g2 : og.dst = some gt := by rfl) (g3 : lk T gt = some (.v (.bool gb)) := by rfl) (hp : ev T p = some (.ptr id sz i c) := by rfl) (hH : H0[j]? = some (id, .rows el sz es) := by rfl) (he : es[i]? = some ee := by rfl) (hl : Ld P t (ee.drop c) x := by first | exact Zo | exact Z2t | exact Zfa | exact Zfb | exact Zfc | exact Zfd) (hd : Nat.blt d n = true := by rfl) : Calm P ops H0 KK kk ({ dst := some d, op := .load t p, type := ty, pos := po, after := af, guard := some (g, gb) } :: rest) M ⟨T, H, D, n⟩ := Zw j (wY rfl g1 g2 g3) hd rfl hp hH he hl h
theorem Zlm (h : KK ⟨T, H, D, n⟩) : Calm P ops H0 KK kk [] M ⟨T, H, D, n⟩ := .done h
theorem zcD {g gt : Nat} {gb : Bool} {og : Oper} {op : Op} (h : Calm P ops H0 KK (kk + 1) rest M ⟨(d, .v undef) :: T, H, D, n⟩) (g1 : ops[g]? = some og := by rfl) (g2 : og.dst = some gt := by rfl) (g3 : lk T gt = some (.v (.bool (!gb))) := by rfl) (hd : Nat.blt d n = true := by rfl) : Calm P ops H0 KK kk ({ dst := some d, op := op, type := ty, pos := po, after := af, guard := some (g, gb) } :: rest) M ⟨T, H, D, n⟩ := .off (wZ rfl g1 g2 g3) hd h
theorem Zjz {id : Nat} {l : List Oper} (h : Calm P l.toArray H (AOps P ro l.toArray [] Q) 0 l [] ⟨T, H, D, n⟩) (hm : P.follows .mixedOrders = true := by rfl) (ht : tidyM l.toArray (masksOf l) l.length = true := by kernel_rfl) : AWp P ro (.region id l.toArray true) Q ⟨T, H, D, n⟩ := Z0i (masksOf l) l.length hm (by rw [List.take_length]; exact ht) (by rw [List.take_length, List.drop_length]; exact h)
theorem zN (h : Q .normal ⟨T, H, D, n⟩) : AOps P ro ops [] Q ⟨T, H, D, n⟩ := Z4 h
variable {s : St}
theorem tqR {K : St → Prop} (h : Q .ret s) : thenQ K Q .ret s := h
theorem bqR {i : Nat} (h : Q .ret s) : blockQ i Q .ret s := h
theorem tqN {K : St → Prop} (h : K s) : thenQ K Q .normal s := h
theorem bqN {i : Nat} (h : Q .normal s) : blockQ i Q .normal s := h
theorem tqX {K : St → Prop} {i : Nat} (h : Q (.exit i) s) : thenQ K Q (.exit i) s := h
theorem bqX {i : Nat} (h : Q .normal s) : blockQ i Q (.exit i) s := by simp only [blockQ, if_true]; exact h
theorem qcT {c : Operand} {x y : Code} (h : AWp P ro x Q s) (hc : ev s.T c = some (.v (.bool true)) := by rfl) : AWp P ro (.cond c x y) Q s := Za hc (fun _ => h) nofun
theorem qcF {c : Operand} {x y : Code} (h : AWp P ro y Q s) (hc : ev s.T c = some (.v (.bool false)) := by rfl) : AWp P ro (.cond c x y) Q s := Za hc nofun (fun _ => h)
theorem Zl3 (h : Q .ret s) : AWp P ro .ret Q s := Zs h
theorem st2 {x0 x1 : AV} {c : Code} (h : AWp P ro c Q ⟨[(0, x0), (1, x1)], H, D, n⟩) : AWp P ro c Q ⟨enum [x0, x1] 0, H, D, n⟩ := h
end
theorem wk {A B : Prop} (x : A) (h : Wk A → B := by
 intro h
 repeat (first | refine qS ?_ | refine qR ?_ | refine zN ?_ | refine tqN ?_ | refine tqR ?_ | refine bqN ?_ | refine bqR ?_ | refine tqX ?_ | refine bqX ?_ | refine qB ?_ | refine qK ?_ | refine qcT ?_ | refine qcF ?_ | refine Zl3 ?_ | refine qX ?_ | refine zM ?_ | refine zA ?_ | refine zI ?_ | refine zX ?_ | refine zF ?_ | refine zB1 ?_ | refine zB2 ?_ | refine zB3 ?_ | refine zB4 ?_ | refine zB5 ?_ | refine zB7 ?_ | refine zB9 ?_ | refine Zl5 ?_ | refine zPT ?_ | refine zPF ?_ | refine zK ?_ | refine zJ ?_ | refine zP ?_ | refine zL ?_ | refine zNt ?_ | refine zUt ?_ | refine zUf ?_ | refine zU ?_ | refine zNc ?_ | refine zLn ?_ | refine Zl8 ?_ | refine Zl7 ?_ | refine zEq ?_ | refine zNe ?_ | refine Zl6 ?_ | refine zCv ?_ | refine zSx ?_ | refine zC0 ?_ | refine zC1 ?_ | refine zC2 ?_ | refine zC3 ?_ | refine zC4 ?_ | refine zLd 0 ?_ | refine zLd 1 ?_ | refine zLd 2 ?_ | refine zLd 3 ?_ | refine zSt 0 ?_ | refine zSt 1 ?_ | refine zSt 2 ?_ | refine zSt 3 ?_ | refine zD ?_ | refine zgM ?_ | refine zgA ?_ | refine zgI ?_ | refine zgX ?_ | refine zgF ?_ | refine Zm7 ?_ | refine Zm8 ?_ | refine Zm9 ?_ | refine Zma ?_ | refine Zmb ?_ | refine Zmc ?_ | refine Zmd ?_ | refine Zks ?_ | refine Zmp ?_ | refine Zmo ?_ | refine zgK ?_ | refine zgJ ?_ | refine zgP ?_ | refine zgL ?_ | refine Zmn ?_ | refine Zms ?_ | refine Zmr ?_ | refine zgU ?_ | refine Zml ?_ | refine Zmk ?_ | refine Zkw ?_ | refine Zkv ?_ | refine Zmj ?_ | refine Zmm ?_ | refine Zkt ?_ | refine Zku ?_ | refine Zmq ?_ | refine Zme ?_ | refine Zmf ?_ | refine Zmg ?_ | refine Zmh ?_ | refine Zmi ?_ | refine Zji 0 ?_ | refine Zji 1 ?_ | refine Zji 2 ?_ | refine Zji 3 ?_ | refine Zjz ?_ | refine zcM ?_ | refine zcA ?_ | refine zcI ?_ | refine zcX ?_ | refine zcF ?_ | refine Zl9 ?_ | refine Zla ?_ | refine Zlb ?_ | refine Zlc ?_ | refine Zld ?_ | refine Zle ?_ | refine Zlf ?_ | refine Zk0 ?_ | refine Zlt ?_ | refine Zls ?_ | refine zcK ?_ | refine zcJ ?_ | refine zcP ?_ | refine zcL ?_ | refine Zlr ?_ | refine Zlw ?_ | refine Zlv ?_ | refine zcU ?_ | refine Zlp ?_ | refine Zlo ?_ | refine Zk3 ?_ | refine Zk2 ?_ | refine Zln ?_ | refine Zlq ?_ | refine Zk1 ?_ | refine Zll ?_ | refine Zlu ?_ | refine Zlg ?_ | refine Zlh ?_ | refine Zli ?_ | refine Zlj ?_ | refine Zlk ?_ | refine Zm3 ?_ | refine Zlx ?_ | refine Zlz ?_ | refine Zm6 ?_ | refine Zly ?_ | refine Zk5 ?_ | refine Zk6 ?_ | refine Zk7 ?_ | refine Zk8 ?_ | refine Zk9 ?_ | refine Zka ?_ | refine Zkb ?_ | refine Zjd ?_ | refine Zko ?_ | refine Zkn ?_ | refine Zm1 ?_ | refine Zm0 ?_ | refine Zm4 ?_ | refine Zm2 ?_ | refine Zkm ?_ | refine Zkr ?_ | refine Zkq ?_ | refine Zm5 ?_ | refine Zkk ?_ | refine Zkj ?_ | refine Zjg ?_ | refine Zjf ?_ | refine Zki ?_ | refine Zkl ?_ | refine Zje ?_ | refine Zkh ?_ | refine Zkp ?_ | refine Zkc ?_ | refine Zkd ?_ | refine Zke ?_ | refine Zkf ?_ | refine Zkg ?_ | refine Zjh 0 ?_ | refine Zjh 1 ?_ | refine Zjh 2 ?_ | refine Zjh 3 ?_ | refine Zfx 0 ?_ | refine Zfx 1 ?_ | refine Zfx 2 ?_ | refine Zfx 3 ?_ | refine Zlm ?_ | refine zcD ?_)
 exact h.x) : B := h ⟨x⟩
end Go.Sx
namespace Go.Sx
open Go Go.Proofs
theorem Zel (c : Int) : ACalls Try.prog 54 [uA c] [] (Gives (bA (letW c))) := by
 refine Zj (n := 27) Try.func54 rfl (by decide +kernel) rfl rfl ?_
 refine Z5 ?_
 refine Z2 ?_
 refine Z1 (w0 rfl) rfl (Z3 rfl rfl) ?_
 refine Z4 ?_
 refine Z5 ?_
 refine Zm ?_
 refine Z5 ?_
 refine Zm ?_
 refine Zm ?_
 refine Z5 ?_
 refine Z5 ?_
 refine Z5 ?_
 refine Z5 ?_
 refine Z2 ?_
 refine Z1 (w0 rfl) rfl (Z0 rfl rfl) ?_
 refine Z1 (w0 rfl) rfl (Zb rfl rfl rfl rfl) ?_
 refine Z1 (w0 rfl) rfl (Z3 rfl rfl) ?_
 refine Z4 ?_
 refine Za rfl ?_ ?_
 ·intro hc
  refine Zh ?_
  refine Za rfl ?_ ?_
  ·intro hc
   refine Zy ?_
   refine Z5 ?_
   refine Z5 ?_
   refine Z2 ?_
   refine Z1 (w0 rfl) rfl (Z3 rfl rfl) ?_
   refine Z4 ?_
   refine Zs ?_
   exact Z0y rfl (Zf rfl Ze) (gb (by unfold letW; simp_all))
  ·intro hd; exfalso; simp_all
 ·intro hc
  refine Z2 ?_
  refine Z1 (w0 rfl) rfl (Z0 rfl rfl) ?_
  refine Z1 (w0 rfl) rfl (Zb rfl rfl rfl rfl) ?_
  refine Z1 (w0 rfl) rfl (Z3 rfl rfl) ?_
  refine Z4 ?_
  refine Za rfl ?_ ?_
  ·intro hc
   refine Zy ?_
   refine Z5 ?_
   refine Z5 ?_
   refine Z2 ?_
   refine Z1 (w0 rfl) rfl (Z3 rfl rfl) ?_
   refine Z4 ?_
   refine Zs ?_
   exact Z0y rfl (Zf rfl Ze) (gb (by unfold letW; simp_all))
  ·intro hc
   refine Zh ?_
   refine Z5 ?_
   refine Z5 ?_
   refine Z2 ?_
   refine Z1 (w0 rfl) rfl (Z0 rfl rfl) ?_
   refine Z1 (w0 rfl) rfl (Zb rfl rfl rfl rfl) ?_
   refine Z1 (w0 rfl) rfl (Z0 rfl rfl) ?_
   refine Z0f (wT rfl rfl rfl rfl) rfl (fun hg => (Z0 rfl rfl)) ?_
   refine Z0f (wT rfl rfl rfl rfl) rfl (fun hg => (Zb rfl (Z05 hg rfl) rfl rfl)) ?_
   refine Z1 (w0 rfl) rfl (Z0h rfl rfl rfl (fun h => h)) ?_
   refine Z1 (w0 rfl) rfl (Z3 rfl rfl) ?_
   refine Z4 ?_
   refine Za rfl ?_ ?_
   ·intro hc
    refine Zh ?_
    refine Za rfl ?_ ?_
    ·intro hc
     refine Zy ?_
     refine Z5 ?_
     refine Z5 ?_
     refine Z2 ?_
     refine Z1 (w0 rfl) rfl (Z3 rfl rfl) ?_
     refine Z4 ?_
     refine Zs ?_
     exact Z0y rfl (Zf rfl Ze) (gb (by unfold letW; simp_all))
    ·intro hd; exfalso; simp_all
   ·intro hc
    refine Z5 ?_
    refine Z2 ?_
    refine Z1 (w0 rfl) rfl (Z0 rfl rfl) ?_
    refine Z1 (w0 rfl) rfl (Zb rfl rfl rfl rfl) ?_
    refine Z1 (w0 rfl) rfl (Z0 rfl rfl) ?_
    refine Z0f (wT rfl rfl rfl rfl) rfl (fun hg => (Z0 rfl rfl)) ?_
    refine Z0f (wT rfl rfl rfl rfl) rfl (fun hg => (Zb rfl (Z05 hg rfl) rfl rfl)) ?_
    refine Z1 (w0 rfl) rfl (Z0h rfl rfl rfl (fun h => h)) ?_
    refine Z1 (w0 rfl) rfl (Z3 rfl rfl) ?_
    refine Z4 ?_
    refine Za rfl ?_ ?_
    ·intro hc
     refine Zh ?_
     refine Za rfl ?_ ?_
     ·intro hc
      refine Zy ?_
      refine Z5 ?_
      refine Z5 ?_
      refine Z2 ?_
      refine Z1 (w0 rfl) rfl (Z3 rfl rfl) ?_
      refine Z4 ?_
      refine Zs ?_
      exact Z0y rfl (Zf rfl Ze) (gb (by unfold letW; simp_all))
     ·intro hd; exfalso; simp_all
    ·intro hc
     refine Z2 ?_
     refine Z1 (w0 rfl) rfl (Z0 rfl rfl) ?_
     refine Z1 (w0 rfl) rfl (Zb rfl rfl rfl rfl) ?_
     refine Z1 (w0 rfl) rfl (Z0 rfl rfl) ?_
     refine Z0f (wT rfl rfl rfl rfl) rfl (fun hg => (Z0 rfl rfl)) ?_
     refine Z0f (wT rfl rfl rfl rfl) rfl (fun hg => (Zb rfl (Z05 hg rfl) rfl rfl)) ?_
     refine Z1 (w0 rfl) rfl (Z0h rfl rfl rfl (fun h => h)) ?_
     refine Z1 (w0 rfl) rfl (Z3 rfl rfl) ?_
     refine Z4 ?_
     refine Za rfl ?_ ?_
     ·intro hc
      refine Zy ?_
      refine Z5 ?_
      refine Z5 ?_
      refine Z2 ?_
      refine Z1 (w0 rfl) rfl (Z3 rfl rfl) ?_
      refine Z4 ?_
      refine Zs ?_
      exact Z0y rfl (Zf rfl Ze) (gb (by unfold letW; simp_all))
     ·intro hc
      refine Zh ?_
      refine Zy ?_
      refine Z5 ?_
      refine Z2 ?_
      refine Z1 (w0 rfl) rfl (Z3 rfl rfl) ?_
      refine Z4 ?_
      refine Zs ?_
      exact Z0y rfl (Zf rfl Ze) (gb (by unfold letW; simp_all))
theorem Z9e (c : Int) : ACalls Try.prog 53 [uA c] [] (Gives (bA (letW c || (c == 47)))) := by
 refine Zj (n := 9) Try.func53 rfl (by decide +kernel) rfl rfl ?_
 refine Z5 ?_
 refine Z2 ?_
 refine Z1 (w0 rfl) rfl (Z3 rfl rfl) ?_
 refine Z4 ?_
 refine Z5 ?_
 refine Z2 ?_
 refine Z1 (w0 rfl) rfl (Z0 rfl rfl) ?_
 refine Z1 (w0 rfl) rfl (Zp [] rfl rfl rfl (Zel c) List.nodup_nil) ?_
 refine Z1 (w0 rfl) rfl (Z0 rfl rfl) ?_
 refine Z0f (wF rfl rfl rfl rfl) rfl (fun hg => (Z0 rfl rfl)) ?_
 refine Z0f (wF rfl rfl rfl rfl) rfl (fun hg => (Zb rfl (Z05 hg rfl) rfl rfl)) ?_
 refine Z1 (w0 rfl) rfl (Zak rfl rfl rfl (fun h => by rw [h]; rfl)) ?_
 refine Z1 (w0 rfl) rfl (Z3 rfl rfl) ?_
 refine Z4 ?_
 refine Zs ?_
 exact Z0y rfl (Zf rfl Ze) (gb rfl)
theorem Zjo (s : Str) (hs : small s.size) : ACalls Try.prog 52 [sA s, .fn (.func 53) []] [] (Gives (bA (clsW s))) := by
 simp only [small] at hs
 refine Zj (n := 25) Try.func52 rfl (by decide +kernel) rfl rfl ?_
 refine Z5 ?_
 refine Z2 ?_
 refine Z1 (w0 rfl) rfl (Z3 rfl rfl) ?_
 refine Z4 ?_
 refine Z5 ?_
 refine Z5 ?_
 refine Z2 ?_
 refine Z1 (w0 rfl) rfl (Z0 rfl rfl) ?_
 refine Z1 (w0 rfl) rfl (Z10 rfl rfl rfl rfl) ?_
 refine Z1 (w0 rfl) rfl (Z0 rfl rfl) ?_
 refine Z4 ?_
 refine Zm ?_
 refine Z06 (α := Nat) (fun i => ⟨[(8, iA i), (7, iA s.size), (0, sA s), (1, .fn (.func 53) [])], [], [], 25⟩) (fun i => i ≤ s.size ∧ ∀ k, k < i → (letW (byteAt s (k : Nat)) || (byteAt s (k : Nat) == 47)) = true) (fun i => s.size - i) 0 ⟨Nat.zero_le _, fun k h => by omega⟩ ?_ ?_
 ·exact Zc [] ⟨rfl, rfl, rfl, rfl, trivial⟩ rfl (by decide) rfl rfl
 rintro i hJ
 refine Z5 ?_
 refine Z2 ?_
 refine Z1 (w0 rfl) rfl (Zb rfl rfl rfl rfl) ?_
 refine Z4 ?_
 refine Z5 ?_
 refine Za rfl ?_ ?_
 ·intro hc
  have hi : i < s.size := by simpa using hc
  refine Zh ?_
  refine Z5 ?_
  refine Zm ?_
  refine Z5 ?_
  refine Z2 ?_
  refine Z1 (w0 rfl) rfl (Z0 rfl rfl) ?_
  refine Z1 (w0 rfl) rfl (Z3 rfl rfl) ?_
  refine Z4 ?_
  refine Z5 ?_
  refine Z2 ?_
  refine Z1 (w0 rfl) rfl (Z0 rfl rfl) ?_
  refine Z1 (w0 rfl) rfl (Z0 rfl rfl) ?_
  refine Z1 (w0 rfl) rfl (Z0 rfl rfl) ?_
  refine Z1 (w0 rfl) rfl (Z12 rfl rfl rfl (by first | omega | (simp only [List.length_map]; omega) | (simp only [List.length_map, List.length_drop]; omega)) (by first | omega | (simp only [List.length_map]; omega) | (simp only [List.length_map, List.length_drop]; omega))) ?_
  refine Z1 (w0 rfl) rfl (Zp [] rfl rfl rfl (Z9e _) List.nodup_nil) ?_
  refine Z1 (w0 rfl) rfl (Z0j rfl rfl) ?_
  refine Z4 ?_
  refine Za rfl ?_ ?_
  ·intro hc
   have hq : (letW (byteAt s (i : Nat)) || (byteAt s (i : Nat) == 47)) = false := Z6j hc
   refine Z5 ?_
   refine Z2 ?_
   refine Z1 (w0 rfl) rfl (Z3 rfl rfl) ?_
   refine Z4 ?_
   refine Zs ?_
   exact Z0y rfl (Zf rfl Ze) (gb (by unfold clsW; rw [Zi2 hi hq]; rfl))
  ·intro hc
   have hq : (letW (byteAt s (i : Nat)) || (byteAt s (i : Nat) == 47)) = true := Z8w hc
   refine Zh ?_
   refine Z2 ?_
   refine Z1 (w0 rfl) rfl (Z7 rfl rfl rfl (Zd (by first | omega | (simp only [List.length_map]; omega)))) ?_
   refine Z1 (w0 rfl) rfl (Z0 rfl rfl) ?_
   refine Z4 ?_
   refine ⟨i + 1, ⟨hi, fun k h => by rcases Nat.lt_succ_iff_lt_or_eq.1 h with h | h; exact hJ.2 k h; rw [h]; exact hq⟩, (by omega), ?_⟩
   exact Zc [] ⟨rfl, rfl, rfl, rfl, trivial⟩ rfl (by decide) rfl rfl
 ·intro hc
  have hi : ¬ i < s.size := by simpa using hc
  refine Zy ?_
  refine Z5 ?_
  refine Z2 ?_
  refine Z1 (w0 rfl) rfl (Z0 rfl rfl) ?_
  refine Z1 (w0 rfl) rfl (Z0n rfl rfl rfl rfl) ?_
  refine Z1 (w0 rfl) rfl (Z0 rfl rfl) ?_
  refine Z0f (wT rfl rfl rfl rfl) rfl (fun hg => (Z0 rfl rfl)) ?_
  refine Z0f (wT rfl rfl rfl rfl) rfl (fun hg => (Z10 rfl (Z05 hg rfl) rfl rfl)) ?_
  refine Z0f (wT rfl rfl rfl rfl) rfl (fun hg => (Zb rfl (Z05 hg rfl) rfl rfl)) ?_
  refine Z1 (w0 rfl) rfl (Z0h rfl rfl rfl (fun h => h)) ?_
  refine Z1 (w0 rfl) rfl (Z3 rfl rfl) ?_
  refine Z4 ?_
  refine Zs ?_
  exact Z0y rfl (Zf rfl Ze) (gb (by unfold clsW; rw [Zgp fun k hk => hJ.2 k (by omega), Bool.true_and, show decide ((s.size : Int) ≤ 32) = decide (s.size ≤ 32) by simp only [decide_eq_decide]; omega]; rfl))
theorem Zcg (s : Str) (hs : small s.size) : ACalls Try.prog 28 [sA s] [] (Gives (bA (clsW s))) := by
 refine Zj (n := 5) Try.func28 rfl (by decide +kernel) rfl rfl ?_
 refine Z5 ?_
 refine Z2 ?_
 refine Z1 (w0 rfl) rfl (Z3 rfl rfl) ?_
 refine Z4 ?_
 refine Z5 ?_
 refine Z2 ?_
 refine Z1 (w0 rfl) rfl (Z0 rfl rfl) ?_
 refine Z1 (w0 rfl) rfl (Zp [] rfl rfl rfl (Zjo s hs) List.nodup_nil) ?_
 refine Z1 (w0 rfl) rfl (Z3 rfl rfl) ?_
 refine Z4 ?_
 refine Zs ?_
 exact Z0y rfl (Zf rfl Ze) (gb rfl)
theorem Z4y (t : Ty) (hs : small t.cls.size) : ACalls Try.prog 7 [t.av] [] (Gives (bA (rightT t))) := by
 refine Zj (n := 26) Try.func7 rfl (by decide +kernel) rfl rfl ?_
 refine Z5 ?_
 refine Z2 ?_
 refine Z15 (w0 rfl) rfl (fun id => Z4g id rfl rfl rfl rfl rfl) (fun id1 => ?_)
 refine Z1 (w0 rfl) rfl (Z3 rfl rfl) ?_
 refine Z4 ?_
 refine Z5 ?_
 refine Z5 ?_
 refine Z2 ?_
 refine Z1 (w0 rfl) rfl (Z09 rfl rfl rfl) ?_
 refine Z00 0 (w0 rfl) rfl rfl rfl rfl rfl Zo ?_
 refine Z4 ?_
 refine Zm ?_
 refine Z5 ?_
 refine Z5 ?_
 refine Z2 ?_
 refine Z1 (w0 rfl) rfl (Zb rfl rfl rfl rfl) ?_
 refine Z1 (w0 rfl) rfl (Z3 rfl rfl) ?_
 refine Z4 ?_
 refine Za rfl ?_ ?_
 ·intro hc
  refine Zh ?_
  refine Za rfl ?_ ?_
  ·intro hc
   refine Z5 ?_
   refine Z2 ?_
   refine Z1 (w0 rfl) rfl (Z09 rfl rfl rfl) ?_
   refine Z00 0 (w0 rfl) rfl rfl rfl rfl rfl Zo ?_
   refine Z1 (w0 rfl) rfl (Zp [] rfl rfl rfl (Zcg t.cls hs) List.nodup_nil) ?_
   refine Z1 (w0 rfl) rfl (Z3 rfl rfl) ?_
   refine Z4 ?_
   refine Zs ?_
   exact Z0y rfl (Zf rfl Ze) (gb (by unfold rightT; rw [if_pos (by simp_all)]))
  ·intro hd; exfalso; simp_all
 ·intro hc
  refine Z2 ?_
  refine Z1 (w0 rfl) rfl (Zb rfl rfl rfl rfl) ?_
  refine Z1 (w0 rfl) rfl (Z3 rfl rfl) ?_
  refine Z4 ?_
  refine Za rfl ?_ ?_
  ·intro hc
   refine Z5 ?_
   refine Z2 ?_
   refine Z1 (w0 rfl) rfl (Z09 rfl rfl rfl) ?_
   refine Z00 0 (w0 rfl) rfl rfl rfl rfl rfl Zo ?_
   refine Z1 (w0 rfl) rfl (Zp [] rfl rfl rfl (Zcg t.cls hs) List.nodup_nil) ?_
   refine Z1 (w0 rfl) rfl (Z3 rfl rfl) ?_
   refine Z4 ?_
   refine Zs ?_
   exact Z0y rfl (Zf rfl Ze) (gb (by unfold rightT; rw [if_pos (by simp_all)]))
  ·intro hc
   refine Zh ?_
   refine Z5 ?_
   refine Z2 ?_
   refine Z00 0 (w0 rfl) rfl rfl rfl rfl rfl (Z5u (Nat.le_of_ble_eq_true rfl)) ?_
   refine Z1 (w0 rfl) rfl (Z09 rfl rfl rfl) ?_
   refine Z00 0 (w0 rfl) rfl rfl rfl rfl rfl Zo ?_
   refine Z1 (w0 rfl) rfl (Z01 rfl rfl rfl) ?_
   refine Z1 (w0 rfl) rfl (Z1m rfl rfl rfl rfl rfl) ?_
   refine Z1 (w0 rfl) rfl (Z0 rfl rfl) ?_
   refine Z0f (wT rfl rfl rfl rfl) rfl (fun hg => (Z09 rfl rfl rfl)) ?_
   refine Z6p 0 (wT rfl rfl rfl rfl) rfl rfl (fun hg => (Z05 hg rfl)) rfl rfl Zo ?_
   refine Z0f (wT rfl rfl rfl rfl) rfl (fun hg => (Zb rfl (Z05 hg rfl) rfl rfl)) ?_
   refine Z1 (w0 rfl) rfl (Z0h rfl rfl rfl (fun h => h)) ?_
   refine Z1 (w0 rfl) rfl (Z0 rfl rfl) ?_
   refine Z0f (wT rfl rfl rfl rfl) rfl (fun hg => (Z09 rfl rfl rfl)) ?_
   refine Z6p 0 (wT rfl rfl rfl rfl) rfl rfl (fun hg => (Z05 hg rfl)) rfl rfl Zo ?_
   refine Z0f (wT rfl rfl rfl rfl) rfl (fun hg => (Zb rfl (Z05 hg rfl) rfl rfl)) ?_
   refine Z1 (w0 rfl) rfl (Z0h rfl rfl rfl (fun h => h)) ?_
   refine Z1 (w0 rfl) rfl (Z3 rfl rfl) ?_
   refine Z4 ?_
   refine Zs ?_
   exact Z0y rfl (Zf rfl Ze) (gb (by unfold rightT; rw [if_neg (by simp_all)]; show ((((t.kind == t.kind) && beqS t.cls zS) && decide (t.kind ≥ 1)) && decide (t.kind ≤ 5)) = _; rw [beq_self_eq_true, Bool.true_and]))
theorem Zgw (t : Ty) : ACalls Try.prog 29 [t.av] [] (Gives (elemT t).av) := by
 refine Zj (n := 14) Try.func29 rfl (by decide +kernel) rfl rfl ?_
 refine Z5 ?_
 refine Z2 ?_
 refine Z15 (w0 rfl) rfl (fun id => Z4g id rfl rfl rfl rfl rfl) (fun id1 => ?_)
 refine Z15 (w0 rfl) rfl (fun id => Z20 id rfl rfl rfl) (fun id2 => ?_)
 refine Z4 ?_
 refine Z5 ?_
 refine Z5 ?_
 refine Z2 ?_
 refine Z1 (w0 rfl) rfl (Z09 rfl rfl rfl) ?_
 refine Z00 1 (w0 rfl) rfl rfl rfl rfl rfl Zo ?_
 refine Z4 ?_
 refine Zm ?_
 refine Z5 ?_
 refine Z2 ?_
 refine Z1 (w0 rfl) rfl (Zb rfl rfl rfl rfl) ?_
 refine Z1 (w0 rfl) rfl (Z3 rfl rfl) ?_
 refine Z4 ?_
 refine Za rfl ?_ ?_
 ·intro hc
  have q4 : t.kind = 4 := by simpa using hc
  refine Z5 ?_
  refine Z2 ?_
  refine Z1 (w0 rfl) rfl (Z01 rfl rfl rfl) ?_
  refine Z19 0 (w0 rfl) rfl rfl rfl rfl rfl rfl rfl rfl rfl ?_
  refine Z4 ?_
  refine Zs ?_
  exact Z0y rfl (Z1b 0 rfl rfl rfl (Z5u (Nat.le_of_ble_eq_true rfl)) Ze) (gvr (by unfold elemT; rw [if_pos q4]; rfl))
 ·intro hc
  have q4 : ¬ t.kind = 4 := by simpa using hc
  refine Z5 ?_
  refine Z2 ?_
  refine Z1 (w0 rfl) rfl (Zb rfl rfl rfl rfl) ?_
  refine Z1 (w0 rfl) rfl (Z3 rfl rfl) ?_
  refine Z4 ?_
  refine Za rfl ?_ ?_
  ·intro hc
   have q5 : t.kind = 5 := by simpa using hc
   refine Z5 ?_
   refine Z2 ?_
   refine Z1 (w0 rfl) rfl (Z09 rfl rfl rfl) ?_
   refine Z00 1 (w0 rfl) rfl rfl rfl rfl rfl Zo ?_
   refine Z1 (w0 rfl) rfl (Z01 rfl rfl rfl) ?_
   refine Z19 0 (w0 rfl) rfl rfl rfl rfl rfl rfl rfl rfl rfl ?_
   refine Z4 ?_
   refine Zs ?_
   exact Z0y rfl (Z1b 0 rfl rfl rfl (Z5u (Nat.le_of_ble_eq_true rfl)) Ze) (gvr (by unfold elemT; rw [if_neg q4, if_pos q5]; rfl))
  ·intro hc
   have q5 : ¬ t.kind = 5 := by simpa using hc
   refine Zh ?_
   refine Z5 ?_
   refine Z2 ?_
   refine Z1 (w0 rfl) rfl (Z01 rfl rfl rfl) ?_
   refine Z19 0 (w0 rfl) rfl rfl rfl rfl rfl rfl rfl rfl rfl ?_
   refine Z4 ?_
   refine Zs ?_
   exact Z0y rfl (Z1b 0 rfl rfl rfl (Z5u (Nat.le_of_ble_eq_true rfl)) Ze) (gvr (by unfold elemT; rw [if_neg q4, if_neg q5]; rfl))
theorem Zh6 (t : Ty) (hs : small t.cls.size) (h45 : ¬ (t.kind = 4 ∨ t.kind = 5)) : ACalls Try.prog 8 [t.av] [] (Gives (sA (textT t))) := by
 have hx1 := Zbc (elemT t)
 have hx2 := Z9n t
 refine Zj (n := 22) Try.func8 rfl (by decide +kernel) rfl rfl ?_
 refine Z5 ?_
 refine Z2 ?_
 refine Z15 (w0 rfl) rfl (fun id => Z4g id rfl rfl rfl rfl rfl) (fun id1 => ?_)
 refine Z1 (w0 rfl) rfl (Z3 rfl rfl) ?_
 refine Z4 ?_
 refine Z5 ?_
 refine Z5 ?_
 refine Z2 ?_
 refine Z00 0 (w0 rfl) rfl rfl rfl rfl rfl (Z5u (Nat.le_of_ble_eq_true rfl)) ?_
 refine Z1 (w0 rfl) rfl (Zp [] rfl rfl rfl (Z4y t hs) List.nodup_nil) ?_
 refine Z1 (w0 rfl) rfl (Z0j rfl rfl) ?_
 refine Z4 ?_
 refine Za rfl ?_ ?_
 ·intro hc
  have hr : rightT t = false := Z6j hc
  refine Z5 ?_
  refine Z2 ?_
  refine Z1 (w0 rfl) rfl (Z3 rfl rfl) ?_
  refine Z4 ?_
  refine Zs ?_
  exact Z0y rfl (Zf rfl Ze) (gs (by unfold textT; rw [hr]; rfl))
 ·intro hc
  have hr : rightT t = true := Z8w hc
  refine Zh ?_
  refine Z5 ?_
  refine Z5 ?_
  refine Z2 ?_
  refine Z1 (w0 rfl) rfl (Z09 rfl rfl rfl) ?_
  refine Z00 0 (w0 rfl) rfl rfl rfl rfl rfl Zo ?_
  refine Z4 ?_
  refine Zm ?_
  refine Z5 ?_
  refine Z2 ?_
  refine Z1 (w0 rfl) rfl (Zb rfl rfl rfl rfl) ?_
  refine Z1 (w0 rfl) rfl (Z3 rfl rfl) ?_
  refine Z4 ?_
  refine Za rfl ?_ ?_
  ·intro hc
   have q1 : t.kind = 1 := by simpa using hc
   refine Z5 ?_
   refine Z2 ?_
   refine Z1 (w0 rfl) rfl (Z3 rfl rfl) ?_
   refine Z4 ?_
   refine Zs ?_
   exact Z0y rfl (Zf rfl Ze) (gs (by unfold textT text0; rw [if_pos hr, if_neg (by omega), if_pos q1]))
  ·intro hc
   have q1 : ¬ t.kind = 1 := by simpa using hc
   refine Z5 ?_
   refine Z2 ?_
   refine Z1 (w0 rfl) rfl (Zb rfl rfl rfl rfl) ?_
   refine Z1 (w0 rfl) rfl (Z3 rfl rfl) ?_
   refine Z4 ?_
   refine Za rfl ?_ ?_
   ·intro hc
    have q2 : t.kind = 2 := by simpa using hc
    refine Z5 ?_
    refine Z2 ?_
    refine Z1 (w0 rfl) rfl (Z3 rfl rfl) ?_
    refine Z4 ?_
    refine Zs ?_
    exact Z0y rfl (Zf rfl Ze) (gs (by unfold textT text0; rw [if_pos hr, if_neg (by omega), if_neg q1, if_pos q2]))
   ·intro hc
    have q2 : ¬ t.kind = 2 := by simpa using hc
    refine Z5 ?_
    refine Z2 ?_
    refine Z1 (w0 rfl) rfl (Zb rfl rfl rfl rfl) ?_
    refine Z1 (w0 rfl) rfl (Z3 rfl rfl) ?_
    refine Z4 ?_
    refine Za rfl ?_ ?_
    ·intro hc
     have q3 : t.kind = 3 := by simpa using hc
     refine Z5 ?_
     refine Z2 ?_
     refine Z1 (w0 rfl) rfl (Z09 rfl rfl rfl) ?_
     refine Z00 0 (w0 rfl) rfl rfl rfl rfl rfl Zo ?_
     refine Z1 (w0 rfl) rfl (Z0x rfl rfl rfl (by have k0 : ByteArray.size ⟨#[]⟩ = 0 := rfl; have k1 : ByteArray.size ⟨#[59]⟩ = 1 := rfl; have k2 : ByteArray.size ⟨#[73]⟩ = 1 := rfl; have k3 : ByteArray.size ⟨#[76]⟩ = 1 := rfl; have k4 : ByteArray.size ⟨#[86]⟩ = 1 := rfl; have k5 : ByteArray.size ⟨#[91]⟩ = 1 := rfl; (try simp only [ByteArray.size_append, small] at *) <;> omega)) ?_
     refine Z1 (w0 rfl) rfl (Z0x rfl rfl rfl (by have k0 : ByteArray.size ⟨#[]⟩ = 0 := rfl; have k1 : ByteArray.size ⟨#[59]⟩ = 1 := rfl; have k2 : ByteArray.size ⟨#[73]⟩ = 1 := rfl; have k3 : ByteArray.size ⟨#[76]⟩ = 1 := rfl; have k4 : ByteArray.size ⟨#[86]⟩ = 1 := rfl; have k5 : ByteArray.size ⟨#[91]⟩ = 1 := rfl; (try simp only [ByteArray.size_append, small] at *) <;> omega)) ?_
     refine Z1 (w0 rfl) rfl (Z3 rfl rfl) ?_
     refine Z4 ?_
     refine Zs ?_
     exact Z0y rfl (Zf rfl Ze) (gs (by unfold textT text0; rw [if_pos hr, if_neg (by omega), if_neg q1, if_neg q2]))
    ·intro hc
     exfalso
     have q3 : ¬ t.kind = 3 := by simpa using hc
     exact h45 (Za4 hr q1 q2 q3)
theorem Zcp (t : Ty) (hs : small t.cls.size) : ACalls Try.prog 8 [t.av] [] (Gives (sA (textT t))) := by
 have hx1 := Zbc (elemT t)
 have hx2 := Z9n t
 refine Zj (n := 22) Try.func8 rfl (by decide +kernel) rfl rfl ?_
 refine Z5 ?_
 refine Z2 ?_
 refine Z15 (w0 rfl) rfl (fun id => Z4g id rfl rfl rfl rfl rfl) (fun id1 => ?_)
 refine Z1 (w0 rfl) rfl (Z3 rfl rfl) ?_
 refine Z4 ?_
 refine Z5 ?_
 refine Z5 ?_
 refine Z2 ?_
 refine Z00 0 (w0 rfl) rfl rfl rfl rfl rfl (Z5u (Nat.le_of_ble_eq_true rfl)) ?_
 refine Z1 (w0 rfl) rfl (Zp [] rfl rfl rfl (Z4y t hs) List.nodup_nil) ?_
 refine Z1 (w0 rfl) rfl (Z0j rfl rfl) ?_
 refine Z4 ?_
 refine Za rfl ?_ ?_
 ·intro hc
  have hr : rightT t = false := Z6j hc
  refine Z5 ?_
  refine Z2 ?_
  refine Z1 (w0 rfl) rfl (Z3 rfl rfl) ?_
  refine Z4 ?_
  refine Zs ?_
  exact Z0y rfl (Zf rfl Ze) (gs (by unfold textT; rw [hr]; rfl))
 ·intro hc
  have hr : rightT t = true := Z8w hc
  refine Zh ?_
  refine Z5 ?_
  refine Z5 ?_
  refine Z2 ?_
  refine Z1 (w0 rfl) rfl (Z09 rfl rfl rfl) ?_
  refine Z00 0 (w0 rfl) rfl rfl rfl rfl rfl Zo ?_
  refine Z4 ?_
  refine Zm ?_
  refine Z5 ?_
  refine Z2 ?_
  refine Z1 (w0 rfl) rfl (Zb rfl rfl rfl rfl) ?_
  refine Z1 (w0 rfl) rfl (Z3 rfl rfl) ?_
  refine Z4 ?_
  refine Za rfl ?_ ?_
  ·intro hc
   have q1 : t.kind = 1 := by simpa using hc
   refine Z5 ?_
   refine Z2 ?_
   refine Z1 (w0 rfl) rfl (Z3 rfl rfl) ?_
   refine Z4 ?_
   refine Zs ?_
   exact Z0y rfl (Zf rfl Ze) (gs (by unfold textT text0; rw [if_pos hr, if_neg (by omega), if_pos q1]))
  ·intro hc
   have q1 : ¬ t.kind = 1 := by simpa using hc
   refine Z5 ?_
   refine Z2 ?_
   refine Z1 (w0 rfl) rfl (Zb rfl rfl rfl rfl) ?_
   refine Z1 (w0 rfl) rfl (Z3 rfl rfl) ?_
   refine Z4 ?_
   refine Za rfl ?_ ?_
   ·intro hc
    have q2 : t.kind = 2 := by simpa using hc
    refine Z5 ?_
    refine Z2 ?_
    refine Z1 (w0 rfl) rfl (Z3 rfl rfl) ?_
    refine Z4 ?_
    refine Zs ?_
    exact Z0y rfl (Zf rfl Ze) (gs (by unfold textT text0; rw [if_pos hr, if_neg (by omega), if_neg q1, if_pos q2]))
   ·intro hc
    have q2 : ¬ t.kind = 2 := by simpa using hc
    refine Z5 ?_
    refine Z2 ?_
    refine Z1 (w0 rfl) rfl (Zb rfl rfl rfl rfl) ?_
    refine Z1 (w0 rfl) rfl (Z3 rfl rfl) ?_
    refine Z4 ?_
    refine Za rfl ?_ ?_
    ·intro hc
     have q3 : t.kind = 3 := by simpa using hc
     refine Z5 ?_
     refine Z2 ?_
     refine Z1 (w0 rfl) rfl (Z09 rfl rfl rfl) ?_
     refine Z00 0 (w0 rfl) rfl rfl rfl rfl rfl Zo ?_
     refine Z1 (w0 rfl) rfl (Z0x rfl rfl rfl (by have k0 : ByteArray.size ⟨#[]⟩ = 0 := rfl; have k1 : ByteArray.size ⟨#[59]⟩ = 1 := rfl; have k2 : ByteArray.size ⟨#[73]⟩ = 1 := rfl; have k3 : ByteArray.size ⟨#[76]⟩ = 1 := rfl; have k4 : ByteArray.size ⟨#[86]⟩ = 1 := rfl; have k5 : ByteArray.size ⟨#[91]⟩ = 1 := rfl; (try simp only [ByteArray.size_append, small] at *) <;> omega)) ?_
     refine Z1 (w0 rfl) rfl (Z0x rfl rfl rfl (by have k0 : ByteArray.size ⟨#[]⟩ = 0 := rfl; have k1 : ByteArray.size ⟨#[59]⟩ = 1 := rfl; have k2 : ByteArray.size ⟨#[73]⟩ = 1 := rfl; have k3 : ByteArray.size ⟨#[76]⟩ = 1 := rfl; have k4 : ByteArray.size ⟨#[86]⟩ = 1 := rfl; have k5 : ByteArray.size ⟨#[91]⟩ = 1 := rfl; (try simp only [ByteArray.size_append, small] at *) <;> omega)) ?_
     refine Z1 (w0 rfl) rfl (Z3 rfl rfl) ?_
     refine Z4 ?_
     refine Zs ?_
     exact Z0y rfl (Zf rfl Ze) (gs (by unfold textT text0; rw [if_pos hr, if_neg (by omega), if_neg q1, if_neg q2]))
    ·intro hc
     have q3 : ¬ t.kind = 3 := by simpa using hc
     refine Zh ?_
     refine Z5 ?_
     refine Z2 ?_
     refine Z00 0 (w0 rfl) rfl rfl rfl rfl rfl (Z5u (Nat.le_of_ble_eq_true rfl)) ?_
     refine Z1 (w0 rfl) rfl (Zp [] rfl rfl rfl (Zgw t) List.nodup_nil) ?_
     refine Z1 (w0 rfl) rfl (Zp [] rfl rfl rfl (Zh6 (elemT t) (Zhi hs) (Zgc (Za4 hr q1 q2 q3))) List.nodup_nil) ?_
     refine Z1 (w0 rfl) rfl (Z0x rfl rfl rfl (by have k0 : ByteArray.size ⟨#[]⟩ = 0 := rfl; have k1 : ByteArray.size ⟨#[59]⟩ = 1 := rfl; have k2 : ByteArray.size ⟨#[73]⟩ = 1 := rfl; have k3 : ByteArray.size ⟨#[76]⟩ = 1 := rfl; have k4 : ByteArray.size ⟨#[86]⟩ = 1 := rfl; have k5 : ByteArray.size ⟨#[91]⟩ = 1 := rfl; (try simp only [ByteArray.size_append, small] at *) <;> omega)) ?_
     refine Z1 (w0 rfl) rfl (Z3 rfl rfl) ?_
     refine Z4 ?_
     refine Zs ?_
     exact Z0y rfl (Zf rfl Ze) (gs (by have h45 := Za4 hr q1 q2 q3; unfold textT; rw [if_pos hr, if_pos h45, if_pos (Zc2 hr h45), if_neg (Zgc h45)]))
end Go.Sx
