/- YtidniaofdcmpfaaGreatRaB5: texts of this claim, one behind the other. -/
import Derived.Test.YtidniaofdcmpfaaGreatRaB4
set_option linter.unusedVariables false
set_option linter.unusedSimpArgs false
set_option linter.unusedSectionVars false
set_option linter.unnecessarySimpa false
namespace Go.Sx
open Go
def letW (c : Int) : Bool := ((c == 95) || (c == 36)) || ((decide (c ≥ 65) && decide (c ≤ 90)) || ((decide (c ≥ 97) && decide (c ≤ 122)) || (decide (c ≥ 48) && decide (c ≤ 57))))
def allW (s : Str) (m : Int) : Bool := ((List.range s.size).all fun i => letW (byteAt s (i : Nat)) || (byteAt s (i : Nat) == m)) && (!beqS s zS && decide (s.size ≤ 32))
def clsW (s : Str) : Bool := ((List.range s.size).all fun i => letW (byteAt s (i : Nat)) || (byteAt s (i : Nat) == 47)) && (!beqS s zS && decide (s.size ≤ 32))
def nameW (s : Str) : Bool := beqS s nInit' || allW s 95
theorem Z9x {n i : Nat} {f : Nat → Bool} (hi : i < n) (h : f i = false) : (List.range n).all f = false := List.all_eq_false.2 ⟨i, List.mem_range.2 hi, by rw [h]; simp⟩
theorem Z7k {n : Nat} {f : Nat → Bool} (h : ∀ k, k < n → f k = true) : (List.range n).all f = true := List.all_eq_true.2 fun x hx => h x (List.mem_range.1 hx)
def rightT (t : Ty) : Bool := if t.kind = 3 ∨ t.kind = 5 then clsW t.cls else (beqS t.cls zS && decide (t.kind ≥ 1)) && decide (t.kind ≤ 5)
def elemT (t : Ty) : Ty := if t.kind = 4 then ⟨2, zS⟩ else if t.kind = 5 then ⟨3, t.cls⟩ else ⟨0, zS⟩
def text0 (t : Ty) : Str := if t.kind = 1 then ⟨#[86]⟩ else if t.kind = 2 then ⟨#[73]⟩ else ((⟨#[76]⟩ : Str) ++ t.cls) ++ (⟨#[59]⟩ : Str)
def textT (t : Ty) : Str := if rightT t then (if t.kind = 4 ∨ t.kind = 5 then (⟨#[91]⟩ : Str) ++ text0 (elemT t) else text0 t) else zS
theorem Z8c {t : Ty} (h : rightT t = true) (h1 : ¬ t.kind = 1) (h2 : ¬ t.kind = 2) (h3 : ¬ t.kind = 3) : t.kind = 4 ∨ t.kind = 5 := by
 unfold rightT at h
 by_cases h5 : t.kind = 5
 ·exact .inr h5
 ·rw [if_neg (by omega)] at h
  simp only [Bool.and_eq_true, decide_eq_true_eq] at h
  omega
theorem Z9o {t : Ty} (h : rightT t = true) (h1 : t.kind = 4 ∨ t.kind = 5) : rightT (elemT t) = true := by
 unfold elemT
 rcases h1 with h1 | h1
 ·rw [if_pos h1]; decide +kernel
 ·rw [if_neg (by omega), if_pos h1]
  unfold rightT at h ⊢
  rw [if_pos (.inr h1)] at h
  rw [if_pos (.inl rfl)]; exact h
theorem Zdb {t : Ty} (h1 : t.kind = 4 ∨ t.kind = 5) : ¬ ((elemT t).kind = 4 ∨ (elemT t).kind = 5) := by
 unfold elemT
 rcases h1 with h1 | h1
 ·rw [if_pos h1]; simp
 ·rw [if_neg (by omega), if_pos h1]; simp
theorem Zea {t : Ty} (h : small t.cls.size) : small (elemT t).cls.size := by
 unfold elemT
 split
 ·unfold small; decide
 ·split
  ·exact h
  ·unfold small; decide
theorem Z83 (t : Ty) : (elemT t).cls.size ≤ t.cls.size := by
 unfold elemT
 split
 ·exact Nat.zero_le _
 ·split
  ·exact Nat.le_refl _
  ·exact Nat.zero_le _
theorem Z94 (t : Ty) : (text0 t).size ≤ t.cls.size + 2 := by
 have h1 : ByteArray.size ⟨#[76]⟩ = 1 := rfl
 have h2 : ByteArray.size ⟨#[59]⟩ = 1 := rfl
 have h3 : ByteArray.size ⟨#[86]⟩ = 1 := rfl
 have h4 : ByteArray.size ⟨#[73]⟩ = 1 := rfl
 unfold text0
 split
 ·omega
 ·split
  ·omega
  ·rw [ByteArray.size_append, ByteArray.size_append]; omega
theorem Z6n (t : Ty) : (textT t).size ≤ t.cls.size + 3 := by
 have h1 : ByteArray.size ⟨#[91]⟩ = 1 := rfl
 have h2 := Z94 t
 have h3 := Z94 (elemT t)
 have h4 := Z83 t
 unfold textT
 split
 ·split
  ·rw [ByteArray.size_append]; omega
  ·omega
 ·exact Nat.zero_le _
def zTy : Ty := ⟨0, zS⟩
def semF (s : Str) : Nat → Nat → Nat
 | 0, t => t
 | n + 1, t => if byteAt s (t : Nat) = 59 then t else semF s n (t + 1)
def semi (s : Str) (t : Nat) : Nat := semF s (s.size - t) t
def arrA (s : Str) (k : Nat) : Bool := decide ((k : Int) < (s.size : Int)) && (byteAt s (k : Nat) == 91)
def nxA (s : Str) (k : Nat) : Nat := if arrA s k then k + 1 else k
def nextR (s : Str) (k : Nat) : Ty × Nat × Bool :=
 if s.size ≤ nxA s k then (zTy, 0, false)
 else if byteAt s (nxA s k : Nat) = 86 then (⟨1, zS⟩, nxA s k + 1, !arrA s k)
 else if byteAt s (nxA s k : Nat) = 73 then (⟨if arrA s k then 4 else 2, zS⟩, nxA s k + 1, true)
 else if byteAt s (nxA s k : Nat) = 76 then
  (if s.size ≤ semi s (nxA s k) ∨ clsW (s.extract (nxA s k + 1) (semi s (nxA s k))) = false then (zTy, 0, false)
  else (⟨if arrA s k then 5 else 3, s.extract (nxA s k + 1) (semi s (nxA s k))⟩, semi s (nxA s k) + 1, true))
 else (zTy, 0, false)
section
variable {s : Str} {k a1 : Nat} {arr : Bool} (ha : a1 = nxA s k) (hb : arr = arrA s k)
include ha in
end
def parseR (s : Str) : Ty × Int := if (nextR s 0).2.2 = false ∨ ¬ (nextR s 0).2.1 = s.size then (zTy, 1) else ((nextR s 0).1, 0)
def parF (s : Str) : Nat → Nat → List Ty → Option (List Ty × Nat)
 | 0, _, _ => none
 | n + 1, k, o => if k < s.size ∧ ¬ byteAt s (k : Nat) = 41 then (if (nextR s k).2.2 = false ∨ (nextR s k).1.kind = 1 then none else parF s n (nextR s k).2.1 (o ++ [(nextR s k).1])) else some (o, k)
def par (s : Str) (k : Nat) (o : List Ty) : Option (List Ty × Nat) := parF s (s.size - k + 1) k o
def splitE (e : Int) : List Ty × Ty × Int := ([], zTy, e)
def splitR (s : Str) : List Ty × Ty × Int :=
 if 64 < s.size then splitE 3
 else if s.size = 0 ∨ ¬ byteAt s 0 = 40 then splitE 1
 else match par s 1 [] with
  | none => splitE 1
  | some (o, k) => if s.size ≤ k then splitE 1 else if ¬ (parseR (s.extract (k + 1) s.size)).2 = 0 then splitE (parseR (s.extract (k + 1) s.size)).2 else if 8 < o.length then splitE 3 else (o, (parseR (s.extract (k + 1) s.size)).1, 0)
def shapeS (o : Int) : Str :=
 if o = 2 then ⟨#[97, 107]⟩ else if o = 3 ∨ o = 26 then ⟨#[97]⟩ else if o = 4 ∨ o = 10 ∨ o = 12 ∨ o = 28 ∨ o = 29 then ⟨#[97, 98]⟩ else if o = 5 then ⟨#[97, 98, 99, 114]⟩ else if o = 6 then ⟨#[116]⟩
 else if o = 7 ∨ o = 8 then ⟨#[98, 116]⟩ else if o = 9 then ⟨#[97, 67]⟩ else if o = 11 ∨ o = 24 ∨ o = 25 then ⟨#[97, 98, 67]⟩ else if o = 13 ∨ o = 14 then ⟨#[97, 98, 99]⟩ else if o = 15 then ⟨#[97, 98, 70]⟩
 else if o = 16 then ⟨#[98, 99, 70]⟩ else if o = 17 then ⟨#[97, 70]⟩ else if o = 18 then ⟨#[99, 70]⟩ else if o = 19 ∨ o = 20 ∨ o = 21 then ⟨#[97, 77, 118]⟩ else if o = 22 ∨ o = 27 ∨ o = 31 then ⟨#[98]⟩
 else if o = 30 then ⟨#[107]⟩ else if o = 32 then ⟨#[67]⟩ else ⟨#[]⟩
def hasL (s : Str) (c : Int) : Bool := (List.range s.size).any fun i => byteAt s (i : Nat) == c
def isCallO (o : Int) : Bool := ((o == 19) || (o == 20)) || (o == 21)
def hCls (s : Str) : Bool := (hasL s 67 || hasL s 70) || hasL s 77
def hNam (s : Str) : Bool := hasL s 70 || hasL s 77
def hNum (s : Str) : Bool := (hasL s 107 || hasL s 116) || hasL s 114
def emptyI (x : Instr) (s : Str) : Bool := (((((((hasL s 97 || x.a == 0) && (hasL s 98 || x.b == 0)) && (hasL s 99 || x.c == 0)) && (hNum s || x.k == 0)) && (hCls s || beqS x.cls zS)) && (hNam s || beqS x.name zS)) && (hasL s 77 || beqS x.desc zS)) && (hasL s 118 || ((x.args.length : Int) == 0))
def namedI (x : Instr) (s : Str) : Bool := if hCls s && !clsW x.cls then false else if hNam s && !nameW x.name then false else !hasL s 77 || (splitR x.desc).2.2 == 0
def wthI (n m : Int) : Bool := decide (n ≥ 0) && decide (n < m)
def argsN (x : Instr) : Int := if ¬ x.op = 19 then ((splitR x.desc).1.length : Int) + 1 else ((splitR x.desc).1.length : Int)
def voidI (x : Instr) : Bool := isCallO x.op && ((splitR x.desc).2.1.kind == 1)
def fitsI (x : Instr) (regs code : Int) : Int :=
 if ((decide (x.op < 1) || decide (x.op > 32)) || !emptyI x (shapeS x.op)) || !namedI x (shapeS x.op) then 1
 else if isCallO x.op && !((x.args.length : Int) == argsN x) then 9
 else if (((hasL (shapeS x.op) 97 && !wthI x.a regs) || (hasL (shapeS x.op) 98 && !wthI x.b regs)) || (hasL (shapeS x.op) 99 && !wthI x.c regs)) || (voidI x && !(x.a == 0)) then 12
 else if x.args.any (fun a => !wthI a regs) then 12
 else if (hasL (shapeS x.op) 116 && (decide (x.k < 0) || decide (x.k ≥ code))) || (hasL (shapeS x.op) 114 && (decide (x.k < 0) || decide (x.k > 9))) then 12 else 0
def nVoid : Str := ⟨#[40, 41, 86]⟩
def methR (m : Meth) : Bool :=
 if ((!((splitR m.desc).2.2 == 0) || !nameW m.name) || decide (m.regs < 0)) || decide (m.regs > 32) then false
 else if m.abs then (((!m.static && !beqS m.name nInit') && ((m.code.length : Int) == 0)) && (m.regs == 0))
 else if (decide ((m.code.length : Int) < 1) || decide ((m.code.length : Int) > 256)) || decide (m.regs < (if m.static then ((splitR m.desc).1.length : Int) else ((splitR m.desc).1.length : Int) + 1)) then false
 else if m.code.any (fun x => !(fitsI x m.regs m.code.length == 0)) then false
 else !beqS m.name nInit' || (m.static && beqS m.desc nVoid)
def fldR (f : Fld) : Bool := ((nameW f.name && !beqS f.name nInit') && rightT f.type) && !(f.type.kind == 1)
def cmR (c : Cls) (m : Meth) : Bool := (methR m && !(c.iface && !m.abs)) && !(m.abs && !c.abs)
def clsR8 (c : Cls) : Bool :=
 if !clsW c.name || (!beqS c.super zS && (!clsW c.super || beqS c.super c.name)) then false
 else if c.iface && ((!c.abs || !beqS c.super zS) || decide ((c.fields.length : Int) > 0)) then false
 else if c.ifaces.any (fun s => !clsW s) then false
 else if c.fields.any (fun f => !fldR f) then false
 else !c.methods.any (fun m => !cmR c m)
def entryR (m : MRef) : Bool := ((beqS m.cls zS && beqS m.name zS) && beqS m.desc zS) || (((clsW m.cls && nameW m.name) && !beqS m.name nInit') && (beqS m.desc nAsk || beqS m.desc nVoid))
def longC (c : Cls) : Bool := (decide ((c.ifaces.length : Int) > 8) || decide ((c.fields.length : Int) > 32)) || decide ((c.methods.length : Int) > 32)
def longR (p : Prog) : Bool :=
 if decide ((p.classes.length : Int) > 64) || decide ((p.names.length : Int) > 64) then true
 else if p.classes.any longC then true
 else p.names.any fun s => decide ((s.size : Int) > 64)
def belowM (a b : Meth) : Bool := ltS a.name b.name || (beqS a.name b.name && ltS a.desc b.desc)
def allB (g : Nat → Bool) (n : Nat) : Bool := (List.range n).all fun i => Nat.beq i 0 || g i
theorem Z6a {α : Type} [Inhabited α] {l : List α} {i : Nat} (hi : i < l.length) : l[i] = l.getD i default := by simp [List.getD, List.getElem?_eq_getElem hi]
def gI (c : Cls) (k : Nat) : Bool := ltS (c.ifaces.getD (k - 1) default) (c.ifaces.getD k default)
def gF (c : Cls) (k : Nat) : Bool := ltS (c.fields.getD (k - 1) default).name (c.fields.getD k default).name
def gM (c : Cls) (k : Nat) : Bool := belowM (c.methods.getD (k - 1) default) (c.methods.getD k default)
def orderedC (c : Cls) : Bool := allB (gI c) c.ifaces.length && allB (gF c) c.fields.length && allB (gM c) c.methods.length
def gC (p : Prog) (k : Nat) : Bool := ltS (p.classes.getD (k - 1) default).name (p.classes.getD k default).name
def inOrdK (p : Prog) (i : Nat) : Bool := orderedC (p.classes.getD i default) && (Nat.beq i 0 || gC p i)
def inOrdR (p : Prog) : Bool := (List.range p.classes.length).all (inOrdK p)
def rightR (p : Prog) : Int := if longR p then 3 else if p.classes.any (fun c => !clsR8 c) then 1 else if !entryR p.entry then 1 else if !inOrdR p then 5 else 0
def nxtA (r : Ty × Nat × Bool) : AV := .tup [.agg r.1.cells, iA r.2.1, bA r.2.2]
def prsA (r : Ty × Int) : AV := .tup [.agg r.1.cells, iA r.2]
def splA (r : List Ty × Ty × Int) : AV := .tup [.lst (r.1.map Ty.cells), .agg r.2.1.cells, iA r.2.2]
end Go.Sx
namespace Go.Sx
open Go
section
variable {P : Program} {ro : Option Nat} {Q : Exit → St → Prop} {s : St}
theorem Z1n {c : Code} {id el n qe qs : Nat} {e0 : List AV} (k c0 : Nat) (hH : s.H[k]? = some (id, .rows el n [e0])) (hc0 : e0[c0]? = some (.v (.slice none 0 0)))
  (h : ∀ q, AWp P ro c Q ⟨s.T, (q, .rows qe qs []) :: s.H.set k (id, .rows el n [e0.set c0 (.own q qs 0 0)]), s.D, s.n⟩) : AWp P ro c Q s := by
 intro Z C0 H0 w0 C a w he hs
 obtain ⟨q, hq⟩ := Z74 (C.U ++ Z)
 rw [List.mem_append, not_or] at hq
 have hle := Ctx.le_bindO (x := none) hq.1
 obtain ⟨H1, H2, e1, e2⟩ := Z47 hH
 have hw := hs.wr
 have hother : ∀ i o, (i, o) ∈ s.H → i ≠ q := by rintro i o hi rfl; exact hq.1 (hw.ids i o hi).1
 have hm : ∀ i, i ≠ q → (C.bindO q none).m i = C.m i := fun i hi => if_neg hi
 have hset : ∀ p, p ∈ s.H.set k (id, .rows el n [e0.set c0 (.own q qs 0 0)]) → p = (id, .rows el n [e0.set c0 (.own q qs 0 0)]) ∨ p ∈ s.H := fun p hp => by
  rw [e2] at hp; rw [e1]
  rcases List.mem_append.1 hp with h | h
  ·exact .inr (List.mem_append_left _ h)
  ·rcases List.mem_cons.1 h with h | h
   ·exact .inl h
   ·exact .inr (List.mem_append_right _ (List.mem_cons_of_mem _ h))
 have hidm : ∀ i o, (i, o) ∈ s.H.set k (id, .rows el n [e0.set c0 (.own q qs 0 0)]) → ∃ o', (i, o') ∈ s.H := fun i o hi => by
  rcases hset _ hi with h | h
  ·cases h; exact ⟨_, List.mem_of_getElem? hH⟩
  ·exact ⟨o, h⟩
 have hmap : (s.H.set k (id, AObj.rows el n [e0.set c0 (.own q qs 0 0)])).map Prod.fst = s.H.map Prod.fst := by
  rw [e2, e1]; simp
 have hblk : ∀ b, blk (C.bindO q none) ((q, .rows qe qs []) :: s.H.set k (id, .rows el n [e0.set c0 (.own q qs 0 0)])) b → blk C s.H b := by
  rintro b ⟨i, o, N, hi, hmi⟩
  rcases List.mem_cons.1 hi with h2 | h2
  ·cases h2; rw [Ctx.bindO_m] at hmi; cases hmi
  ·obtain ⟨o', ho'⟩ := hidm i o h2
   rw [hm i (hother i o' ho')] at hmi; exact ⟨i, o', N, ho', hmi⟩
 refine h q Z C0 H0 w0 (C.bindO q none) a w (he.trans ⟨hle, ?_, rfl, rfl, rfl, Nat.le_refl _, fun _ _ _ => rfl, fun _ o h => .inl ⟨o, h⟩, fun b hb => .inl (hblk b hb), ?_⟩) ⟨⟨hw.hp, ?_, ?_, ?_, fun b hb => hw.dis b (hblk b hb)⟩, fun t x ht => let ⟨v, a, b⟩ := hs.sl t x ht; ⟨v, a, b.mono hle⟩, ?_, fun i hi => List.mem_cons_of_mem _ (hs.du i hi), hs.sz⟩
 ·intro z hz hzu hmem
  rcases List.mem_cons.1 hmem with h2 | h2
  ·exact hq.2 (h2 ▸ hz)
  ·exact hzu h2
 ·intro i o hi
  rcases List.mem_cons.1 hi with h2 | h2
  ·cases h2; exact .inr hq.1
  ·exact .inl (hidm i o h2)
 ·rw [List.map_cons, hmap, List.nodup_cons]
  refine ⟨fun hmem => ?_, hw.nd⟩
  obtain ⟨⟨i, o⟩, hi, he⟩ := List.mem_map.1 hmem
  exact hother i o hi he
 ·intro i o hi
  rcases List.mem_cons.1 hi with h2 | h2
  ·cases h2; exact ⟨List.mem_cons_self, nofun, .inl ⟨Ctx.bindO_m .., rfl⟩⟩
  ·rcases hset _ h2 with h3 | h3
   ·cases h3
    obtain ⟨h4, h5, h6⟩ := hw.ids _ _ (List.mem_of_getElem? hH)
    refine ⟨hle.U _ h4, by simpa using h5, ?_⟩
    rcases h6 with ⟨_, h7⟩ | ⟨b, N, cells, h7, h8, h9, h10, h11⟩
    ·cases h7
    ·refine .inr ⟨b, N, cells, (hm _ (hother _ _ (List.mem_of_getElem? hH))).trans h7, h8, h9, h10, ?_⟩
     intro i' e j c he hc
     have hi0 : i' = 0 := by
      cases i' with
      | zero => rfl
      | succ n => simp at he
     subst hi0
     simp only [List.getElem?_cons_zero, Option.some.injEq] at he
     subst he
     rw [List.getElem?_set] at hc
     by_cases hj : c0 = j
     ·subst hj
      have hlt : c0 < e0.length := Z11 hc0
      rw [if_pos rfl, if_pos hlt] at hc
      cases hc
      obtain ⟨x, g1, g2, g3⟩ := h11 0 e0 c0 _ rfl hc0
      have := VR.val g2
      subst this
      exact ⟨_, g1, .ownNil q qs (Ctx.bindO_m ..) List.mem_cons_self, g3⟩
     ·rw [if_neg hj] at hc
      obtain ⟨x, g1, g2, g3⟩ := h11 0 e0 j c rfl hc
      exact ⟨x, g1, g2.mono hle, g3⟩
   ·obtain ⟨h4, h5⟩ := hw.ids i o h3
    exact ⟨hle.U i h4, h5.keep hle h4 (fun _ _ _ => rfl)⟩
 ·intro i j o o' b N N' hi hj h2 h3
  rcases List.mem_cons.1 hi with h4 | h4
  ·cases h4; rw [Ctx.bindO_m] at h2; cases h2
  ·rcases List.mem_cons.1 hj with h5 | h5
   ·cases h5; rw [Ctx.bindO_m] at h3; cases h3
   ·obtain ⟨p1, hp1⟩ := hidm i o h4
    obtain ⟨p2, hp2⟩ := hidm j o' h5
    rw [hm i (hother i p1 hp1)] at h2; rw [hm j (hother j p2 hp2)] at h3
    exact hw.inj i j p1 p2 b N N' hp1 hp2 h2 h3
 ·rw [hs.df]
  exact List.map_congr_left fun i hi => by
   have : i ≠ q := by rintro rfl; exact hq.1 (hs.du i hi)
   simp [mark, hm i this]
theorem Zcy {C : Ctx} {b : Option Nat} {ob : Option Obj} {id sz off len : Nat} {v : Value} (h : VR (C.hpSet b ob) (.own id sz off len) v) : VR C (.own id sz off len) v := by
 cases h with
 | own _ _ _ _ bb N cap hid hu hcap hlen hml => exact .own id sz off len bb N cap hid hu hcap hlen hml
 | ownNil _ _ hid hu => exact .ownNil id sz hid hu
theorem Z1p {id sz el el2 n g len : Nat} {es : List (List AV)} {e0 : List AV} {T' : List (Nat × AV)} (k j c0 : Nat) (hH : s.H[k]? = some (id, .rows el sz es)) (hg : (s.H.eraseIdx k)[j]? = some (g, .rows el2 n [e0])) (hc : e0[c0]? = some (.own id sz 0 len)) (hl : len = es.length) (hT : SubT s.T T') :
  Weak s ⟨T', (s.H.eraseIdx k).set j (g, .rows el2 n [e0.set c0 (.lst es)]), s.D, s.n⟩ := by
 intro Z C a w hs
 have hw := hs.wr.perm (Zf hH)
 obtain ⟨b, ob, h1, h2, h3, h4, h5, h6⟩ := frz hw
 obtain ⟨H1, H2, e1, e2⟩ := Z47 hg
 have hset : ∀ p, p ∈ (s.H.eraseIdx k).set j (g, .rows el2 n [e0.set c0 (.lst es)]) → p = (g, .rows el2 n [e0.set c0 (.lst es)]) ∨ p ∈ s.H.eraseIdx k := fun p hp => by
  rw [e2] at hp; rw [e1]
  rcases List.mem_append.1 hp with h | h
  ·exact .inr (List.mem_append_left _ h)
  ·rcases List.mem_cons.1 h with h | h
   ·exact .inl h
   ·exact .inr (List.mem_append_right _ (List.mem_cons_of_mem _ h))
 have hidm : ∀ i o, (i, o) ∈ (s.H.eraseIdx k).set j (g, .rows el2 n [e0.set c0 (.lst es)]) → ∃ o', (i, o') ∈ s.H.eraseIdx k := fun i o hi => by
  rcases hset _ hi with h | h
  ·cases h; exact ⟨_, List.mem_of_getElem? hg⟩
  ·exact ⟨o, h⟩
 have hmap : ((s.H.eraseIdx k).set j (g, AObj.rows el2 n [e0.set c0 (.lst es)])).map Prod.fst = (s.H.eraseIdx k).map Prod.fst := by
  rw [e2, e1]; simp
 have hblk : ∀ x, blk (C.hpSet b ob) ((s.H.eraseIdx k).set j (g, .rows el2 n [e0.set c0 (.lst es)])) x → blk (C.hpSet b ob) (s.H.eraseIdx k) x := by
  rintro x ⟨i, o, N, hi, hm⟩
  obtain ⟨o', ho'⟩ := hidm i o hi
  exact ⟨i, o', N, ho', hm⟩
 refine ⟨C.hpSet b ob, ⟨⟨h4.hp, ?_, ?_, ?_, fun x hx => h4.dis x (hblk x hx)⟩, ?_, ?_, hs.du, hs.sz⟩, ⟨h5, fun _ _ h => h, rfl, rfl, rfl, Nat.le_refl _, fun _ _ _ => rfl, ?_, ?_, ?_⟩⟩
 ·rw [hmap]; exact h4.nd
 ·intro i o hi
  rcases hset _ hi with h | h
  ·cases h
   obtain ⟨g4, g5, g6⟩ := h4.ids _ _ (List.mem_of_getElem? hg)
   refine ⟨g4, by simpa using g5, ?_⟩
   rcases g6 with ⟨_, g7⟩ | ⟨bb, N, cells, g7, g8, g9, g10, g11⟩
   ·cases g7
   ·refine .inr ⟨bb, N, cells, g7, g8, g9, g10, ?_⟩
    intro i' e jj c he hcc
    have hi0 : i' = 0 := by
     cases i' with
     | zero => rfl
     | succ n => simp at he
    subst hi0
    simp only [List.getElem?_cons_zero, Option.some.injEq] at he
    subst he
    rw [List.getElem?_set] at hcc
    by_cases hj : c0 = jj
    ·subst hj
     rw [if_pos rfl, if_pos (Z11 hc)] at hcc
     cases hcc
     obtain ⟨x, q1, q2, q3⟩ := g11 0 e0 c0 _ rfl hc
     exact ⟨x, q1, h6 x len hl (Zcy q2), q3⟩
    ·rw [if_neg hj] at hcc
     exact g11 0 e0 jj c rfl hcc
  ·exact h4.ids i o h
 ·intro i i2 o o2 x N N' hi hj2 hm1 hm2
  obtain ⟨p1, hp1⟩ := hidm i o hi
  obtain ⟨p2, hp2⟩ := hidm i2 o2 hj2
  exact h4.inj i i2 p1 p2 x N N' hp1 hp2 hm1 hm2
 ·intro t' x hx
  obtain ⟨v, h7, h8⟩ := hs.sl t' x (hT.lk t' x hx)
  exact ⟨v, h7, h8.mono h5⟩
 ·rw [hs.df]
  exact List.map_congr_left fun i hi => by simp [mark, Ctx.hpSet]
 ·intro x o hx
  simp only [Ctx.hpSet] at hx
  split at hx
  ·rename_i e
   obtain ⟨_, N, hm⟩ := h2 x e
   exact .inr (.inr ⟨id, _, N, List.mem_of_getElem? hH, hm⟩)
  ·exact .inl ⟨o, hx⟩
 ·rintro x ⟨i, o, N, hi, hm⟩
  obtain ⟨o', ho'⟩ := hidm i o hi
  exact .inl ⟨i, o', N, List.mem_of_mem_eraseIdx ho', hm⟩
 ·intro i o hi
  obtain ⟨o', ho'⟩ := hidm i o hi
  exact .inl ⟨o', List.mem_of_mem_eraseIdx ho'⟩
end
section
variable {P : Program} {T : List (Nat × AV)} {o : Oper}
theorem Z1f {t t' : TypeId} {p q : Operand} {x y : ByteArray} (ho : o.op = .binOp .add t p q t') (hp : ev T p = some (.v (.string x))) (hq : ev T q = some (.v (.string y))) (hz : x.size + y.size ≤ 9223372036854775807) : Eff P o T [] (.v (.string (x ++ y))) [] :=
 Z0w (by intro c; rw [ho]; nofun) fun C H a w hw hn hv => by
  have h2 := VR.val (hv p (by rw [ho]; simp [Op.operands]) _ hp)
  have h3 := VR.val (hv q (by rw [ho]; simp [Op.operands]) _ hq)
  refine ⟨.string (x ++ y), ?_, .v _⟩
  have hm : ¬ ((x.size + y.size : Nat) : Int) > IntKind.i64.max := by
   have : IntKind.i64.max = 9223372036854775807 := rfl
   omega
  simp [execOp, ho, h2, h3, eqGuard, binOp, Op.stringOp, Sem.run_bind, Result.andThen]
  rw [if_neg (by simpa using hm)]
end
theorem orT {a b : Bool} (h : (a || b) = true) : a = true ∨ b = true := by revert h; cases a <;> simp
theorem orF {a b : Bool} (h : (a || b) = false) : a = false ∧ b = false := by revert h; cases a <;> simp
def pull : AHeap → List Nat → Option (AHeap × AHeap)
 | H, [] => some ([], H)
 | H, k :: ks => match H[k]? with
  | some p => match pull (H.eraseIdx k) ks with
   | some (A, B) => some (p :: A, B)
   | none => none
  | none => none
theorem Z2k : ∀ (ks : List Nat) {H A B : AHeap}, pull H ks = some (A, B) → H.Perm (A ++ B)
 | [], H, A, B, h => by cases h; exact .refl _
 | k :: ks, H, A, B, h => by
  unfold pull at h
  split at h
  ·rename_i p hp
   split at h
   ·rename_i A' B' hk
    cases h
    exact (Zf hp).trans ((Z2k ks hk).cons p)
   ·cases h
  ·cases h
end Go.Sx
namespace Go.Sx
open Go Go.Proofs
theorem Zcf (c : Int) : ACalls Tryz.prog 137 [uA c] [] (Gives (bA (letW c))) := by
 refine Zc (n := 27) Tryz.func137 rfl (by decide +kernel) rfl rfl ?_
 refine qS (qR (qA (qN (qS (qB (qS (qB (qB (qS (qS (qS (qS (qR (qM ?_))))))))))))))
 refine qe eI ?_
 refine qA (qN ?_)
 refine Z2 rfl ?_ ?_
 ·intro hc
  refine qK ?_
  refine Z2 rfl ?_ ?_
  ·intro hc
   refine qX (qS (qS (qR (qA (qN (qE ?_))))))
   exact Z0x rfl (Z6 rfl Z4) (gb (by unfold letW; simp_all))
  ·intro hd; exfalso; simp_all
 ·intro hc
  refine qR (qM ?_)
  refine qe eI ?_
  refine qA (qN ?_)
  refine Z2 rfl ?_ ?_
  ·intro hc
   refine qX (qS (qS (qR (qA (qN (qE ?_))))))
   exact Z0x rfl (Z6 rfl Z4) (gb (by unfold letW; simp_all))
  ·intro hc
   refine qK (qS (qS (qR (qM ?_))))
   refine qe eI ?_
   refine qM (qTM ?_)
   refine Zv (wT rfl rfl rfl rfl) rfl (fun hg => (Zr rfl (Zd hg rfl) rfl rfl)) ?_
   refine qe (Zs rfl rfl rfl (fun h => h)) ?_
   refine qA (qN ?_)
   refine Z2 rfl ?_ ?_
   ·intro hc
    refine qK ?_
    refine Z2 rfl ?_ ?_
    ·intro hc
     refine qX (qS (qS (qR (qA (qN (qE ?_))))))
     exact Z0x rfl (Z6 rfl Z4) (gb (by unfold letW; simp_all))
    ·intro hd; exfalso; simp_all
   ·intro hc
    refine qS (qR (qM ?_))
    refine qe eI ?_
    refine qM (qTM ?_)
    refine Zv (wT rfl rfl rfl rfl) rfl (fun hg => (Zr rfl (Zd hg rfl) rfl rfl)) ?_
    refine qe (Zs rfl rfl rfl (fun h => h)) ?_
    refine qA (qN ?_)
    refine Z2 rfl ?_ ?_
    ·intro hc
     refine qK ?_
     refine Z2 rfl ?_ ?_
     ·intro hc
      refine qX (qS (qS (qR (qA (qN (qE ?_))))))
      exact Z0x rfl (Z6 rfl Z4) (gb (by unfold letW; simp_all))
     ·intro hd; exfalso; simp_all
    ·intro hc
     refine qR (qM ?_)
     refine qe eI ?_
     refine qM (qTM ?_)
     refine Zv (wT rfl rfl rfl rfl) rfl (fun hg => (Zr rfl (Zd hg rfl) rfl rfl)) ?_
     refine qe (Zs rfl rfl rfl (fun h => h)) ?_
     refine qA (qN ?_)
     refine Z2 rfl ?_ ?_
     ·intro hc
      refine qX (qS (qS (qR (qA (qN (qE ?_))))))
      exact Z0x rfl (Z6 rfl Z4) (gb (by unfold letW; simp_all))
     ·intro hc
      refine qK (qX (qS (qR (qA (qN (qE ?_))))))
      exact Z0x rfl (Z6 rfl Z4) (gb (by unfold letW; simp_all))
theorem Z7o (c : Int) : ACalls Tryz.prog 136 [uA c] [] (Gives (bA (letW c || (c == 47)))) := by
 refine Zc (n := 9) Tryz.func136 rfl (by decide +kernel) rfl rfl ?_
 refine qS (qR (qA (qN (qS (qR (qM ?_))))))
 refine qe (Z8 [] rfl rfl rfl (Zcf c) List.nodup_nil) ?_
 refine qM (qFM ?_)
 refine Zv (wF rfl rfl rfl rfl) rfl (fun hg => (Zr rfl (Zd hg rfl) rfl rfl)) ?_
 refine qe (Z27 rfl rfl rfl (fun h => by rw [h]; rfl)) ?_
 refine qA (qN (qE ?_))
 exact Z0x rfl (Z6 rfl Z4) (gb rfl)
theorem Zfc (s : Str) (hs : small s.size) : ACalls Tryz.prog 135 [sA s, .fn (.func 136) []] [] (Gives (bA (clsW s))) := by
 simp only [small] at hs
 refine Zc (n := 25) Tryz.func135 rfl (by decide +kernel) rfl rfl ?_
 refine qS (qR (qA (qN (qS (qS (qR (qM ?_)))))))
 refine qe (Zx rfl rfl rfl rfl) ?_
 refine qM (qN (qB ?_))
 refine Zk (α := Nat) (fun i => ⟨[(8, iA i), (7, iA s.size), (0, sA s), (1, .fn (.func 136) [])], [], [], 25⟩) (fun i => i ≤ s.size ∧ ∀ k, k < i → (letW (byteAt s (k : Nat)) || (byteAt s (k : Nat) == 47)) = true) (fun i => s.size - i) 0 ⟨Nat.zero_le _, fun k h => by omega⟩ ?_ ?_
 ·exact Zg [] ⟨rfl, rfl, rfl, rfl, trivial⟩ rfl (by decide) rfl rfl
 rintro i hJ
 refine qS (qR ?_)
 refine qe eI ?_
 refine qN (qS ?_)
 refine Z2 rfl ?_ ?_
 ·intro hc
  have hi : i < s.size := by simpa using hc
  refine qK (qS (qB (qS (qR (qM (qA (qN (qS (qR (qM (qM (qM ?_))))))))))))
  refine qe (Z1e rfl rfl rfl (by first | omega | (simp only [List.length_map]; omega) | (simp only [List.length_map, List.length_drop]; omega)) (by first | omega | (simp only [List.length_map]; omega) | (simp only [List.length_map, List.length_drop]; omega))) ?_
  refine qe (Z8 [] rfl rfl rfl (Z7o _) List.nodup_nil) ?_
  refine qe (Z04 rfl rfl) ?_
  refine qN ?_
  refine Z2 rfl ?_ ?_
  ·intro hc
   have hq : (letW (byteAt s (i : Nat)) || (byteAt s (i : Nat) == 47)) = false := Z1z hc
   refine qS (qR (qA (qN (qE ?_))))
   exact Z0x rfl (Z6 rfl Z4) (gb (by unfold clsW; rw [Z9x hi hq]; rfl))
  ·intro hc
   have hq : (letW (byteAt s (i : Nat)) || (byteAt s (i : Nat) == 47)) = true := Z2l hc
   refine qK (qR ?_)
   refine qe (Zb rfl rfl rfl (Zp (by first | omega | (simp only [List.length_map]; omega)))) ?_
   refine qM (qN ?_)
   refine ⟨i + 1, ⟨hi, fun k h => by rcases Nat.lt_succ_iff_lt_or_eq.1 h with h | h; exact hJ.2 k h; rw [h]; exact hq⟩, (by omega), ?_⟩
   exact qp [] ⟨rfl, rfl, rfl, rfl, trivial⟩
 ·intro hc
  have hi : ¬ i < s.size := by simpa using hc
  refine qX (qS (qR (qM ?_)))
  refine qe (Z1j rfl rfl rfl rfl) ?_
  refine qM (qTM ?_)
  refine Zv (wT rfl rfl rfl rfl) rfl (fun hg => (Zx rfl (Zd hg rfl) rfl rfl)) ?_
  refine Zv (wT rfl rfl rfl rfl) rfl (fun hg => (Zr rfl (Zd hg rfl) rfl rfl)) ?_
  refine qe (Zs rfl rfl rfl (fun h => h)) ?_
  refine qA (qN (qE ?_))
  exact Z0x rfl (Z6 rfl Z4) (gb (by unfold clsW; rw [Z7k fun k hk => hJ.2 k (by omega), Bool.true_and, show decide ((s.size : Int) ≤ 32) = decide (s.size ≤ 32) by simp only [decide_eq_decide]; omega]; rfl))
theorem Zd4 (s : Str) (hs : small s.size) : ACalls Tryz.prog 112 [sA s] [] (Gives (bA (clsW s))) := by
 refine Zc (n := 5) Tryz.func112 rfl (by decide +kernel) rfl rfl ?_
 refine qS (qR (qA (qN (qS (qR (qM ?_))))))
 refine qe (Z8 [] rfl rfl rfl (Zfc s hs) List.nodup_nil) ?_
 refine qA (qN (qE ?_))
 exact Z0x rfl (Z6 rfl Z4) (gb rfl)
theorem Z8t (t : Ty) (hs : small t.cls.size) : ACalls Tryz.prog 77 [t.av] [] (Gives (bA (rightT t))) := by
 refine Zc (n := 26) Tryz.func77 rfl (by decide +kernel) rfl rfl ?_
 refine qS (qR ?_)
 refine Z02 (w0 rfl) rfl (fun id => Z0b id rfl rfl rfl rfl rfl) (fun id1 => ?_)
 refine qA (qN (qS (qS (qR ?_))))
 refine qe (Z1 rfl rfl rfl) ?_
 refine qL 0 Z9 ?_
 refine qN (qB (qS (qS (qR ?_))))
 refine qe eI ?_
 refine qA (qN ?_)
 refine Z2 rfl ?_ ?_
 ·intro hc
  refine qK ?_
  refine Z2 rfl ?_ ?_
  ·intro hc
   refine qS (qR ?_)
   refine qe (Z1 rfl rfl rfl) ?_
   refine qL 0 Z9 ?_
   refine qe (Z8 [] rfl rfl rfl (Zd4 t.cls hs) List.nodup_nil) ?_
   refine qA (qN (qE ?_))
   exact Z0x rfl (Z6 rfl Z4) (gb (by unfold rightT; rw [if_pos (by simp_all)]))
  ·intro hd; exfalso; simp_all
 ·intro hc
  refine qR ?_
  refine qe eI ?_
  refine qA (qN ?_)
  refine Z2 rfl ?_ ?_
  ·intro hc
   refine qS (qR ?_)
   refine qe (Z1 rfl rfl rfl) ?_
   refine qL 0 Z9 ?_
   refine qe (Z8 [] rfl rfl rfl (Zd4 t.cls hs) List.nodup_nil) ?_
   refine qA (qN (qE ?_))
   exact Z0x rfl (Z6 rfl Z4) (gb (by unfold rightT; rw [if_pos (by simp_all)]))
  ·intro hc
   refine qK (qS (qR ?_))
   refine qL 0 (Z01 (Nat.le_of_ble_eq_true rfl)) ?_
   refine qe (Z1 rfl rfl rfl) ?_
   refine qL 0 Z9 ?_
   refine qe (Z0r rfl rfl rfl) ?_
   refine qe (Z39 rfl rfl rfl rfl rfl) ?_
   refine qM ?_
   refine Zv (wT rfl rfl rfl rfl) rfl (fun hg => (Z1 rfl rfl rfl)) ?_
   refine Z00 0 (wT rfl rfl rfl rfl) rfl rfl (fun hg => (Zd hg rfl)) rfl rfl Z9 ?_
   refine Zv (wT rfl rfl rfl rfl) rfl (fun hg => (Zr rfl (Zd hg rfl) rfl rfl)) ?_
   refine qe (Zs rfl rfl rfl (fun h => h)) ?_
   refine qM ?_
   refine Zv (wT rfl rfl rfl rfl) rfl (fun hg => (Z1 rfl rfl rfl)) ?_
   refine Z00 0 (wT rfl rfl rfl rfl) rfl rfl (fun hg => (Zd hg rfl)) rfl rfl Z9 ?_
   refine Zv (wT rfl rfl rfl rfl) rfl (fun hg => (Zr rfl (Zd hg rfl) rfl rfl)) ?_
   refine qe (Zs rfl rfl rfl (fun h => h)) ?_
   refine qA (qN (qE ?_))
   exact Z0x rfl (Z6 rfl Z4) (gb (by unfold rightT; rw [if_neg (by simp_all)]; show ((((t.kind == t.kind) && beqS t.cls zS) && decide (t.kind ≥ 1)) && decide (t.kind ≤ 5)) = _; rw [beq_self_eq_true, Bool.true_and]))
theorem Zdo (t : Ty) : ACalls Tryz.prog 78 [t.av] [] (Gives (elemT t).av) := by
 refine Zc (n := 14) Tryz.func78 rfl (by decide +kernel) rfl rfl ?_
 refine qS (qR ?_)
 refine Z02 (w0 rfl) rfl (fun id => Z0b id rfl rfl rfl rfl rfl) (fun id1 => ?_)
 refine Z02 (w0 rfl) rfl (fun id => Z0e id rfl rfl rfl) (fun id2 => ?_)
 refine qN (qS (qS (qR ?_)))
 refine qe (Z1 rfl rfl rfl) ?_
 refine qL 1 Z9 ?_
 refine qN (qB (qS (qR ?_)))
 refine qe eI ?_
 refine qA (qN ?_)
 refine Z2 rfl ?_ ?_
 ·intro hc
  have q4 : t.kind = 4 := by simpa using hc
  refine qS (qR ?_)
  refine qe (Z0r rfl rfl rfl) ?_
  refine Z06 0 (w0 rfl) rfl rfl rfl rfl rfl rfl rfl rfl rfl ?_
  refine qN (qE ?_)
  exact Z0x rfl (Z1t 0 rfl rfl rfl (Z01 (Nat.le_of_ble_eq_true rfl)) Z4) (gvr (by unfold elemT; rw [if_pos q4]; rfl))
 ·intro hc
  have q4 : ¬ t.kind = 4 := by simpa using hc
  refine qS (qR ?_)
  refine qe eI ?_
  refine qA (qN ?_)
  refine Z2 rfl ?_ ?_
  ·intro hc
   have q5 : t.kind = 5 := by simpa using hc
   refine qS (qR ?_)
   refine qe (Z1 rfl rfl rfl) ?_
   refine qL 1 Z9 ?_
   refine qe (Z0r rfl rfl rfl) ?_
   refine Z06 0 (w0 rfl) rfl rfl rfl rfl rfl rfl rfl rfl rfl ?_
   refine qN (qE ?_)
   exact Z0x rfl (Z1t 0 rfl rfl rfl (Z01 (Nat.le_of_ble_eq_true rfl)) Z4) (gvr (by unfold elemT; rw [if_neg q4, if_pos q5]; rfl))
  ·intro hc
   have q5 : ¬ t.kind = 5 := by simpa using hc
   refine qK (qS (qR ?_))
   refine qe (Z0r rfl rfl rfl) ?_
   refine Z06 0 (w0 rfl) rfl rfl rfl rfl rfl rfl rfl rfl rfl ?_
   refine qN (qE ?_)
   exact Z0x rfl (Z1t 0 rfl rfl rfl (Z01 (Nat.le_of_ble_eq_true rfl)) Z4) (gvr (by unfold elemT; rw [if_neg q4, if_neg q5]; rfl))
theorem Ze3 (t : Ty) (hs : small t.cls.size) (h45 : ¬ (t.kind = 4 ∨ t.kind = 5)) : ACalls Tryz.prog 37 [t.av] [] (Gives (sA (textT t))) := by
 have hx1 := Z6n (elemT t)
 have hx2 := Z83 t
 refine Zc (n := 22) Tryz.func37 rfl (by decide +kernel) rfl rfl ?_
 refine qS (qR ?_)
 refine Z02 (w0 rfl) rfl (fun id => Z0b id rfl rfl rfl rfl rfl) (fun id1 => ?_)
 refine qA (qN (qS (qS (qR ?_))))
 refine qL 0 (Z01 (Nat.le_of_ble_eq_true rfl)) ?_
 refine qe (Z8 [] rfl rfl rfl (Z8t t hs) List.nodup_nil) ?_
 refine qe (Z04 rfl rfl) ?_
 refine qN ?_
 refine Z2 rfl ?_ ?_
 ·intro hc
  have hr : rightT t = false := Z1z hc
  refine qS (qR (qA (qN (qE ?_))))
  exact Z0x rfl (Z6 rfl Z4) (gs (by unfold textT; rw [hr]; rfl))
 ·intro hc
  have hr : rightT t = true := Z2l hc
  refine qK (qS (qS (qR ?_)))
  refine qe (Z1 rfl rfl rfl) ?_
  refine qL 0 Z9 ?_
  refine qN (qB (qS (qR ?_)))
  refine qe eI ?_
  refine qA (qN ?_)
  refine Z2 rfl ?_ ?_
  ·intro hc
   have q1 : t.kind = 1 := by simpa using hc
   refine qS (qR (qA (qN (qE ?_))))
   exact Z0x rfl (Z6 rfl Z4) (gs (by unfold textT text0; rw [if_pos hr, if_neg (by omega), if_pos q1]))
  ·intro hc
   have q1 : ¬ t.kind = 1 := by simpa using hc
   refine qS (qR ?_)
   refine qe eI ?_
   refine qA (qN ?_)
   refine Z2 rfl ?_ ?_
   ·intro hc
    have q2 : t.kind = 2 := by simpa using hc
    refine qS (qR (qA (qN (qE ?_))))
    exact Z0x rfl (Z6 rfl Z4) (gs (by unfold textT text0; rw [if_pos hr, if_neg (by omega), if_neg q1, if_pos q2]))
   ·intro hc
    have q2 : ¬ t.kind = 2 := by simpa using hc
    refine qS (qR ?_)
    refine qe eI ?_
    refine qA (qN ?_)
    refine Z2 rfl ?_ ?_
    ·intro hc
     have q3 : t.kind = 3 := by simpa using hc
     refine qS (qR ?_)
     refine qe (Z1 rfl rfl rfl) ?_
     refine qL 0 Z9 ?_
     refine qe (Z1f rfl rfl rfl (by have k0 : ByteArray.size ⟨#[]⟩ = 0 := rfl; have k1 : ByteArray.size ⟨#[59]⟩ = 1 := rfl; have k2 : ByteArray.size ⟨#[73]⟩ = 1 := rfl; have k3 : ByteArray.size ⟨#[76]⟩ = 1 := rfl; have k4 : ByteArray.size ⟨#[86]⟩ = 1 := rfl; have k5 : ByteArray.size ⟨#[91]⟩ = 1 := rfl; (try simp only [ByteArray.size_append, small] at *) <;> omega)) ?_
     refine qe (Z1f rfl rfl rfl (by have k0 : ByteArray.size ⟨#[]⟩ = 0 := rfl; have k1 : ByteArray.size ⟨#[59]⟩ = 1 := rfl; have k2 : ByteArray.size ⟨#[73]⟩ = 1 := rfl; have k3 : ByteArray.size ⟨#[76]⟩ = 1 := rfl; have k4 : ByteArray.size ⟨#[86]⟩ = 1 := rfl; have k5 : ByteArray.size ⟨#[91]⟩ = 1 := rfl; (try simp only [ByteArray.size_append, small] at *) <;> omega)) ?_
     refine qA (qN (qE ?_))
     exact Z0x rfl (Z6 rfl Z4) (gs (by unfold textT text0; rw [if_pos hr, if_neg (by omega), if_neg q1, if_neg q2]))
    ·intro hc
     exfalso
     have q3 : ¬ t.kind = 3 := by simpa using hc
     exact h45 (Z8c hr q1 q2 q3)
theorem Zal (t : Ty) (hs : small t.cls.size) : ACalls Tryz.prog 37 [t.av] [] (Gives (sA (textT t))) := by
 have hx1 := Z6n (elemT t)
 have hx2 := Z83 t
 refine Zc (n := 22) Tryz.func37 rfl (by decide +kernel) rfl rfl ?_
 refine qS (qR ?_)
 refine Z02 (w0 rfl) rfl (fun id => Z0b id rfl rfl rfl rfl rfl) (fun id1 => ?_)
 refine qA (qN (qS (qS (qR ?_))))
 refine qL 0 (Z01 (Nat.le_of_ble_eq_true rfl)) ?_
 refine qe (Z8 [] rfl rfl rfl (Z8t t hs) List.nodup_nil) ?_
 refine qe (Z04 rfl rfl) ?_
 refine qN ?_
 refine Z2 rfl ?_ ?_
 ·intro hc
  have hr : rightT t = false := Z1z hc
  refine qS (qR (qA (qN (qE ?_))))
  exact Z0x rfl (Z6 rfl Z4) (gs (by unfold textT; rw [hr]; rfl))
 ·intro hc
  have hr : rightT t = true := Z2l hc
  refine qK (qS (qS (qR ?_)))
  refine qe (Z1 rfl rfl rfl) ?_
  refine qL 0 Z9 ?_
  refine qN (qB (qS (qR ?_)))
  refine qe eI ?_
  refine qA (qN ?_)
  refine Z2 rfl ?_ ?_
  ·intro hc
   have q1 : t.kind = 1 := by simpa using hc
   refine qS (qR (qA (qN (qE ?_))))
   exact Z0x rfl (Z6 rfl Z4) (gs (by unfold textT text0; rw [if_pos hr, if_neg (by omega), if_pos q1]))
  ·intro hc
   have q1 : ¬ t.kind = 1 := by simpa using hc
   refine qS (qR ?_)
   refine qe eI ?_
   refine qA (qN ?_)
   refine Z2 rfl ?_ ?_
   ·intro hc
    have q2 : t.kind = 2 := by simpa using hc
    refine qS (qR (qA (qN (qE ?_))))
    exact Z0x rfl (Z6 rfl Z4) (gs (by unfold textT text0; rw [if_pos hr, if_neg (by omega), if_neg q1, if_pos q2]))
   ·intro hc
    have q2 : ¬ t.kind = 2 := by simpa using hc
    refine qS (qR ?_)
    refine qe eI ?_
    refine qA (qN ?_)
    refine Z2 rfl ?_ ?_
    ·intro hc
     have q3 : t.kind = 3 := by simpa using hc
     refine qS (qR ?_)
     refine qe (Z1 rfl rfl rfl) ?_
     refine qL 0 Z9 ?_
     refine qe (Z1f rfl rfl rfl (by have k0 : ByteArray.size ⟨#[]⟩ = 0 := rfl; have k1 : ByteArray.size ⟨#[59]⟩ = 1 := rfl; have k2 : ByteArray.size ⟨#[73]⟩ = 1 := rfl; have k3 : ByteArray.size ⟨#[76]⟩ = 1 := rfl; have k4 : ByteArray.size ⟨#[86]⟩ = 1 := rfl; have k5 : ByteArray.size ⟨#[91]⟩ = 1 := rfl; (try simp only [ByteArray.size_append, small] at *) <;> omega)) ?_
     refine qe (Z1f rfl rfl rfl (by have k0 : ByteArray.size ⟨#[]⟩ = 0 := rfl; have k1 : ByteArray.size ⟨#[59]⟩ = 1 := rfl; have k2 : ByteArray.size ⟨#[73]⟩ = 1 := rfl; have k3 : ByteArray.size ⟨#[76]⟩ = 1 := rfl; have k4 : ByteArray.size ⟨#[86]⟩ = 1 := rfl; have k5 : ByteArray.size ⟨#[91]⟩ = 1 := rfl; (try simp only [ByteArray.size_append, small] at *) <;> omega)) ?_
     refine qA (qN (qE ?_))
     exact Z0x rfl (Z6 rfl Z4) (gs (by unfold textT text0; rw [if_pos hr, if_neg (by omega), if_neg q1, if_neg q2]))
    ·intro hc
     have q3 : ¬ t.kind = 3 := by simpa using hc
     refine qK (qS (qR ?_))
     refine qL 0 (Z01 (Nat.le_of_ble_eq_true rfl)) ?_
     refine qe (Z8 [] rfl rfl rfl (Zdo t) List.nodup_nil) ?_
     refine qe (Z8 [] rfl rfl rfl (Ze3 (elemT t) (Zea hs) (Zdb (Z8c hr q1 q2 q3))) List.nodup_nil) ?_
     refine qe (Z1f rfl rfl rfl (by have k0 : ByteArray.size ⟨#[]⟩ = 0 := rfl; have k1 : ByteArray.size ⟨#[59]⟩ = 1 := rfl; have k2 : ByteArray.size ⟨#[73]⟩ = 1 := rfl; have k3 : ByteArray.size ⟨#[76]⟩ = 1 := rfl; have k4 : ByteArray.size ⟨#[86]⟩ = 1 := rfl; have k5 : ByteArray.size ⟨#[91]⟩ = 1 := rfl; (try simp only [ByteArray.size_append, small] at *) <;> omega)) ?_
     refine qA (qN (qE ?_))
     exact Z0x rfl (Z6 rfl Z4) (gs (by have h45 := Z8c hr q1 q2 q3; unfold textT; rw [if_pos hr, if_pos h45, if_pos (Z9o hr h45), if_neg (Zdb h45)]))
theorem Z7r (p : Str) (hs : small p.size) : ACalls Tryz.prog 138 [sA p] [] (Gives (bA (globR p))) := by
 simp only [small] at hs
 refine Zc (n := 27) Tryz.func138 rfl (by decide +kernel) rfl rfl ?_
 refine qS (qR (qA (qN (qS (qS (qR (qM ?_)))))))
 refine qe (Zx rfl rfl rfl rfl) ?_
 refine qM (qN (qB ?_))
 refine Zk (α := Nat) (fun i => ⟨[(6, iA i), (5, iA p.size), (0, sA p)], [], [], 27⟩) (fun i => i ≤ p.size ∧ ∀ k, k < i → seenG p k = true) (fun i => p.size - i) 0 ⟨Nat.zero_le _, fun k h => by omega⟩ ?_ ?_
 ·exact Zg [] ⟨rfl, rfl, rfl, trivial⟩ rfl (by decide) rfl rfl
 rintro i hJ
 refine qS (qR ?_)
 refine qe eI ?_
 refine qN (qS ?_)
 refine Z2 rfl ?_ ?_
 ·intro hc
  have hi : i < p.size := by simpa using hc
  refine qK (qS (qB (qS (qR (qM (qA (qN (qS (qR (qM (qM ?_)))))))))))
  refine qe (Z1e rfl rfl rfl (by first | omega | (simp only [List.length_map]; omega) | (simp only [List.length_map, List.length_drop]; omega)) (by first | omega | (simp only [List.length_map]; omega) | (simp only [List.length_map, List.length_drop]; omega))) ?_
  refine qe eI ?_
  refine qM (qFM (qFM ?_))
  refine Zv (wF rfl rfl rfl rfl) rfl (fun hg => (Z1e rfl (Zd hg rfl) (Zd hg rfl) (by (try simp at hg) <;> first | omega | (simp only [List.length_map]; omega) | (simp only [List.length_map, List.length_drop]; omega)) (by (try simp at hg) <;> first | omega | (simp only [List.length_map]; omega) | (simp only [List.length_map, List.length_drop]; omega)))) ?_
  refine Zv (wF rfl rfl rfl rfl) rfl (fun hg => (Zr rfl (Zd hg rfl) rfl rfl)) ?_
  refine qe (Z27 rfl rfl rfl (fun h => by rw [h]; rfl)) ?_
  refine qN ?_
  refine Z2 rfl ?_ ?_
  ·intro hc
   have hq : seenG p i = false := by unfold seenG; rcases orT hc with h | h; simp at h; simp; omega; simp at h; simp; omega
   refine qS (qR (qA (qN (qE ?_))))
   exact Z0x rfl (Z6 rfl Z4) (gb (by unfold globR; rw [Z9x hi hq]; rfl))
  ·intro hc
   have hq : seenG p i = true := by unfold seenG; have h := orF hc; simp at h; simp; omega
   refine qK (qR ?_)
   refine qe (Zb rfl rfl rfl (Zp (by first | omega | (simp only [List.length_map]; omega)))) ?_
   refine qM (qN ?_)
   refine ⟨i + 1, ⟨hi, fun k h => by rcases Nat.lt_succ_iff_lt_or_eq.1 h with h | h; exact hJ.2 k h; rw [h]; exact hq⟩, (by omega), ?_⟩
   exact qp [] ⟨rfl, rfl, rfl, trivial⟩
 ·intro hc
  have hi : ¬ i < p.size := by simpa using hc
  refine qX (qS (qR (qM ?_)))
  refine qe (Z1j rfl rfl rfl rfl) ?_
  refine qM (qTM ?_)
  refine Zv (wT rfl rfl rfl rfl) rfl (fun hg => (Zx rfl (Zd hg rfl) rfl rfl)) ?_
  refine Zv (wT rfl rfl rfl rfl) rfl (fun hg => (Zr rfl (Zd hg rfl) rfl rfl)) ?_
  refine qe (Zs rfl rfl rfl (fun h => h)) ?_
  refine qA (qN (qE ?_))
  exact Z0x rfl (Z6 rfl Z4) (gb (by unfold globR; rw [Z7k fun k hk => hJ.2 k (by omega), Bool.true_and, show decide ((p.size : Int) ≤ 64) = decide (p.size ≤ 64) by simp only [decide_eq_decide]; omega]; rfl))
theorem Z64 (p s : Str) (hp : small p.size) (hs : s.size ≤ 200000000000000) : ACalls Tryz.prog 119 [sA p, sA s] [] (Gives (bA (globM p s))) := by
 simp only [small] at hp
 refine Zc (n := 76) Tryz.func119 rfl (by decide +kernel) rfl rfl ?_
 refine qS (qR (qA (qN (qS (qR (qA (qA (qA (qN (qS (qS (qR (qA (qN ?_))))))))))))))
 refine qB ?_
 refine Zk (α := GSt) (fun x => ⟨[(5, iA x.i), (6, iA ((x.t : Int) - 1)), (7, iA x.b), (8, iA x.k), (0, sA p), (1, sA s)], [], [], 76⟩) (fun x => GJ p s x) (fun x => gmu p s x) ⟨0, 0, 0, 0⟩ (GJ.start p s) ?_ ?_
 ·exact Zg [] ⟨rfl, rfl, rfl, rfl, rfl, rfl, trivial⟩ rfl (by decide) rfl rfl
 rintro x hJ
 have o1 := hJ.ok.i
 have o2 := hJ.ok.t
 have o3 := hJ.ok.b
 have o4 := hJ.ok.k
 refine qS (qS (qR (qM (qM ?_))))
 refine qe (Zx rfl rfl rfl rfl) ?_
 refine qe eI ?_
 refine qN ?_
 refine Z2 rfl ?_ ?_
 ·intro hc
  have hk : x.k < s.size := by simpa using hc
  refine qK (qB (qB (qS (qR (qM (qM ?_))))))
  refine qe (Zx rfl rfl rfl rfl) ?_
  refine qe eI ?_
  refine qM (qTM (qTM ?_))
  refine Zv (wT rfl rfl rfl rfl) rfl (fun hg => (Z1e rfl (Zd hg rfl) (Zd hg rfl) (by (try simp at hg) <;> first | omega | (simp only [List.length_map]; omega) | (simp only [List.length_map, List.length_drop]; omega)) (by (try simp at hg) <;> first | omega | (simp only [List.length_map]; omega) | (simp only [List.length_map, List.length_drop]; omega)))) ?_
  refine Zv (wT rfl rfl rfl rfl) rfl (fun hg => (Zr rfl (Zd hg rfl) rfl rfl)) ?_
  refine qe (Zs rfl rfl rfl (fun h => h)) ?_
  refine qA (qN ?_)
  refine Z2 rfl ?_ ?_
  ·intro hc
   have h0 : x.i < p.size ∧ byteAt p x.i = 42 := ⟨by have := Z23 hc; simpa using this, by have := Z24 hc; simpa using this⟩
   refine qS (qR (qM (qM (qA (qA (qN (qR (qM ?_))))))))
   refine qe (Zb rfl rfl rfl (Zp (by first | omega | (simp only [List.length_map]; omega)))) ?_
   refine qA (qN ?_)
   refine ⟨⟨x.i + 1, x.i + 1, x.k, x.k⟩, (hJ.star hk h0.1 h0.2), (Z6d hJ.ok hk h0.1), ?_⟩
   exact qp [] ⟨rfl, (congrArg (fun n => some (iA n)) (by (try simp only) <;> omega)), rfl, rfl, rfl, rfl, trivial⟩
  ·intro hc
   have h0 : ¬ (x.i < p.size ∧ byteAt p x.i = 42) := fun h => by simp [h.1, h.2] at hc
   refine qS ?_
   refine Zq [0, 0, 2, 7, 15, 31, 31, 127, 255, 511, 1023, 1023, 4095, 1023, 1023, 25599, 65535, 131071, 262143, 524287] 20 rfl (by kernel_rfl) ?_
   refine cM2 (cM2 ?_)
   refine ce (Zx rfl rfl rfl rfl) ?_
   refine ce eI ?_
   refine cM2 (cTM (cTM ?_))
   refine Z7 (wT rfl rfl rfl rfl) rfl (fun hg => (Z1e rfl (Zd hg rfl) (Zd hg rfl) (by (try simp at hg) <;> first | omega | (simp only [List.length_map]; omega) | (simp only [List.length_map, List.length_drop]; omega)) (by (try simp at hg) <;> first | omega | (simp only [List.length_map]; omega) | (simp only [List.length_map, List.length_drop]; omega)))) ?_
   refine Z7 (wT rfl rfl rfl rfl) rfl (fun hg => (Zr rfl (Zd hg rfl) rfl rfl)) ?_
   refine Z7 (wT rfl rfl rfl rfl) rfl (fun hg => (Z0d rfl (Zd hg rfl))) ?_
   refine Z7 (wFg rfl rfl rfl rfl) rfl (fun hg => (Z0d rfl rfl)) ?_
   refine Z7 (wFg rfl rfl rfl rfl) rfl (fun hg => (Z0d rfl rfl)) ?_
   refine Z7 (wFg rfl rfl rfl rfl) rfl (fun hg => (Z1e rfl (Zd hg rfl) (Zd hg rfl) (by (try simp at hg) <;> first | omega | (simp only [List.length_map]; omega) | (simp only [List.length_map, List.length_drop]; omega)) (by (try simp at hg) <;> first | omega | (simp only [List.length_map]; omega) | (simp only [List.length_map, List.length_drop]; omega)))) ?_
   refine Z7 (wFg rfl rfl rfl rfl) rfl (fun hg => (Z0d rfl rfl)) ?_
   refine Z7 (wFg rfl rfl rfl rfl) rfl (fun hg => (Z0d rfl rfl)) ?_
   refine Z7 (wFg rfl rfl rfl rfl) rfl (fun hg => (Z1e rfl (Zd hg rfl) (Zd hg rfl) (by (try simp at hg) <;> first | omega | (simp only [List.length_map]; omega) | (simp only [List.length_map, List.length_drop]; omega)) (by (try simp at hg) <;> first | omega | (simp only [List.length_map]; omega) | (simp only [List.length_map, List.length_drop]; omega)))) ?_
   refine Z7 (wFg rfl rfl rfl rfl) rfl (fun hg => (Zr rfl (Zd hg rfl) (Zd hg rfl) rfl)) ?_
   refine Z7 (wT rfl rfl rfl rfl) rfl (fun hg => (Z27 rfl (Zd hg rfl) rfl (fun h => by first | (simp [h, hg]; done) | (rw [hg, h]; rfl) | (simp_all; done)))) ?_
   refine ce (Zs rfl rfl rfl (fun h => h)) ?_
   refine ce (Z0z rfl rfl) ?_
   refine .done (qN ?_)
   refine Z2 rfl ?_ ?_
   ·intro hc
    have hb : x.i < p.size ∧ (byteAt p x.i = 63 ∨ byteAt p x.i = byteAt s x.k) := ⟨by have := Z23 hc; simpa using this, by have := Z24 hc; simpa using this⟩
    refine qS (qR (qM ?_))
    refine qe (Zb rfl rfl rfl (Zp (by first | omega | (simp only [List.length_map]; omega)))) ?_
    refine qA (qN (qR (qM ?_)))
    refine qe (Zb rfl rfl rfl (Zp (by first | omega | (simp only [List.length_map]; omega)))) ?_
    refine qA (qN ?_)
    refine ⟨⟨x.i + 1, x.t, x.b, x.k + 1⟩, (hJ.byte hk hb.1 (fun h => h0 ⟨hb.1, h⟩) hb.2), (Z6c hJ.ok hk hb.1), ?_⟩
    exact qp [] ⟨rfl, rfl, rfl, rfl, rfl, rfl, trivial⟩
   ·intro hc
    have hb : ¬ (x.i < p.size ∧ (byteAt p x.i = 63 ∨ byteAt p x.i = byteAt s x.k)) := fun h => by rcases h.2 with h2 | h2 <;> simp [h.1, h2] at hc
    refine qS (qR (qM ?_))
    refine qe eI ?_
    refine qA (qN ?_)
    refine Z2 rfl ?_ ?_
    ·intro hc
     have ht : 0 < x.t := by simp at hc; omega
     refine qS (qR (qM ?_))
     refine qe (Zb rfl rfl rfl (Zp (by first | omega | (simp only [List.length_map]; omega)))) ?_
     refine qA (qN (qR (qM ?_)))
     refine qe (Zb rfl rfl rfl (Zp (by first | omega | (simp only [List.length_map]; omega)))) ?_
     refine qM (qA (qA (qN ?_)))
     refine ⟨⟨x.t, x.t, x.b + 1, x.b + 1⟩, (hJ.back hk h0 hb ht), (Z6b hJ.ok hk), ?_⟩
     exact qp [] ⟨(congrArg (fun n => some (iA n)) (by (try simp only) <;> omega)), rfl, rfl, rfl, rfl, rfl, trivial⟩
    ·intro hc
     have ht : ¬ 0 < x.t := by simp at hc; omega
     refine qS (qR (qA (qN (qE ?_))))
     exact Z0x rfl (Z6 rfl Z4) (gb (hJ.no hk h0 hb ht).symm)
 ·intro hc
  have hk : ¬ x.k < s.size := by simpa using hc
  refine qX (qS (qB ?_))
  refine Zk (α := Nat) (fun i => ⟨[(5, iA i), (0, sA p)], [], [], 76⟩) (fun i => i ≤ p.size ∧ allStar p i = globM p s) (fun i => p.size - i) x.i ⟨o1, (hJ.fin hk).symm⟩ ?_ ?_
  ·exact Zg [] ⟨rfl, rfl, trivial⟩ rfl (by decide) rfl rfl
  rintro i hJ2
  refine qS (qS (qR (qM (qM ?_))))
  refine qe (Zx rfl rfl rfl rfl) ?_
  refine qe eI ?_
  refine qM (qTM (qTM ?_))
  refine Zv (wT rfl rfl rfl rfl) rfl (fun hg => (Z1e rfl (Zd hg rfl) (Zd hg rfl) (by (try simp at hg) <;> first | omega | (simp only [List.length_map]; omega) | (simp only [List.length_map, List.length_drop]; omega)) (by (try simp at hg) <;> first | omega | (simp only [List.length_map]; omega) | (simp only [List.length_map, List.length_drop]; omega)))) ?_
  refine Zv (wT rfl rfl rfl rfl) rfl (fun hg => (Zr rfl (Zd hg rfl) rfl rfl)) ?_
  refine qe (Zs rfl rfl rfl (fun h => h)) ?_
  refine qN ?_
  refine Z2 rfl ?_ ?_
  ·intro hc
   have h2 : i < p.size ∧ byteAt p i = 42 := ⟨by have := Z23 hc; simpa using this, by have := Z24 hc; simpa using this⟩
   refine qK (qB (qR (qM ?_)))
   refine qe (Zb rfl rfl rfl (Zp (by first | omega | (simp only [List.length_map]; omega)))) ?_
   refine qA (qN ?_)
   refine ⟨i + 1, ⟨h2.1, by rw [Z6q h2.1 h2.2]; exact hJ2.2⟩, (by omega), ?_⟩
   exact qp [] ⟨rfl, rfl, trivial⟩
  ·intro hc
   have h2 : ¬ (i < p.size ∧ byteAt p i = 42) := fun h => by simp [h.1, h.2] at hc
   refine qX (qS (qR (qM (qM ?_))))
   refine qe (Zx rfl rfl rfl rfl) ?_
   refine qe eI ?_
   refine qA (qN (qE ?_))
   exact Z0x rfl (Z6 rfl Z4) (gb (by rw [← hJ2.2]; by_cases hi : i < p.size; rw [Z96 hi (fun h => h2 ⟨hi, h⟩)]; simp; omega; rw [Z7j hi]; simp; omega))
theorem Zag (r : Rule) (hr : r.ok) : ACalls Tryz.prog 118 [r.av] [] (Gives (bA (ruleR r))) := by
 refine Zc (n := 25) Tryz.func118 rfl (by decide +kernel) rfl rfl ?_
 refine qS (qR ?_)
 refine Z02 (w0 rfl) rfl (fun id => Z0b id rfl rfl rfl rfl rfl) (fun id1 => ?_)
 refine qA (qN (qS (qS (qR ?_))))
 refine qe (Z1 rfl rfl rfl) ?_
 refine qL 0 Z9 ?_
 refine qe (Z8 [] rfl rfl rfl (Z7r r.cls hr.cls) List.nodup_nil) ?_
 refine qe (Z04 rfl rfl) ?_
 refine qN ?_
 refine Z2 rfl ?_ ?_
 ·intro hc
  have h1 : globR r.cls = false := Z1z hc
  refine qS (qR (qA (qN (qE ?_))))
  exact Z0x rfl (Z6 rfl Z4) (gb (by unfold ruleR; rw [h1]; rfl))
 ·intro hc
  have h1 : globR r.cls = true := Z2l hc
  refine qK (qS (qS (qR ?_)))
  refine qe (Z1 rfl rfl rfl) ?_
  refine qL 0 Z9 ?_
  refine qe (Z04 rfl rfl) ?_
  refine qN ?_
  refine Z2 rfl ?_ ?_
  ·intro hc
   have h2 : r.member = false := Z1z hc
   refine qS (qR ?_)
   refine qL 0 (Z01 (Nat.le_of_ble_eq_true rfl)) ?_
   refine qe (Z1 rfl rfl rfl) ?_
   refine qL 0 Z9 ?_
   refine qe (Z1 rfl rfl rfl) ?_
   refine qL 0 Z9 ?_
   refine qe (Z0r rfl rfl rfl) ?_
   refine qe (Z39 rfl rfl rfl rfl rfl) ?_
   refine qA (qN (qE ?_))
   exact Z0x rfl (Z6 rfl Z4) (gb (by unfold ruleR; rw [h1, h2, if_neg (by simp), Bool.true_and]; show ((r.names == r.names) && ((r.member == false) && (beqS r.cls r.cls && (beqS r.name zS && beqS r.desc zS)))) = _; rw [h2, Z6t]; simp))
  ·intro hc
   have h2 : r.member = true := Z2l hc
   refine qK (qS (qR ?_))
   refine qe (Z1 rfl rfl rfl) ?_
   refine qL 0 Z9 ?_
   refine qe (Z8 [] rfl rfl rfl (Z7r r.name hr.name) List.nodup_nil) ?_
   refine qM ?_
   refine Zv (wT rfl rfl rfl rfl) rfl (fun hg => (Z1 rfl rfl rfl)) ?_
   refine Z00 0 (wT rfl rfl rfl rfl) rfl rfl (fun hg => (Zd hg rfl)) rfl rfl Z9 ?_
   refine Zv (wT rfl rfl rfl rfl) rfl (fun hg => (Z8 [] rfl rfl (Ze (Zd hg rfl) Z05) (Z7r r.desc hr.desc) List.nodup_nil)) ?_
   refine qe (Zs rfl rfl rfl (fun h => h)) ?_
   refine qA (qN (qE ?_))
   exact Z0x rfl (Z6 rfl Z4) (gb (by unfold ruleR; rw [h1, h2, if_pos rfl, Bool.true_and]))
theorem Zeq (r : Rule) (hr : r.ok) (c : Str) (hc0 : small c.size) : ACalls Tryz.prog 89 [r.av, sA c] [] (Gives (bA (clsR r c))) := by
 refine Zc (n := 18) Tryz.func89 rfl (by decide +kernel) rfl rfl ?_
 refine qS (qR ?_)
 refine Z02 (w0 rfl) rfl (fun id => Z0b id rfl rfl rfl rfl rfl) (fun id1 => ?_)
 refine qA (qN (qS (qR ?_)))
 refine qe (Z1 rfl rfl rfl) ?_
 refine qL 0 Z9 ?_
 refine qe (Z04 rfl rfl) ?_
 refine qM ?_
 refine Z00 0 (wT rfl rfl rfl rfl) rfl rfl (fun hg => rfl) rfl rfl (Z01 (Nat.le_of_ble_eq_true rfl)) ?_
 refine Zv (wT rfl rfl rfl rfl) rfl (fun hg => (Z8 [] rfl rfl (Ze (Zd hg rfl) Z05) (Zag r hr) List.nodup_nil)) ?_
 refine qe (Zs rfl rfl rfl (fun h => h)) ?_
 refine qM ?_
 refine Zv (wT rfl rfl rfl rfl) rfl (fun hg => (Z1 rfl rfl rfl)) ?_
 refine Z00 0 (wT rfl rfl rfl rfl) rfl rfl (fun hg => (Zd hg rfl)) rfl rfl Z9 ?_
 refine qTM ?_
 refine Zv (wT rfl rfl rfl rfl) rfl (fun hg => (Z8 [] rfl rfl (Ze (Zd hg rfl) (Ze (Zd hg rfl) Z05)) (Z64 r.cls c hr.cls (by unfold small at hc0; omega)) List.nodup_nil)) ?_
 refine qe (Zs rfl rfl rfl (fun h => h)) ?_
 refine qA (qN (qE ?_))
 exact Z0x rfl (Z6 rfl Z4) (gb rfl)
theorem Zd5 (r : Rule) (hr : r.ok) (c n d : Str) (hc0 : small c.size) (hn : small n.size) (hd : d.size ≤ 200000000000000) : ACalls Tryz.prog 121 [r.av, sA c, sA n, sA d] [] (Gives (bA (memR r c n d))) := by
 refine Zc (n := 37) Tryz.func121 rfl (by decide +kernel) rfl rfl ?_
 refine qS (qR ?_)
 refine Z02 (w0 rfl) rfl (fun id => Z0b id rfl rfl rfl rfl rfl) (fun id1 => ?_)
 refine qA (qN (qS (qS (qR ?_))))
 refine qe (Z1 rfl rfl rfl) ?_
 refine qL 0 Z9 ?_
 refine qe (Z04 rfl rfl) ?_
 refine qM ?_
 refine Z00 0 (wF rfl rfl rfl rfl) rfl rfl (fun hg => rfl) rfl rfl (Z01 (Nat.le_of_ble_eq_true rfl)) ?_
 refine Zv (wF rfl rfl rfl rfl) rfl (fun hg => (Z8 [] rfl rfl (Ze (Zd hg rfl) Z05) (Zag r hr) List.nodup_nil)) ?_
 refine Zv (wF rfl rfl rfl rfl) rfl (fun hg => (Z04 rfl (Zd hg rfl))) ?_
 refine qe (Z27 rfl rfl rfl (fun h => by rw [h]; rfl)) ?_
 refine qM (qFM ?_)
 refine Zv (wF rfl rfl rfl rfl) rfl (fun hg => (Z1j rfl (Zd hg rfl) rfl rfl)) ?_
 refine qe (Z27 rfl rfl rfl (fun h => by rw [h]; rfl)) ?_
 refine qN ?_
 refine Z2 rfl ?_ ?_
 ·intro hc
  have h1 : ((r.member && ruleR r) && !beqS n nInit') = false := by have h : ((!r.member || !ruleR r) || beqS n nInit') = true := hc; revert h; cases r.member <;> cases ruleR r <;> cases beqS n nInit' <;> simp
  refine qS (qR (qA (qN (qE ?_))))
  exact Z0x rfl (Z6 rfl Z4) (gb (by unfold memR; rw [h1]; rfl))
 ·intro hc
  have h1 : ((r.member && ruleR r) && !beqS n nInit') = true := by have h : ((!r.member || !ruleR r) || beqS n nInit') = false := hc; revert h; cases r.member <;> cases ruleR r <;> cases beqS n nInit' <;> simp
  refine qK (qS (qR ?_))
  refine qe (Z1 rfl rfl rfl) ?_
  refine qL 0 Z9 ?_
  refine qM ?_
  refine qe (Z8 [] rfl rfl rfl (Z64 r.cls c hr.cls (by unfold small at hc0; omega)) List.nodup_nil) ?_
  refine qM ?_
  refine Zv (wT rfl rfl rfl rfl) rfl (fun hg => (Z1 rfl rfl rfl)) ?_
  refine Z00 0 (wT rfl rfl rfl rfl) rfl rfl (fun hg => (Zd hg rfl)) rfl rfl Z9 ?_
  refine qTM ?_
  refine Zv (wT rfl rfl rfl rfl) rfl (fun hg => (Z8 [] rfl rfl (Ze (Zd hg rfl) (Ze (Zd hg rfl) Z05)) (Z64 r.name n hr.name (by unfold small at hn; omega)) List.nodup_nil)) ?_
  refine qe (Zs rfl rfl rfl (fun h => h)) ?_
  refine qM ?_
  refine Zv (wT rfl rfl rfl rfl) rfl (fun hg => (Z1 rfl rfl rfl)) ?_
  refine Z00 0 (wT rfl rfl rfl rfl) rfl rfl (fun hg => (Zd hg rfl)) rfl rfl Z9 ?_
  refine qTM ?_
  refine Zv (wT rfl rfl rfl rfl) rfl (fun hg => (Z8 [] rfl rfl (Ze (Zd hg rfl) (Ze (Zd hg rfl) Z05)) (Z64 r.desc d hr.desc hd) List.nodup_nil)) ?_
  refine qe (Zs rfl rfl rfl (fun h => h)) ?_
  refine qA (qN (qE ?_))
  exact Z0x rfl (Z6 rfl Z4) (gb (by unfold memR; rw [h1, Bool.true_and]))
theorem Zc3 (c : Str) (b : Bool) : ACalls Tryz.prog 33 [sA c, bA b] [] (Gives (Rule.av ⟨b, false, c, zS, zS⟩)) := by
 refine Zc (n := 8) Tryz.func33 rfl (by decide +kernel) rfl rfl ?_
 refine qS (qR ?_)
 refine Z02 (w0 rfl) rfl (fun id => Z0e id rfl rfl rfl) (fun id1 => ?_)
 refine qN (qS (qR (qM (qM ?_))))
 refine qe (Z0r rfl rfl rfl) ?_
 refine Z06 0 (w0 rfl) rfl rfl rfl rfl rfl rfl rfl rfl rfl ?_
 refine qN (qE ?_)
 exact Z0x rfl (Z1t 0 rfl rfl rfl (Z01 (Nat.le_of_ble_eq_true rfl)) Z4) (gvr rfl)
theorem Z8o (c n d : Str) (b : Bool) : ACalls Tryz.prog 36 [sA c, sA n, sA d, bA b] [] (Gives (Rule.av ⟨b, true, c, n, d⟩)) := by
 refine Zc (n := 14) Tryz.func36 rfl (by decide +kernel) rfl rfl ?_
 refine qS (qR ?_)
 refine Z02 (w0 rfl) rfl (fun id => Z0e id rfl rfl rfl) (fun id1 => ?_)
 refine qN (qS (qR (qM (qM (qM (qM ?_))))))
 refine qe (Z0r rfl rfl rfl) ?_
 refine Z06 0 (w0 rfl) rfl rfl rfl rfl rfl rfl rfl rfl rfl ?_
 refine qN (qE ?_)
 exact Z0x rfl (Z1t 0 rfl rfl rfl (Z01 (Nat.le_of_ble_eq_true rfl)) Z4) (gvr rfl)
end Go.Sx
namespace Go.Sx
open Go
variable {P : Program} {ro : Option Nat} {Q : Exit → St → Prop} {s : St} {ops : Array Oper} {o : Oper} {rest : List Oper} {T : List (Nat × AV)}
theorem Z5v {t e : TypeId} {p : Operand} [h : UD P t (.slice e)] (ho : o.op = .call { callee := .builtin .cap, args := #[p], argTypes := #[t] }) (hp : ev T p = some (.v (.slice none 0 0))) : Eff P o T [] (.v (.int .i64 0)) [] :=
 Z0w (by intro c; rw [ho]; nofun) fun C H a w hw hn hv => by
  have h2 := VR.val (hv p (by rw [ho]; simp [Op.operands, Call.operands]) _ hp)
  refine ⟨_, ?_, .v _⟩
  simp [execOp, ho, resolve, invoke, builtin, Builtin.cap_, h2, run_underlying (d := .slice e), goInt, Sem.run_bind, Result.andThen]
theorem Z71 {t e n : Nat} {b : Bool} {p q : Operand} {kd : IntKind} [h : UD P t (.slice e)] [k1 : TK P e b n] (ho : o.op = .slice t p none (some q) none)
  (hp : ev T p = some (.v (.slice none 0 0))) (hq : ev T q = some (.v (.int kd 0))) : Eff P o T [] (.v (.slice none 0 0)) [] :=
 Z0w (by intro c; rw [ho]; nofun) fun C H a w hw hn hv => by
  have h2 := VR.val (hv p (by rw [ho]; simp [Op.operands]) _ hp)
  have h3 := VR.val (hv q (by rw [ho]; simp [Op.operands]) _ hq)
  refine ⟨_, ?_, .v _⟩
  have hb : ∀ code, (Instr.sliceBound (.int kd 0) 0 code).run P w = .ok 0 w := fun code => Z46 rfl (by omega) (by omega) w
  simp [execOp, ho, h2, h3, Instr.sliceAt, Instr.slice, Instr.sliceBounds, run_underlying (d := .slice e), Z1g k1.tk, hb, Sem.run_bind, Result.andThen, Sem.run_pure]
theorem Z6p (zs : Array Value) (n j : Nat) (h : j < n * zs.size) : (Builtin.zeroCells zs n)[j]? = zs[j % zs.size]? := by
 unfold Builtin.zeroCells
 have hpos : 0 < zs.size := by rcases Nat.eq_zero_or_pos zs.size with h0 | h0; (rw [h0] at h; simp at h); exact h0
 have hm : j % zs.size < zs.size := Nat.mod_lt _ hpos
 simp [h, getElem!_pos, hm]
theorem Z6r {t ti e bytes n : Nat} {p q : Operand} {zv : Value} {kd : IntKind} [hu : UD P t (.slice e)] [hi' : UD P ti (.int kd)] [ha : AP P e 1 bytes] [hz' : ZC P e [zv]] (hw : Wanted ops s.T o true) (hd : dok o.dst s.n = true)
  (ho : o.op = .call { callee := .builtin .append, args := #[p, q], argTypes := #[t, ti] }) (hp : ev s.T p = some (.v (.slice none 0 0))) (hq : ev s.T q = some (.v (.int .i64 n))) (h0 : 0 < n)
  (hml : n * bytes ≤ 140737488355328) (hm : n ≤ maxLen) (hone : one (.v zv) = true)
  (h : ∀ id, AOps P ro ops rest Q { s with T := put s.T o.dst (.own id 1 0 n), H := (id, .rows e 1 (List.replicate n [.v zv])) :: s.H }) : AOps P ro ops (o :: rest) Q s := by
 refine Z1m hw ?_
 intro Z C0 H0 w0 C a w hx0 hs
 obtain ⟨i, z, hi, hz, hsz, hby, hzs, hpos⟩ := AP.open ha.ap
 have hpv := VR.val (hs.ev hp)
 have hqv := VR.val (hs.ev hq)
 have hz2 : z.cells = #[zv] := by
  have := hz'.zc
  unfold Program.zc at this
  rw [hi] at this
  simp only [hz, Option.map_some, Option.some.injEq] at this
  apply Array.ext'
  rw [this]
 have hm' : n ≤ 9223372036854775807 := hm
 have hw2 : IntKind.i64.wrap (n : Int) = n := Z1l (by omega)
 have hn0 : ((n : Int)).toNat = n := by omega
 have h00 : ¬ ((n : Int) < 0) := by omega
 have hne : n ≠ 0 := by omega
 have h63' : ¬ (9223372036854775807 < (n : Int)) := by omega
 have hb1 : ¬ (281474976710656 < (n : Int) * bytes) := by
  have : ((n * bytes : Nat) : Int) ≤ 140737488355328 := Int.ofNat_le.2 hml
  rw [Int.natCast_mul] at this; omega
 have h48' : ¬ (281474976710656 < Builtin.nextslicecap n 0 * bytes) := by rw [nextslicecap_zero h0]; omega
 have hcap := grownCap_ge w n 0 e
 have hcapm := grownCap_le_maxLen w n 0 e hm
 have hrun : (Builtin.append_ #[t, ti] o.type #[.slice none 0 0, .int .i64 n]).run P w =
   .ok (.slice (some ⟨w.heap.size, 0, none⟩) n (grownCap w n 0 e)) (w.drew.alloc (.cells (Builtin.zeroCells z.cells n ++ Builtin.zeroCells z.cells (grownCap w n 0 e - n)) e)) := by
  simp [Builtin.append_, Go.run_underlying hu.ud, Go.run_underlying hi'.ud, sizeOf, typeInfo, zeroValue, asInt, asIntOf, hi, hz, hsz, hby, hw2, hn0, h00, hb1, hne, h63', h48', Question.forced, run_firstCells_none, newRow, grownCap]
 obtain ⟨id, hid⟩ := Z74 (C.U ++ Z)
 rw [List.mem_append, not_or] at hid
 have e0 : (Builtin.zeroCells z.cells n ++ Builtin.zeroCells z.cells (grownCap w n 0 e - n)) = ([] ++ (Builtin.zeroCells z.cells n).toList ++ (Builtin.zeroCells z.cells (grownCap w n 0 e - n)).toList).toArray := by simp
 have hzl : (Builtin.zeroCells z.cells n).toList.length = n := by rw [Array.length_toList, size_zeroCells, hzs, Nat.mul_one]
 have hN : ([] ++ (Builtin.zeroCells z.cells n).toList ++ (Builtin.zeroCells z.cells (grownCap w n 0 e - n)).toList).length = grownCap w n 0 e := by
  rw [List.nil_append, List.length_append, hzl, Array.length_toList, size_zeroCells, hzs]; omega
 have hget : ∀ j, j < n → (Builtin.zeroCells z.cells n).toList[j]? = some zv := by
  intro j hj
  rw [Array.getElem?_toList, Z6p _ _ _ (by rw [hzs]; omega), hz2]
  simp [Nat.mod_one]
 obtain ⟨hw1, he1⟩ := Z78 (Z := Z) (N := grownCap w n 0 e) (id := id) (o := .cells (Builtin.zeroCells z.cells n ++ Builtin.zeroCells z.cells (grownCap w n 0 e - n)) e) (ob := .rows e 1 ([] ++ List.replicate n [.v zv]))
  (w := w.drew) (C := C) (H := s.H) ⟨hs.wr.hp, hs.wr.nd, fun i o hi => ⟨(hs.wr.ids i o hi).1, (hs.wr.ids i o hi).2.keep (.refl C) (hs.wr.ids i o hi).1 (fun _ _ _ => rfl)⟩, hs.wr.inj, hs.wr.dis⟩ hid.1 hid.2
  (Zdf (w := w.drew) (olds := []) (news := (Builtin.zeroCells z.cells n).toList) (Ctx.bind_m ..) (by rw [← e0]; exact heap_alloc_new _ _) hN nofun (by intro e he; rw [List.eq_of_mem_replicate he]; rfl) (by simp) (by rw [hzl]; simp) (by intro i e j cc h; simp at h)
   (fun i e' j cc h1 h2 => by
    have hlt := Z11 h1
    rw [List.length_replicate] at hlt
    have hl2 : e' = [.v zv] := List.eq_of_mem_replicate (List.mem_of_getElem? h1)
    subst hl2
    have hj := Z11 h2
    simp only [List.length_singleton] at hj
    have : j = 0 := by omega
    subst this
    simp at h2; subst h2
    exact ⟨zv, by rw [Nat.mul_one, Nat.add_zero]; exact hget i hlt, .v zv⟩) nofun (by
    intro u hu
    obtain ⟨j, hj⟩ := List.mem_iff_getElem?.1 hu
    have hlt := Z11 hj
    rw [hzl] at hlt
    rw [hget j hlt] at hj
    cases hj
    exact Z6i (C := C) (.v zv) hone))
 rw [List.nil_append] at hw1 he1
 have hr : (o.semAt ro a.eval).run P w = .ok (.value (.slice (some ⟨w.heap.size, 0, none⟩) n (grownCap w n 0 e))) (w.drew.alloc (.cells (Builtin.zeroCells z.cells n ++ Builtin.zeroCells z.cells (grownCap w n 0 e - n)) e)) := by
  rw [Oper.semAt_eq _ _ _ (by intro c; rw [ho]; nofun)]
  simp [execOp, ho, resolve, invoke, builtin, hpv, hqv, hrun, Result.andThen, Sem.run_bind]
 rw [hr]
 have hv : VR (C.bind id w.drew.heap.size (grownCap w n 0 e)) (.own id 1 0 n) (.slice (some ⟨w.heap.size, 0, none⟩) n (grownCap w n 0 e)) := by
  have := VR.own (C := C.bind id w.drew.heap.size (grownCap w n 0 e)) id 1 0 n w.heap.size (grownCap w n 0 e) (grownCap w n 0 e) (Ctx.bind_m ..) List.mem_cons_self (by simp) hcap hcapm
  simpa using this
 have he2 : Ext Z C s.H w (C.bind id w.drew.heap.size (grownCap w n 0 e)) ((id, .rows e 1 (List.replicate n [.v zv])) :: s.H) (w.drew.alloc (.cells (Builtin.zeroCells z.cells n ++ Builtin.zeroCells z.cells (grownCap w n 0 e - n)) e)) :=
  ⟨he1.le, he1.av, he1.os, he1.tape, he1.output, he1.size, he1.fr, he1.nhp, he1.nbl, he1.nid⟩
 exact ⟨_, _, h id, hs.put he2.le hw1 (Z1d hd) hv, hx0.trans he2⟩
end Go.Sx
namespace Go.Sx
open Go
def insW : List Str → Str → List Str
 | [], s => [s]
 | x :: r, s => if ltS s x then s :: x :: r else x :: insW r s
def withF (l : List Str) (s : Str) : List Str := if inL l s then l else insW l s
def insF (l : List Str) : List Str := l.foldl withF []
def wD (l : List Str) (s : Str) (i : Nat) : Bool := (l.take i).any (ltS s)
def wO (l : List Str) (s : Str) (i : Nat) : List Str := if wD l s i then insW (l.take i) s else l.take i
def mergeP (a b : List Str) : List Str × Int := if !rightL a || !rightL b then ([], 5) else makeP (a ++ b)
end Go.Sx
namespace Go.Sx
open Go Go.Proofs
theorem Zdr (n : Nat) (hn : n ≤ 1000000) : ACalls Tryz.prog 103 [.v (.slice none 0 0), iA n] [] (GP (fun q : Nat => .own q 1 0 0) (fun q => [(q, .rows 9 1 [])]) (fun _ => True)) := by
 refine Zc (n := 27) Tryz.func103 rfl (by decide +kernel) rfl rfl ?_
 refine qS (qR (qA (qN (qS (qS (qR (qM ?_)))))))
 refine qe eI ?_
 refine qN ?_
 refine Z2 rfl ?_ ?_
 ·intro hc
  exfalso; simp at hc; omega
 ·intro hc
  refine qK (qS (qS (qR (qM (qM ?_)))))
  refine qe (Z5v rfl rfl) ?_
  refine qM ?_
  refine qe (Zx rfl rfl rfl rfl) ?_
  refine qe (Zn (y := iA 0) (Zb rfl rfl rfl (Z0a (by first | omega | (simp only [List.length_map]; omega)))) (rfl)) ?_
  refine qe (Zn (y := iA n) (Zb rfl rfl rfl (Z0a (by first | omega | (simp only [List.length_map]; omega)))) (congrArg iA (by simp))) ?_
  refine qA (qN (qS (qR (qM ?_))))
  refine qe eI ?_
  refine qN ?_
  refine Z2 rfl ?_ ?_
  ·intro hc
   have hn0 : 0 < n := by simp at hc; omega
   refine qR (qM (qM ?_))
   refine qe (Z5v rfl rfl) ?_
   refine qe (Z71 rfl rfl rfl) ?_
   refine qM ?_
   refine Z6r (n := n) (w0 rfl) rfl rfl rfl rfl hn0 (by first | omega | (simp; omega) | (simp [maxLen]; omega) | (simp; done) | (simp [maxLen]; done)) (by first | omega | (simp; omega) | (simp [maxLen]; omega) | (simp; done) | (simp [maxLen]; done)) rfl (fun id1 => ?_)
   refine qM ?_
   refine qe (Zx rfl rfl rfl rfl) ?_
   refine qe (Z22 rfl rfl rfl (by first | omega | (simp only [List.length_map]; omega) | (simp only [List.length_map, List.length_drop]; omega)) (by first | omega | (simp only [List.length_map]; omega) | (simp only [List.length_map, List.length_drop]; omega))) ?_
   refine qA (qN (qS ?_))
   refine Z18 (Z8h (m := 0) 0 rfl) ?_
   refine qR (qM (qA (qN (qE ?_))))
   exact Za rfl (Z6 rfl Z4) (.cons_cons _ .slnil) (gp _ trivial rfl rfl)
  ·intro hc
   refine qK (qS (qR (qM ?_)))
   refine Z02 (w0 rfl) rfl (fun id => Z2j id 9 1 (.inl rfl) rfl) (fun id2 => ?_)
   refine qN (qE ?_)
   exact Za rfl (Z6 rfl Z4) (.cons_cons _ .slnil) (gp _ trivial rfl rfl)
theorem Z3b {ss : List (List Str)} {i : Nat} (h : i < ss.length) : (ss.take (i + 1)).flatten = (ss.take i).flatten ++ ss[i] := by rw [Z12 h, List.flatten_append]; simp
theorem Z4t {ss : List (List Str)} {i n : Nat} (h : ss.flatten.length ≤ n) : (ss.take i).flatten.length ≤ n := by
 have : ss.flatten = (ss.take i).flatten ++ (ss.drop i).flatten := by rw [← List.flatten_append, List.take_append_drop]
 rw [this, List.length_append] at h; omega
theorem Zbw (ss : List (List Str)) (hs : ss.length ≤ 1000) (hf : ss.flatten.length ≤ 100000) : ACalls Tryz.prog 57 [(.lst (ss.map fun l => [row1 sA l]))] [] (Gives (row1 sA ss.flatten)) := by
 refine Zc (n := 36) Tryz.func57 rfl (by decide +kernel) rfl rfl ?_
 refine qS (qR (qA (qN (qS (qR (qA (qN (qS (qS (qR (qM ?_)))))))))))
 refine qe (Zx rfl rfl rfl rfl) ?_
 refine qM (qN (qB ?_))
 refine Zk (α := Nat) (fun i => ⟨[(9, (.lst (ss.map fun l => [row1 sA l]))), (0, (.lst (ss.map fun l => [row1 sA l]))), (10, iA ss.length), (11, iA i), (3, iA (ss.take i).flatten.length)], [], [], 36⟩) (fun i => i ≤ ss.length) (fun i => ss.length - i) 0 (Nat.zero_le _) ?_ ?_
 ·exact Zg [] ⟨rfl, rfl, (by show some (iA _) = some (iA _); simp), rfl, rfl, trivial⟩ rfl (by decide) rfl rfl
 rintro i hJ
 have hb := Z4t (i := i) hf
 have hb1 := Z4t (i := i + 1) hf
 refine qS (qR ?_)
 refine qe eI ?_
 refine qN (qS ?_)
 refine Z2 rfl ?_ ?_
 ·intro hc
  have hi : i < ss.length := by simpa using hc
  rw [Z3b hi, List.length_append] at hb1
  refine qK (qS (qB (qS (qR ?_))))
  refine qe (Zh rfl rfl rfl (Z09 (fun _ => rfl)) (by first | omega | (simp only [List.length_map]; omega) | (simp only [List.length_map, List.length_drop]; omega)) (by first | omega | (simp only [List.length_map]; omega) | (simp only [List.length_map, List.length_drop]; omega))) ?_
  refine qe (Zn (y := row1 sA ss[i]) (Z03 rfl rfl (Z0h (by first | assumption | omega | (simp only [List.length_drop]; omega))) Z9) (rfl)) ?_
  refine qA (qN (qS (qR (qM (qM ?_)))))
  refine qe (Zx rfl rfl rfl rfl) ?_
  refine qe (Zb rfl rfl rfl (Zp (by first | omega | (simp only [List.length_map]; omega)))) ?_
  refine qA (qN (qS (qR (qM ?_))))
  refine qe eI ?_
  refine qN ?_
  refine Z2 rfl ?_ ?_
  ·intro hc
   exfalso; simp at hc; omega
  ·intro hc
   refine qK (qR ?_)
   refine qe (Zb rfl rfl rfl (Zp (by first | omega | (simp only [List.length_map]; omega)))) ?_
   refine qM (qN ?_)
   refine ⟨i + 1, hi, (by omega), ?_⟩
   exact qp [] ⟨rfl, rfl, rfl, rfl, (by show some (iA _) = some (iA _); rw [Z3b hi, List.length_append]; simp only [List.length_map]; rfl), trivial⟩
 ·intro hc
  have hi : ¬ i < ss.length := by simpa using hc
  refine qX (qS (qR (qM ?_)))
  refine Z3 [] _ (w0 rfl) rfl rfl rfl rfl (.refl _) (Zdr (ss.take i).flatten.length (by omega)) (fun v1 hv1 => ?_)
  refine qA (qN (qS (qS (qR (qM ?_)))))
  refine qe (Zx rfl rfl rfl rfl) ?_
  refine qM (qN (qB ?_))
  refine Zk (α := Nat × Nat) (fun x => ⟨[(25, (.lst (ss.map fun l => [row1 sA l]))), (26, iA ss.length), (27, iA x.2), (6, .own x.1 1 0 ((ss.take x.2).flatten).length)], [(x.1, .rows 9 1 (((ss.take x.2).flatten).map fun x => [sA x]))], [], 36⟩) (fun x => x.2 ≤ ss.length) (fun x => ss.length - x.2) (v1, 0) (Nat.zero_le _) ?_ ?_
  ·exact Zg [0] ⟨rfl, (by show some (iA _) = some (iA _); simp), rfl, rfl, trivial⟩ rfl (by decide) rfl rfl
  rintro x hJ
  have hb := Z4t (i := x.2) hf
  have hb1 := Z4t (i := x.2 + 1) hf
  refine qS (qR ?_)
  refine qe eI ?_
  refine qN (qS ?_)
  refine Z2 rfl ?_ ?_
  ·intro hc
   have hj : x.2 < ss.length := by simpa using hc
   rw [Z3b hj, List.length_append] at hb1
   refine qK (qS (qB (qS (qR ?_))))
   refine qe (Zh rfl rfl rfl (Z09 (fun _ => rfl)) (by first | omega | (simp only [List.length_map]; omega) | (simp only [List.length_map, List.length_drop]; omega)) (by first | omega | (simp only [List.length_map]; omega) | (simp only [List.length_map, List.length_drop]; omega))) ?_
   refine qe (Zn (y := row1 sA ss[x.2]) (Z03 rfl rfl (Z0h (by first | assumption | omega | (simp only [List.length_drop]; omega))) Z9) (rfl)) ?_
   refine qA (qN (qR (qM (qM ?_))))
   refine Z1c 0 (w0 rfl) rfl rfl rfl rfl (by rw [List.length_map]) rfl (⟨rfl, Z09 (fun _ => rfl)⟩ : SlA _ 1 (row1 sA ss[x.2]) _) (by simp only [List.length_map]; omega) (by simp only [List.length_map, maxLen]; omega) (fun id2 => ?_)
   refine qA (qN (qR ?_))
   refine qe (Zb rfl rfl rfl (Zp (by first | omega | (simp only [List.length_map]; omega)))) ?_
   refine qM (qN ?_)
   refine ⟨(id2, x.2 + 1), (by show x.2 + 1 ≤ _; omega), (by show ss.length - (x.2 + 1) < ss.length - x.2; omega), ?_⟩
   exact Zg [0] ⟨rfl, rfl, rfl, (by show some (AV.own _ _ _ _) = some (AV.own _ _ _ _); rw [Z3b hj, List.length_append, List.length_map]; first | done | rw [List.length_map]), trivial⟩ (by show some [(_, AObj.rows _ _ _)] = some [(_, AObj.rows _ _ _)]; rw [Z3b hj, List.map_append]) (by decide) rfl rfl
  ·intro hc
   have hj : ¬ x.2 < ss.length := by simpa using hc
   have ef : ((ss.take x.2).flatten) = ss.flatten := by rw [List.take_of_length_le (by omega)]
   refine qX (qS (qR (qM (qA (qN (qE ?_))))))
   exact Z6j 0 rfl rfl rfl rfl (by rw [List.length_map]) (by show row1 sA _ = AV.lst _; rw [ef]; rfl)
structure Ids where
 cl : Nat
 fd : Nat
 md : Nat
 cn : Nat
 fn : Nat
 mn : Nat
 lk : Nat
def gcells (p : Prog) (l : List Rule) (a : Ga) (i : Ids) : List AV := [.lst (p.classes.map Cls.cells), row1 sA p.names, sA p.entry.cls, sA p.entry.name, sA p.entry.desc, .lst (l.map Rule.cells), .own i.cl 1 0 a.cl.length, .own i.fd 2 0 a.fd.length, .own i.md 3 0 a.md.length, .own i.cn 1 0 a.cn.length, .own i.fn 1 0 a.fn.length, .own i.mn 1 0 a.mn.length, .own i.lk 1 0 a.lk.length]
structure Ga.bd (a : Ga) (n : Nat) : Prop where
 cl : a.cl.length ≤ n
 fd : a.fd.length ≤ n
 md : a.md.length ≤ n
 cn : a.cn.length ≤ n
 fn : a.fn.length ≤ n
 mn : a.mn.length ≤ n
 lk : a.lk.length ≤ n
theorem Ga.bd_app {a b : Ga} {n m : Nat} (h : a.bd n) (k : b.bd m) : (a.app b).bd (n + m) := by
 obtain ⟨h1, h2, h3, h4, h5, h6, h7⟩ := h
 obtain ⟨k1, k2, k3, k4, k5, k6, k7⟩ := k
 constructor <;> (unfold Ga.app; simp only [List.length_append]; omega)
theorem Ga.bd_le {a : Ga} {n m : Nat} (h : a.bd n) (k : n ≤ m) : a.bd m := ⟨Nat.le_trans h.cl k, Nat.le_trans h.fd k, Nat.le_trans h.md k, Nat.le_trans h.cn k, Nat.le_trans h.fn k, Nat.le_trans h.mn k, Nat.le_trans h.lk k⟩
theorem Z2p {α : Type} (b : Bool) (x : α) : (okB b x).length ≤ 1 := by unfold okB; split <;> simp
theorem Ga.bd_sum {α : Type} {f : α → Ga} {m : Nat} (h : ∀ x, (f x).bd m) : ∀ l : List α, (Ga.sum (l.map f)).bd (l.length * m)
 | [] => ⟨Nat.zero_le _, Nat.zero_le _, Nat.zero_le _, Nat.zero_le _, Nat.zero_le _, Nat.zero_le _, Nat.zero_le _⟩
 | x :: l => by
  have := Ga.bd_app (h x) (Ga.bd_sum h l)
  rw [List.length_cons, Nat.add_mul, Nat.one_mul, Nat.add_comm]
  exact this
theorem Zav (txt : Ty → Str) (p : Prog) (l : List Rule) (r : FRef) : (gaF txt p l r).bd 1 := ⟨Z2p _ _, Z2p _ _, Nat.zero_le _, Nat.zero_le _, Z2p _ _, Nat.zero_le _, Nat.zero_le _⟩
theorem Zdd (p : Prog) (l : List Rule) (r : MRef) : (gaM p l r).bd 1 := ⟨Z2p _ _, Nat.zero_le _, Z2p _ _, Nat.zero_le _, Nat.zero_le _, Z2p _ _, Z2p _ _⟩
theorem Zaw (l : List Rule) (c : Cls) : (gaK l c).bd 1 := ⟨Z2p _ _, Nat.zero_le _, Nat.zero_le _, Z2p _ _, Nat.zero_le _, Nat.zero_le _, Nat.zero_le _⟩
theorem Z3w {α : Type} {l : List α} {f : α → Bool} {i : Nat} (h : i < l.length) : (l.take (i + 1)).any f = ((l.take i).any f || f l[i]) := by rw [Z12 h, List.any_append]; simp
theorem Zac (l : List Rule) (hl : small l.length) (g : Nat) (caps : List AV) (Hc : AHeap) (f : Rule → Bool) (hg : ∀ r, r ∈ l → ACalls Tryz.prog g (r.av :: caps) Hc (GivesH (bA (f r)) Hc)) : ACalls Tryz.prog 87 [.lst (l.map Rule.cells), .fn (.func g) caps] Hc (GivesH (.tup [bA (anyR l f), bA (nmsR l f)]) Hc) := by
 simp only [small] at hl
 refine Zc (n := 25) Tryz.func87 rfl (by decide +kernel) rfl rfl ?_
 refine qS (qR (qA (qA (qN (qS (qS (qR (qM ?_))))))))
 refine qe (Zx rfl rfl rfl rfl) ?_
 refine qM (qN (qB ?_))
 refine Zk (α := Nat) (fun i => ⟨[(10, iA i), (9, iA l.length), (8, .lst (l.map Rule.cells)), (1, .fn (.func g) caps), (4, bA (anyR (l.take i) f)), (5, bA (nmsR (l.take i) f))], [] ++ Hc, [], 25⟩) (fun i => i ≤ l.length) (fun i => l.length - i) 0 (Nat.zero_le _) ?_ ?_
 ·exact Z1h (F := []) (F' := []) (Hj := Hc) [] ⟨rfl, (by show some (iA _) = some (iA _); simp), rfl, rfl, rfl, rfl, trivial⟩ rfl rfl rfl (by decide) rfl rfl
 rintro i hJ
 refine qS (qR ?_)
 refine qe eI ?_
 refine qN (qS ?_)
 refine Z2 rfl ?_ ?_
 ·intro hc
  have hi : i < l.length := by simpa using hc
  refine qK (qS (qB (qS (qR ?_))))
  refine qe (Zh rfl rfl rfl (Z09 (fun _ => rfl)) (by first | omega | (simp only [List.length_map]; omega) | (simp only [List.length_map, List.length_drop]; omega)) (by first | omega | (simp only [List.length_map]; omega) | (simp only [List.length_map, List.length_drop]; omega))) ?_
  refine qe (Z03 rfl rfl (Z0h (by first | assumption | omega | (simp only [List.length_drop]; omega))) (Z01 (Nat.le_of_ble_eq_true rfl))) ?_
  refine Z02 (w0 rfl) rfl (fun id => Z0e id rfl rfl rfl) (fun id1 => ?_)
  refine Z06 0 (w0 rfl) rfl rfl rfl rfl rfl rfl rfl rfl rfl ?_
  refine qN (qS (qR (qM ?_)))
  refine qL 0 (Zfj (y := Rule.av l[i]) (Z01 (Nat.le_of_ble_eq_true rfl)) (rfl)) ?_
  refine Z0v Hc [_] (w0 rfl) rfl rfl rfl rfl (List.perm_append_comm (l₁ := [_])) (hg _ (List.getElem_mem hi)) ?_
  refine qN ?_
  refine Z2 rfl ?_ ?_
  ·intro hc
   have hq : f l[i] = true := hc
   refine Z0l 6 rfl (by kernel_rfl) ?_
   refine cM2 (cM2 ?_)
   refine Z7 (wF rfl rfl rfl rfl) rfl (fun hg => (Z1 rfl rfl rfl)) ?_
   refine Z15 0 (wF rfl rfl rfl rfl) rfl rfl (fun hg => (Zd hg rfl)) rfl rfl Z9 ?_
   refine ce (Z27 rfl rfl rfl (fun h => by rw [h]; rfl)) ?_
   refine ce (Z0z rfl rfl) ?_
   refine .done (qA (qN (qR ?_)))
   refine qe (Zb rfl rfl rfl (Zp (by first | omega | (simp only [List.length_map]; omega)))) ?_
   refine qM (qN ?_)
   refine ⟨i + 1, hi, (by omega), ?_⟩
   exact Z1h (F := [_]) (F' := []) (Hj := Hc) [] ⟨rfl, rfl, rfl, rfl, (congrArg (fun b => some (bA b)) (by unfold anyR; rw [Z3w hi]; simp [hq])), (congrArg (fun b => some (bA b)) (by unfold nmsR; rw [Z3w hi]; simp [hq])), trivial⟩ rfl rfl rfl (by decide) rfl rfl
  ·intro hc
   have hq : f l[i] = false := hc
   refine qK (qR ?_)
   refine qe (Zb rfl rfl rfl (Zp (by first | omega | (simp only [List.length_map]; omega)))) ?_
   refine qM (qN ?_)
   refine ⟨i + 1, hi, (by omega), ?_⟩
   exact Z1h (F := [_]) (F' := []) (Hj := Hc) [] ⟨rfl, rfl, rfl, rfl, (congrArg (fun b => some (bA b)) (by unfold anyR; rw [Z3w hi]; simp [hq])), (congrArg (fun b => some (bA b)) (by unfold nmsR; rw [Z3w hi]; simp [hq])), trivial⟩ rfl rfl rfl (by decide) rfl rfl
 ·intro hc
  have hi : ¬ i < l.length := by simpa using hc
  refine qX (qS (qR (qM (qM (qA (qA (qN (qE ?_))))))))
  exact Za rfl (Z6 rfl (Z6 rfl Z4)) (.refl _) (gvH (by rw [List.take_of_length_le (by omega)]; rfl))
theorem Zdn (c : Cls) (hc0 : small c.name.size) (i1 : Nat) (r : Rule) (hr : r.ok) : ACalls Tryz.prog 88 [r.av, .ptr i1 7 0 0] [(i1, .rows 53 7 [c.cells])] (GivesH (bA (clsR r c.name)) [(i1, .rows 53 7 [c.cells])]) := by
 refine Zc (n := 8) Tryz.func88 rfl (by decide +kernel) rfl rfl ?_
 refine qS (qR ?_)
 refine Z02 (w0 rfl) rfl (fun id => Z0b id rfl rfl rfl rfl rfl) (fun id1 => ?_)
 refine qA (qN (qS (qR ?_)))
 refine qL 0 (Z01 (Nat.le_of_ble_eq_true rfl)) ?_
 refine qe (Z1 rfl rfl rfl) ?_
 refine qL 1 Z9 ?_
 refine qe (Z8 [] rfl rfl rfl (Zeq r hr c.name hc0) List.nodup_nil) ?_
 refine qA (qN (qE ?_))
 exact Za rfl (Z6 rfl Z4) (.cons _ (.refl _)) (gvH rfl)
theorem Za6 (b : Bool) (ref : FRef) (f : Fld) (h1 : small ref.cls.size) (h2 : small f.name.size) (h3 : small f.type.cls.size) (ib iq jf : Nat) (r : Rule) (hr : r.ok) : ACalls Tryz.prog 120 [r.av, .ptr ib 1 0 0, .ptr iq 2 0 0, .ptr jf 4 0 0] [(ib, .rows 4 1 [[bA b]]), (iq, .rows 46 2 [ref.cells]), (jf, .rows 70 4 [f.cells])] (GivesH (bA (b && memR r ref.cls f.name (textT f.type))) [(ib, .rows 4 1 [[bA b]]), (iq, .rows 46 2 [ref.cells]), (jf, .rows 70 4 [f.cells])]) := by
 have hx := Z6n f.type
 refine Zc (n := 18) Tryz.func120 rfl (by decide +kernel) rfl rfl ?_
 refine qS (qR ?_)
 refine Z02 (w0 rfl) rfl (fun id => Z0b id rfl rfl rfl rfl rfl) (fun id1 => ?_)
 refine qA (qN (qS ?_))
 refine Zq [0, 1, 3, 3, 11, 3, 35, 3, 131, 387, 1023, 2047, 4095] 13 rfl (by kernel_rfl) ?_
 refine Z5 1 (w0 rfl) rfl rfl rfl rfl rfl Z9 ?_
 refine cM2 ?_
 refine Z15 0 (wT rfl rfl rfl rfl) rfl rfl (fun hg => rfl) rfl rfl (Z01 (Nat.le_of_ble_eq_true rfl)) ?_
 refine Z7 (wT rfl rfl rfl rfl) rfl (fun hg => (Z1 rfl rfl rfl)) ?_
 refine Z15 2 (wT rfl rfl rfl rfl) rfl rfl (fun hg => (Zd hg rfl)) rfl rfl Z9 ?_
 refine Z7 (wT rfl rfl rfl rfl) rfl (fun hg => (Z1 rfl rfl rfl)) ?_
 refine Z15 3 (wT rfl rfl rfl rfl) rfl rfl (fun hg => (Zd hg rfl)) rfl rfl Z9 ?_
 refine Z7 (wT rfl rfl rfl rfl) rfl (fun hg => (Z1 rfl rfl rfl)) ?_
 refine Z15 3 (wT rfl rfl rfl rfl) rfl rfl (fun hg => (Zd hg rfl)) rfl rfl (Z01 (Nat.le_of_ble_eq_true rfl)) ?_
 refine Z7 (wT rfl rfl rfl rfl) rfl (fun hg => (Z8 [] rfl rfl (Ze (Zd hg rfl) Z05) (Zal f.type h3) List.nodup_nil)) ?_
 refine Z7 (wT rfl rfl rfl rfl) rfl (fun hg => (Z8 [] rfl rfl (Ze (Zd hg rfl) (Ze (Zd hg rfl) (Ze (Zd hg rfl) (Ze (Zd hg rfl) Z05)))) (Zd5 r hr ref.cls f.name (textT f.type) h1 h2 (by unfold small at h3; omega)) List.nodup_nil)) ?_
 refine ce (Zs rfl rfl rfl (fun h => h)) ?_
 refine ce (Z0z rfl rfl) ?_
 refine .done (qN (qE ?_))
 exact Za rfl (Z6 rfl Z4) (.cons _ (.refl _)) (gvH rfl)
theorem Za8 (b : Bool) (ref : MRef) (h1 : small ref.cls.size) (h2 : small ref.name.size) (h3 : small ref.desc.size) (ib iq : Nat) (r : Rule) (hr : r.ok) : ACalls Tryz.prog 123 [r.av, .ptr ib 1 0 0, .ptr iq 3 0 0] [(ib, .rows 4 1 [[bA b]]), (iq, .rows 25 3 [ref.cells])] (GivesH (bA (b && memR r ref.cls ref.name ref.desc)) [(ib, .rows 4 1 [[bA b]]), (iq, .rows 25 3 [ref.cells])]) := by
 refine Zc (n := 16) Tryz.func123 rfl (by decide +kernel) rfl rfl ?_
 refine qS (qR ?_)
 refine Z02 (w0 rfl) rfl (fun id => Z0b id rfl rfl rfl rfl rfl) (fun id1 => ?_)
 refine qA (qN (qS (qR ?_)))
 refine qL 1 Z9 ?_
 refine qM ?_
 refine Z00 0 (wT rfl rfl rfl rfl) rfl rfl (fun hg => rfl) rfl rfl (Z01 (Nat.le_of_ble_eq_true rfl)) ?_
 refine Zv (wT rfl rfl rfl rfl) rfl (fun hg => (Z1 rfl rfl rfl)) ?_
 refine Z00 2 (wT rfl rfl rfl rfl) rfl rfl (fun hg => (Zd hg rfl)) rfl rfl Z9 ?_
 refine Zv (wT rfl rfl rfl rfl) rfl (fun hg => (Z1 rfl rfl rfl)) ?_
 refine Z00 2 (wT rfl rfl rfl rfl) rfl rfl (fun hg => (Zd hg rfl)) rfl rfl Z9 ?_
 refine Zv (wT rfl rfl rfl rfl) rfl (fun hg => (Z1 rfl rfl rfl)) ?_
 refine Z00 2 (wT rfl rfl rfl rfl) rfl rfl (fun hg => (Zd hg rfl)) rfl rfl Z9 ?_
 refine Zv (wT rfl rfl rfl rfl) rfl (fun hg => (Z8 [] rfl rfl (Ze (Zd hg rfl) (Ze (Zd hg rfl) (Ze (Zd hg rfl) (Ze (Zd hg rfl) Z05)))) (Zd5 r hr ref.cls ref.name ref.desc h1 h2 (by unfold small at h3; omega)) List.nodup_nil)) ?_
 refine qe (Zs rfl rfl rfl (fun h => h)) ?_
 refine qA (qN (qE ?_))
 exact Za rfl (Z6 rfl Z4) (.cons _ (.refl _)) (gvH rfl)
theorem Z5g {α : Type} {b : Bool} (h : b = true) (x : α) : okB b x = [x] := by rw [h]; rfl
theorem Z79 {α : Type} {b : Bool} (h : b = false) (x : α) : okB b x = [] := by rw [h]; rfl
theorem Zcq {p : Prog} {r : FRef} {f : Fld} (h : fldP p r = some f) : ∃ c, c ∈ p.classes ∧ f ∈ c.fields := by
 unfold fldP fldC knownC at h
 cases hk : clsFind p r.cls with
 | none => rw [hk] at h; cases h
 | some c => rw [hk] at h; exact ⟨c, (Z14 hk).2, List.mem_of_find?_eq_some h⟩
theorem Zdc {p : Prog} (hp : p.ok) (ref : FRef) : small ((fldP p ref).getD zFl).name.size ∧ small ((fldP p ref).getD zFl).type.cls.size := by
 cases h : fldP p ref with
 | none => exact ⟨by unfold small; decide, by unfold small; decide⟩
 | some f =>
  obtain ⟨c, hc, hf⟩ := Zcq h
  have := (hp.classes.2 c hc).fields.2 f hf
  exact ⟨this.name, this.type.cls⟩
theorem Zc6 (p : Prog) (hp : p.ok) (l : List Rule) (hl : small l.length) (hr : ∀ r, r ∈ l → r.ok) (a : Ga) (ha : a.bd 1000000) (i : Ids) (g : Nat) (ref : FRef) (hq : ref.ok) : ACalls Tryz.prog 90 [.ptr g 13 0 0, FRef.av ref] [(g, .rows 91 13 [gcells p l a i]), (i.cl, .rows 9 1 (a.cl.map fun x => [sA x])), (i.fd, .rows 46 2 (a.fd.map FRef.cells)), (i.md, .rows 25 3 (a.md.map MRef.cells)), (i.cn, .rows 9 1 (a.cn.map fun x => [sA x])), (i.fn, .rows 9 1 (a.fn.map fun x => [sA x])), (i.mn, .rows 9 1 (a.mn.map fun x => [sA x])), (i.lk, .rows 9 1 (a.lk.map fun x => [sA x]))] (GP (fun _ : Ids => mkRes []) (fun i => [(g, .rows 91 13 [gcells p l (a.app (gaF textT p l ref)) i]), (i.cl, .rows 9 1 ((a.app (gaF textT p l ref)).cl.map fun x => [sA x])), (i.fd, .rows 46 2 ((a.app (gaF textT p l ref)).fd.map FRef.cells)), (i.md, .rows 25 3 ((a.app (gaF textT p l ref)).md.map MRef.cells)), (i.cn, .rows 9 1 ((a.app (gaF textT p l ref)).cn.map fun x => [sA x])), (i.fn, .rows 9 1 ((a.app (gaF textT p l ref)).fn.map fun x => [sA x])), (i.mn, .rows 9 1 ((a.app (gaF textT p l ref)).mn.map fun x => [sA x])), (i.lk, .rows 9 1 ((a.app (gaF textT p l ref)).lk.map fun x => [sA x]))]) (fun _ => True)) := by
 have q1 := ha.cl
 have q2 := ha.fd
 have q3 := ha.md
 have q4 := ha.cn
 have q5 := ha.fn
 have q6 := ha.mn
 have q7 := ha.lk
 have hfo := Zdc hp ref
 refine Zc (n := 66) Tryz.func90 rfl (by decide +kernel) rfl rfl ?_
 refine qS (qR ?_)
 refine Z02 (w0 rfl) rfl (fun id => Z0b id rfl rfl rfl rfl rfl) (fun id1 => ?_)
 refine qN (qS ?_)
 refine Z13 [0, 1, 3, 7, 0, 31, 63, 127, 127, 0, 0, 1791, 4095] [11, 12] [3, 4, 9, 10] rfl (by kernel_rfl) ?_
 refine Zl (w0 rfl) rfl (Z0d rfl rfl) rfl ?_
 refine Zl (w0 rfl) rfl (Zu rfl rfl rfl) rfl ?_
 refine Zl (w0 rfl) rfl (Z1 rfl rfl rfl) rfl ?_
 refine Zo 1 (w0 rfl) rfl rfl rfl rfl rfl (Z01 (Nat.le_of_ble_eq_true rfl)) rfl rfl ?_
 refine Zo 0 (w0 rfl) rfl rfl rfl rfl rfl (Z01 (Nat.le_of_ble_eq_true rfl)) rfl rfl ?_
 refine Zl (w0 rfl) rfl (Z8 [] rfl rfl rfl (Z6u p hp ref) List.nodup_nil) rfl ?_
 refine Zl (w0 rfl) rfl (Z0d rfl rfl) rfl ?_
 refine Zl (w0 rfl) rfl (Zi rfl rfl rfl) rfl ?_
 refine Zl (w0 rfl) rfl (Zi rfl rfl rfl) rfl ?_
 refine Z1k (w0 rfl) rfl (fun id => Z0e id rfl rfl rfl) rfl rfl (fun id2 => ?_)
 refine Z1k (w0 rfl) rfl (fun id => Z0e id rfl rfl rfl) rfl rfl (fun id3 => ?_)
 refine Z0t 1 [] (w0 rfl) rfl rfl rfl rfl rfl rfl rfl rfl rfl rfl trivial ?_
 refine Z0t 0 [] (w0 rfl) rfl rfl rfl rfl rfl rfl rfl rfl rfl rfl trivial ?_
 refine .done (qS (qR (qM ?_)))
 refine qe (Zu rfl rfl rfl) ?_
 refine qe (Z1 rfl rfl rfl) ?_
 refine qL 3 Z9 ?_
 refine qe (Z1b rfl rfl) ?_
 refine Z0v [_, _, _] _ (w0 rfl) rfl rfl rfl rfl (Z2k [0, 1, 0] rfl) (Zac l hl 120 _ _ (fHold textT p ref) (fun r hm => Za6 _ ref _ hq.cls hfo.1 hfo.2 id3 id1 id2 r (hr r hm))) ?_
 refine qM ?_
 refine qe (Zi rfl rfl rfl) ?_
 refine qe (Zi rfl rfl rfl) ?_
 refine qA (qA (qN (qS (qS (qR (qM (qN ?_)))))))
 refine Z2 rfl ?_ ?_
 ·intro hc
  have t1 : anyR l (fHold textT p ref) = true := hc
  refine qS ?_
  refine Z13 [0, 0, 2, 6, 14, 30, 0, 64, 254, 511, 1023, 2047, 4095] [8, 12] [5, 6, 7] rfl (by kernel_rfl) ?_
  refine Zl (w0 rfl) rfl (Z0d rfl rfl) rfl ?_
  refine Zl (w0 rfl) rfl (Z0d rfl rfl) rfl ?_
  refine Zl (w0 rfl) rfl (Zu rfl rfl rfl) rfl ?_
  refine Zl (w0 rfl) rfl (Z1 rfl rfl rfl) rfl ?_
  refine Zl (w0 rfl) rfl (Z1 rfl rfl rfl) rfl ?_
  refine Zo 3 (w0 rfl) rfl rfl rfl rfl rfl Z9 rfl rfl ?_
  refine Zo 2 (w0 rfl) rfl rfl rfl rfl rfl (Z01 (Nat.le_of_ble_eq_true rfl)) rfl rfl ?_
  refine Z1k (w0 rfl) rfl (fun id => Zw id (ps := [(0, .tmp 33)]) rfl rfl rfl rfl rfl rfl rfl rfl) rfl rfl (fun id4 => ?_)
  refine Z0u 6 [] (w0 rfl) rfl rfl rfl rfl (by simp) rfl ⟨rfl, _, _, List.mem_of_getElem? (i := 0) rfl, by simp, rfl⟩ (by first | omega | (simp; omega) | (simp [maxLen]; omega) | (simp; done) | (simp [maxLen]; done)) (by first | omega | (simp; omega) | (simp [maxLen]; omega) | (simp; done) | (simp [maxLen]; done)) rfl (fun _ => trivial) (fun id5 => ?_)
  refine Zl (w0 rfl) rfl (Zu rfl rfl rfl) rfl ?_
  refine Zl (w0 rfl) rfl (Z1 rfl rfl rfl) rfl ?_
  refine Zl (w0 rfl) rfl (Z1 rfl rfl rfl) rfl ?_
  refine Z0t 4 [] (w0 rfl) rfl rfl rfl rfl rfl rfl rfl rfl rfl rfl trivial ?_
  refine .done ?_
  refine Z13 [0, 0, 2, 6, 14, 30, 0, 64, 192, 510, 1023, 2047, 4095, 8191] [9, 13] [5, 7, 8] rfl (by kernel_rfl) ?_
  refine Zl (w0 rfl) rfl (Z0d rfl rfl) rfl ?_
  refine Zl (w0 rfl) rfl (Z0d rfl rfl) rfl ?_
  refine Zl (w0 rfl) rfl (Zu rfl rfl rfl) rfl ?_
  refine Zl (w0 rfl) rfl (Z1 rfl rfl rfl) rfl ?_
  refine Zl (w0 rfl) rfl (Z1 rfl rfl rfl) rfl ?_
  refine Zo 4 (w0 rfl) rfl rfl rfl rfl rfl Z9 rfl rfl ?_
  refine Zl (w0 rfl) rfl (Z1 rfl rfl rfl) rfl ?_
  refine Zo 3 (w0 rfl) rfl rfl rfl rfl rfl Z9 rfl rfl ?_
  refine Z1k (w0 rfl) rfl (fun id => Zw id (ps := [(0, .tmp 46)]) rfl rfl rfl rfl rfl rfl rfl rfl) rfl rfl (fun id6 => ?_)
  refine Z0u 6 [] (w0 rfl) rfl rfl rfl rfl (by simp) rfl ⟨rfl, _, _, List.mem_of_getElem? (i := 0) rfl, by simp, rfl⟩ (by first | omega | (simp; omega) | (simp [maxLen]; omega) | (simp; done) | (simp [maxLen]; done)) (by first | omega | (simp; omega) | (simp [maxLen]; omega) | (simp; done) | (simp [maxLen]; done)) rfl (fun _ => trivial) (fun id7 => ?_)
  refine Zl (w0 rfl) rfl (Zu rfl rfl rfl) rfl ?_
  refine Zl (w0 rfl) rfl (Z1 rfl rfl rfl) rfl ?_
  refine Zl (w0 rfl) rfl (Z1 rfl rfl rfl) rfl ?_
  refine Z0t 5 [] (w0 rfl) rfl rfl rfl rfl rfl rfl rfl rfl rfl rfl trivial ?_
  refine .done (qS (qR (qM (qN ?_))))
  refine Z2 rfl ?_ ?_
  ·intro hc
   have t2 : nmsR l (fHold textT p ref) = true := hc
   refine Z13 [0, 0, 2, 6, 14, 30, 0, 64, 192, 510, 1023, 2047, 4095, 8191] [9, 13] [5, 7, 8] rfl (by kernel_rfl) ?_
   refine Zl (w0 rfl) rfl (Z0d rfl rfl) rfl ?_
   refine Zl (w0 rfl) rfl (Z0d rfl rfl) rfl ?_
   refine Zl (w0 rfl) rfl (Zu rfl rfl rfl) rfl ?_
   refine Zl (w0 rfl) rfl (Z1 rfl rfl rfl) rfl ?_
   refine Zl (w0 rfl) rfl (Z1 rfl rfl rfl) rfl ?_
   refine Zo 5 (w0 rfl) rfl rfl rfl rfl rfl Z9 rfl rfl ?_
   refine Zl (w0 rfl) rfl (Z1 rfl rfl rfl) rfl ?_
   refine Zo 3 (w0 rfl) rfl rfl rfl rfl rfl Z9 rfl rfl ?_
   refine Z1k (w0 rfl) rfl (fun id => Zw id (ps := [(0, .tmp 60)]) rfl rfl rfl rfl rfl rfl rfl rfl) rfl rfl (fun id8 => ?_)
   refine Z0u 11 [] (w0 rfl) rfl rfl rfl rfl (by simp) rfl ⟨rfl, _, _, List.mem_of_getElem? (i := 0) rfl, by simp, rfl⟩ (by first | omega | (simp; omega) | (simp [maxLen]; omega) | (simp; done) | (simp [maxLen]; done)) (by first | omega | (simp; omega) | (simp [maxLen]; omega) | (simp; done) | (simp [maxLen]; done)) rfl (fun _ => trivial) (fun id9 => ?_)
   refine Zl (w0 rfl) rfl (Zu rfl rfl rfl) rfl ?_
   refine Zl (w0 rfl) rfl (Z1 rfl rfl rfl) rfl ?_
   refine Zl (w0 rfl) rfl (Z1 rfl rfl rfl) rfl ?_
   refine Z0t 6 [] (w0 rfl) rfl rfl rfl rfl rfl rfl rfl rfl rfl rfl trivial ?_
   refine .done ?_
   exact Za rfl Z4 (.cons _ (.cons _ (.cons _ (.cons _ (.cons _ (.cons _ (.cons_cons _ (.cons_cons _ (.cons_cons _ (.cons_cons _ (.cons_cons _ (.cons_cons _ (.cons_cons _ (.cons_cons _ .slnil)))))))))))))) (gp ⟨id7, id5, i.md, i.cn, id9, i.mn, i.lk⟩ trivial rfl (by show [(_, AObj.rows _ _ _), (_, AObj.rows _ _ _), (_, AObj.rows _ _ _), (_, AObj.rows _ _ _), (_, AObj.rows _ _ _), (_, AObj.rows _ _ _), (_, AObj.rows _ _ _), (_, AObj.rows _ _ _)] = [(_, AObj.rows _ _ _), (_, AObj.rows _ _ _), (_, AObj.rows _ _ _), (_, AObj.rows _ _ _), (_, AObj.rows _ _ _), (_, AObj.rows _ _ _), (_, AObj.rows _ _ _), (_, AObj.rows _ _ _)]; simp [gcells, Ga.app, cellsA, FRef.av, FRef.cells, MRef.av, MRef.cells, nDot, nAsk, gaF, okB, t1, t2]))
  ·intro hc
   have t2 : nmsR l (fHold textT p ref) = false := hc
   refine qK ?_
   exact Za rfl Z4 (.cons _ (.cons _ (.cons _ (.cons _ (.cons _ (.cons_cons _ (.cons_cons _ (.cons_cons _ (.cons_cons _ (.cons_cons _ (.cons_cons _ (.cons_cons _ (.cons_cons _ .slnil))))))))))))) (gp ⟨id7, id5, i.md, i.cn, i.fn, i.mn, i.lk⟩ trivial rfl (by show [(_, AObj.rows _ _ _), (_, AObj.rows _ _ _), (_, AObj.rows _ _ _), (_, AObj.rows _ _ _), (_, AObj.rows _ _ _), (_, AObj.rows _ _ _), (_, AObj.rows _ _ _), (_, AObj.rows _ _ _)] = [(_, AObj.rows _ _ _), (_, AObj.rows _ _ _), (_, AObj.rows _ _ _), (_, AObj.rows _ _ _), (_, AObj.rows _ _ _), (_, AObj.rows _ _ _), (_, AObj.rows _ _ _), (_, AObj.rows _ _ _)]; simp [gcells, Ga.app, cellsA, FRef.av, FRef.cells, MRef.av, MRef.cells, nDot, nAsk, gaF, okB, t1, t2]))
 ·intro hc
  have t1 : anyR l (fHold textT p ref) = false := hc
  refine qK (qS (qR (qM (qN ?_))))
  refine Z2 rfl ?_ ?_
  ·intro hc
   have t2 : nmsR l (fHold textT p ref) = true := hc
   refine Z13 [0, 0, 2, 6, 14, 30, 0, 64, 192, 510, 1023, 2047, 4095, 8191] [9, 13] [5, 7, 8] rfl (by kernel_rfl) ?_
   refine Zl (w0 rfl) rfl (Z0d rfl rfl) rfl ?_
   refine Zl (w0 rfl) rfl (Z0d rfl rfl) rfl ?_
   refine Zl (w0 rfl) rfl (Zu rfl rfl rfl) rfl ?_
   refine Zl (w0 rfl) rfl (Z1 rfl rfl rfl) rfl ?_
   refine Zl (w0 rfl) rfl (Z1 rfl rfl rfl) rfl ?_
   refine Zo 3 (w0 rfl) rfl rfl rfl rfl rfl Z9 rfl rfl ?_
   refine Zl (w0 rfl) rfl (Z1 rfl rfl rfl) rfl ?_
   refine Zo 1 (w0 rfl) rfl rfl rfl rfl rfl Z9 rfl rfl ?_
   refine Z1k (w0 rfl) rfl (fun id => Zw id (ps := [(0, .tmp 60)]) rfl rfl rfl rfl rfl rfl rfl rfl) rfl rfl (fun id10 => ?_)
   refine Z0u 9 [] (w0 rfl) rfl rfl rfl rfl (by simp) rfl ⟨rfl, _, _, List.mem_of_getElem? (i := 0) rfl, by simp, rfl⟩ (by first | omega | (simp; omega) | (simp [maxLen]; omega) | (simp; done) | (simp [maxLen]; done)) (by first | omega | (simp; omega) | (simp [maxLen]; omega) | (simp; done) | (simp [maxLen]; done)) rfl (fun _ => trivial) (fun id11 => ?_)
   refine Zl (w0 rfl) rfl (Zu rfl rfl rfl) rfl ?_
   refine Zl (w0 rfl) rfl (Z1 rfl rfl rfl) rfl ?_
   refine Zl (w0 rfl) rfl (Z1 rfl rfl rfl) rfl ?_
   refine Z0t 4 [] (w0 rfl) rfl rfl rfl rfl rfl rfl rfl rfl rfl rfl trivial ?_
   refine .done ?_
   exact Za rfl Z4 (.cons _ (.cons _ (.cons _ (.cons _ (.cons_cons _ (.cons_cons _ (.cons_cons _ (.cons_cons _ (.cons_cons _ (.cons_cons _ (.cons_cons _ (.cons_cons _ .slnil)))))))))))) (gp ⟨i.cl, i.fd, i.md, i.cn, id11, i.mn, i.lk⟩ trivial rfl (by show [(_, AObj.rows _ _ _), (_, AObj.rows _ _ _), (_, AObj.rows _ _ _), (_, AObj.rows _ _ _), (_, AObj.rows _ _ _), (_, AObj.rows _ _ _), (_, AObj.rows _ _ _), (_, AObj.rows _ _ _)] = [(_, AObj.rows _ _ _), (_, AObj.rows _ _ _), (_, AObj.rows _ _ _), (_, AObj.rows _ _ _), (_, AObj.rows _ _ _), (_, AObj.rows _ _ _), (_, AObj.rows _ _ _), (_, AObj.rows _ _ _)]; simp [gcells, Ga.app, cellsA, FRef.av, FRef.cells, MRef.av, MRef.cells, nDot, nAsk, gaF, okB, t1, t2]))
  ·intro hc
   have t2 : nmsR l (fHold textT p ref) = false := hc
   refine qK ?_
   exact Za rfl Z4 (.cons _ (.cons _ (.cons _ (.cons_cons _ (.cons_cons _ (.cons_cons _ (.cons_cons _ (.cons_cons _ (.cons_cons _ (.cons_cons _ (.cons_cons _ .slnil))))))))))) (gp ⟨i.cl, i.fd, i.md, i.cn, i.fn, i.mn, i.lk⟩ trivial rfl (by show [(_, AObj.rows _ _ _), (_, AObj.rows _ _ _), (_, AObj.rows _ _ _), (_, AObj.rows _ _ _), (_, AObj.rows _ _ _), (_, AObj.rows _ _ _), (_, AObj.rows _ _ _), (_, AObj.rows _ _ _)] = [(_, AObj.rows _ _ _), (_, AObj.rows _ _ _), (_, AObj.rows _ _ _), (_, AObj.rows _ _ _), (_, AObj.rows _ _ _), (_, AObj.rows _ _ _), (_, AObj.rows _ _ _), (_, AObj.rows _ _ _)]; simp [gcells, Ga.app, cellsA, FRef.av, FRef.cells, MRef.av, MRef.cells, nDot, nAsk, gaF, okB, t1, t2]))
theorem Za7 (p : Prog) (hp : p.ok) (l : List Rule) (hl : small l.length) (hr : ∀ r, r ∈ l → r.ok) (a : Ga) (ha : a.bd 1000000) (i : Ids) (g : Nat) (ref : MRef) (hq : ref.ok) : ACalls Tryz.prog 91 [.ptr g 13 0 0, MRef.av ref] [(g, .rows 91 13 [gcells p l a i]), (i.cl, .rows 9 1 (a.cl.map fun x => [sA x])), (i.fd, .rows 46 2 (a.fd.map FRef.cells)), (i.md, .rows 25 3 (a.md.map MRef.cells)), (i.cn, .rows 9 1 (a.cn.map fun x => [sA x])), (i.fn, .rows 9 1 (a.fn.map fun x => [sA x])), (i.mn, .rows 9 1 (a.mn.map fun x => [sA x])), (i.lk, .rows 9 1 (a.lk.map fun x => [sA x]))] (GP (fun _ : Ids => mkRes []) (fun i => [(g, .rows 91 13 [gcells p l (a.app (gaM p l ref)) i]), (i.cl, .rows 9 1 ((a.app (gaM p l ref)).cl.map fun x => [sA x])), (i.fd, .rows 46 2 ((a.app (gaM p l ref)).fd.map FRef.cells)), (i.md, .rows 25 3 ((a.app (gaM p l ref)).md.map MRef.cells)), (i.cn, .rows 9 1 ((a.app (gaM p l ref)).cn.map fun x => [sA x])), (i.fn, .rows 9 1 ((a.app (gaM p l ref)).fn.map fun x => [sA x])), (i.mn, .rows 9 1 ((a.app (gaM p l ref)).mn.map fun x => [sA x])), (i.lk, .rows 9 1 ((a.app (gaM p l ref)).lk.map fun x => [sA x]))]) (fun _ => True)) := by
 have q1 := ha.cl
 have q2 := ha.fd
 have q3 := ha.md
 have q4 := ha.cn
 have q5 := ha.fn
 have q6 := ha.mn
 have q7 := ha.lk
 have hq1 := hq.cls
 have hq2 := hq.name
 have hq3 := hq.desc
 refine Zc (n := 93) Tryz.func91 rfl (by decide +kernel) rfl rfl ?_
 refine qS (qR ?_)
 refine Z02 (w0 rfl) rfl (fun id => Z0b id rfl rfl rfl rfl rfl) (fun id1 => ?_)
 refine qN (qS ?_)
 refine Z13 [0, 1, 3, 7, 0, 31, 63, 127, 127, 0, 0, 1791, 4095] [11, 12] [3, 4, 9, 10] rfl (by kernel_rfl) ?_
 refine Zl (w0 rfl) rfl (Z0d rfl rfl) rfl ?_
 refine Zl (w0 rfl) rfl (Zu rfl rfl rfl) rfl ?_
 refine Zl (w0 rfl) rfl (Z1 rfl rfl rfl) rfl ?_
 refine Zo 1 (w0 rfl) rfl rfl rfl rfl rfl (Z01 (Nat.le_of_ble_eq_true rfl)) rfl rfl ?_
 refine Zo 0 (w0 rfl) rfl rfl rfl rfl rfl (Z01 (Nat.le_of_ble_eq_true rfl)) rfl rfl ?_
 refine Zl (w0 rfl) rfl (Z8 [] rfl rfl rfl (Zf8 p hp ref) List.nodup_nil) rfl ?_
 refine Zl (w0 rfl) rfl (Z0d rfl rfl) rfl ?_
 refine Zl (w0 rfl) rfl (Zi rfl rfl rfl) rfl ?_
 refine Zl (w0 rfl) rfl (Zi rfl rfl rfl) rfl ?_
 refine Z1k (w0 rfl) rfl (fun id => Z0e id rfl rfl rfl) rfl rfl (fun id2 => ?_)
 refine Z1k (w0 rfl) rfl (fun id => Z0e id rfl rfl rfl) rfl rfl (fun id3 => ?_)
 refine Z0t 1 [] (w0 rfl) rfl rfl rfl rfl rfl rfl rfl rfl rfl rfl trivial ?_
 refine Z0t 0 [] (w0 rfl) rfl rfl rfl rfl rfl rfl rfl rfl rfl rfl trivial ?_
 refine .done (qS (qR (qM ?_)))
 refine qe (Zu rfl rfl rfl) ?_
 refine qe (Z1 rfl rfl rfl) ?_
 refine qL 3 Z9 ?_
 refine qe (Z1b rfl rfl) ?_
 refine Z0v [_, _] _ (w0 rfl) rfl rfl rfl rfl (Z2k [0, 1] rfl) (Zac l hl 123 _ _ (mHold p ref) (fun r hm => Za8 _ ref hq1 hq2 hq3 id3 id1 r (hr r hm))) ?_
 refine qM ?_
 refine qe (Zi rfl rfl rfl) ?_
 refine qe (Zi rfl rfl rfl) ?_
 refine qA (qA (qN (qS (qS (qR (qM (qN ?_)))))))
 refine Z2 rfl ?_ ?_
 ·intro hc
  have t1 : anyR l (mHold p ref) = true := hc
  have e1 := fun {α : Type} (x : α) => Z5g t1 x
  refine qS ?_
  refine Z13 [0, 0, 2, 6, 14, 30, 0, 64, 254, 511, 1023, 2047, 4095] [8, 12] [5, 6, 7] rfl (by kernel_rfl) ?_
  refine Zl (w0 rfl) rfl (Z0d rfl rfl) rfl ?_
  refine Zl (w0 rfl) rfl (Z0d rfl rfl) rfl ?_
  refine Zl (w0 rfl) rfl (Zu rfl rfl rfl) rfl ?_
  refine Zl (w0 rfl) rfl (Z1 rfl rfl rfl) rfl ?_
  refine Zl (w0 rfl) rfl (Z1 rfl rfl rfl) rfl ?_
  refine Zo 3 (w0 rfl) rfl rfl rfl rfl rfl Z9 rfl rfl ?_
  refine Zo 2 (w0 rfl) rfl rfl rfl rfl rfl (Z01 (Nat.le_of_ble_eq_true rfl)) rfl rfl ?_
  refine Z1k (w0 rfl) rfl (fun id => Zw id (ps := [(0, .tmp 33)]) rfl rfl rfl rfl rfl rfl rfl rfl) rfl rfl (fun id4 => ?_)
  refine Z0u 7 [] (w0 rfl) rfl rfl rfl rfl (by simp) rfl ⟨rfl, _, _, List.mem_of_getElem? (i := 0) rfl, by simp, rfl⟩ (by first | omega | (simp; omega) | (simp [maxLen]; omega) | (simp; done) | (simp [maxLen]; done)) (by first | omega | (simp; omega) | (simp [maxLen]; omega) | (simp; done) | (simp [maxLen]; done)) rfl (fun _ => trivial) (fun id5 => ?_)
  refine Zl (w0 rfl) rfl (Zu rfl rfl rfl) rfl ?_
  refine Zl (w0 rfl) rfl (Z1 rfl rfl rfl) rfl ?_
  refine Zl (w0 rfl) rfl (Z1 rfl rfl rfl) rfl ?_
  refine Z0t 4 [] (w0 rfl) rfl rfl rfl rfl rfl rfl rfl rfl rfl rfl trivial ?_
  refine .done (qS ?_)
  refine Z13 [0, 0, 2, 6, 14, 30, 0, 64, 192, 510, 1023, 2047, 4095, 8191] [9, 13] [5, 7, 8] rfl (by kernel_rfl) ?_
  refine Zl (w0 rfl) rfl (Z0d rfl rfl) rfl ?_
  refine Zl (w0 rfl) rfl (Z0d rfl rfl) rfl ?_
  refine Zl (w0 rfl) rfl (Zu rfl rfl rfl) rfl ?_
  refine Zl (w0 rfl) rfl (Z1 rfl rfl rfl) rfl ?_
  refine Zl (w0 rfl) rfl (Z1 rfl rfl rfl) rfl ?_
  refine Zo 4 (w0 rfl) rfl rfl rfl rfl rfl Z9 rfl rfl ?_
  refine Zl (w0 rfl) rfl (Z1 rfl rfl rfl) rfl ?_
  refine Zo 3 (w0 rfl) rfl rfl rfl rfl rfl Z9 rfl rfl ?_
  refine Z1k (w0 rfl) rfl (fun id => Zw id (ps := [(0, .tmp 46)]) rfl rfl rfl rfl rfl rfl rfl rfl) rfl rfl (fun id6 => ?_)
  refine Z0u 6 [] (w0 rfl) rfl rfl rfl rfl (by simp) rfl ⟨rfl, _, _, List.mem_of_getElem? (i := 0) rfl, by simp, rfl⟩ (by first | omega | (simp; omega) | (simp [maxLen]; omega) | (simp; done) | (simp [maxLen]; done)) (by first | omega | (simp; omega) | (simp [maxLen]; omega) | (simp; done) | (simp [maxLen]; done)) rfl (fun _ => trivial) (fun id7 => ?_)
  refine Zl (w0 rfl) rfl (Zu rfl rfl rfl) rfl ?_
  refine Zl (w0 rfl) rfl (Z1 rfl rfl rfl) rfl ?_
  refine Zl (w0 rfl) rfl (Z1 rfl rfl rfl) rfl ?_
  refine Z0t 5 [] (w0 rfl) rfl rfl rfl rfl rfl rfl rfl rfl rfl rfl trivial ?_
  refine .done (qS (qR ?_))
  refine qe (Z1 rfl rfl rfl) ?_
  refine qL 3 Z9 ?_
  refine qM ?_
  refine Zv (wT rfl rfl rfl rfl) rfl (fun hg => (Z1 rfl rfl rfl)) ?_
  refine Z00 4 (wT rfl rfl rfl rfl) rfl rfl (fun hg => (Zd hg rfl)) rfl rfl Z9 ?_
  refine Zv (wT rfl rfl rfl rfl) rfl (fun hg => (Z1j rfl (Zd hg rfl) rfl rfl)) ?_
  refine qe (Zs rfl rfl rfl (fun h => h)) ?_
  refine qN ?_
  refine Z2 rfl ?_ ?_
  ·intro hc
   have t3 : (((getP p ref).getD zMt).static && beqS ref.desc nAsk) = true := hc
   have e3 := fun {α : Type} (x : α) => Z5g (show (anyR l (mHold p ref) && (((getP p ref).getD zMt).static && beqS ref.desc nAsk)) = true by rw [t1, t3]; rfl) x
   refine Z13 [0, 0, 2, 6, 14, 30, 0, 64, 192, 0, 512, 1984, 4032, 8190, 16383, 32767, 65535, 131071] [13, 17] [5, 7, 10, 12] rfl (by kernel_rfl) ?_
   refine Zl (w0 rfl) rfl (Z0d rfl rfl) rfl ?_
   refine Zl (w0 rfl) rfl (Z0d rfl rfl) rfl ?_
   refine Zl (w0 rfl) rfl (Zu rfl rfl rfl) rfl ?_
   refine Zl (w0 rfl) rfl (Z1 rfl rfl rfl) rfl ?_
   refine Zl (w0 rfl) rfl (Z1 rfl rfl rfl) rfl ?_
   refine Zo 5 (w0 rfl) rfl rfl rfl rfl rfl Z9 rfl rfl ?_
   refine Zl (w0 rfl) rfl (Z1 rfl rfl rfl) rfl ?_
   refine Zo 4 (w0 rfl) rfl rfl rfl rfl rfl Z9 rfl rfl ?_
   refine Zl (w0 rfl) rfl (Z1f rfl rfl rfl (by have k0 : ByteArray.size ⟨#[40, 41, 73]⟩ = 3 := rfl; have k1 : ByteArray.size ⟨#[46]⟩ = 1 := rfl; (try simp only [ByteArray.size_append, small] at *) <;> omega)) rfl ?_
   refine Zl (w0 rfl) rfl (Z1 rfl rfl rfl) rfl ?_
   refine Zo 4 (w0 rfl) rfl rfl rfl rfl rfl Z9 rfl rfl ?_
   refine Zl (w0 rfl) rfl (Z1f rfl rfl rfl (by have k0 : ByteArray.size ⟨#[40, 41, 73]⟩ = 3 := rfl; have k1 : ByteArray.size ⟨#[46]⟩ = 1 := rfl; (try simp only [ByteArray.size_append, small] at *) <;> omega)) rfl ?_
   refine Z1k (w0 rfl) rfl (fun id => Zw id (ps := [(0, .tmp 70)]) rfl rfl rfl rfl rfl rfl rfl rfl) rfl rfl (fun id8 => ?_)
   refine Z0u 13 [] (w0 rfl) rfl rfl rfl rfl (by simp) rfl ⟨rfl, _, _, List.mem_of_getElem? (i := 0) rfl, by simp, rfl⟩ (by first | omega | (simp; omega) | (simp [maxLen]; omega) | (simp; done) | (simp [maxLen]; done)) (by first | omega | (simp; omega) | (simp [maxLen]; omega) | (simp; done) | (simp [maxLen]; done)) rfl (fun _ => trivial) (fun id9 => ?_)
   refine Zl (w0 rfl) rfl (Zu rfl rfl rfl) rfl ?_
   refine Zl (w0 rfl) rfl (Z1 rfl rfl rfl) rfl ?_
   refine Zl (w0 rfl) rfl (Z1 rfl rfl rfl) rfl ?_
   refine Z0t 6 [] (w0 rfl) rfl rfl rfl rfl rfl rfl rfl rfl rfl rfl trivial ?_
   refine .done (qS (qR (qM (qN ?_))))
   refine Z2 rfl ?_ ?_
   ·intro hc
    have t2 : nmsR l (mHold p ref) = true := hc
    have e2 := fun {α : Type} (x : α) => Z5g t2 x
    refine Z13 [0, 0, 2, 6, 14, 30, 0, 64, 0, 256, 960, 1984, 4094, 8191, 16383, 32767, 65535] [12, 16] [5, 7, 9, 11] rfl (by kernel_rfl) ?_
    refine Zl (w0 rfl) rfl (Z0d rfl rfl) rfl ?_
    refine Zl (w0 rfl) rfl (Z0d rfl rfl) rfl ?_
    refine Zl (w0 rfl) rfl (Zu rfl rfl rfl) rfl ?_
    refine Zl (w0 rfl) rfl (Z1 rfl rfl rfl) rfl ?_
    refine Zl (w0 rfl) rfl (Z1 rfl rfl rfl) rfl ?_
    refine Zo 6 (w0 rfl) rfl rfl rfl rfl rfl Z9 rfl rfl ?_
    refine Zl (w0 rfl) rfl (Z1 rfl rfl rfl) rfl ?_
    refine Zo 5 (w0 rfl) rfl rfl rfl rfl rfl Z9 rfl rfl ?_
    refine Zl (w0 rfl) rfl (Z1 rfl rfl rfl) rfl ?_
    refine Zo 5 (w0 rfl) rfl rfl rfl rfl rfl Z9 rfl rfl ?_
    refine Zl (w0 rfl) rfl (Z1f rfl rfl rfl (by have k0 : ByteArray.size ⟨#[40, 41, 73]⟩ = 3 := rfl; have k1 : ByteArray.size ⟨#[46]⟩ = 1 := rfl; (try simp only [ByteArray.size_append, small] at *) <;> omega)) rfl ?_
    refine Z1k (w0 rfl) rfl (fun id => Zw id (ps := [(0, .tmp 87)]) rfl rfl rfl rfl rfl rfl rfl rfl) rfl rfl (fun id10 => ?_)
    refine Z0u 13 [] (w0 rfl) rfl rfl rfl rfl (by simp) rfl ⟨rfl, _, _, List.mem_of_getElem? (i := 0) rfl, by simp, rfl⟩ (by first | omega | (simp; omega) | (simp [maxLen]; omega) | (simp; done) | (simp [maxLen]; done)) (by first | omega | (simp; omega) | (simp [maxLen]; omega) | (simp; done) | (simp [maxLen]; done)) rfl (fun _ => trivial) (fun id11 => ?_)
    refine Zl (w0 rfl) rfl (Zu rfl rfl rfl) rfl ?_
    refine Zl (w0 rfl) rfl (Z1 rfl rfl rfl) rfl ?_
    refine Zl (w0 rfl) rfl (Z1 rfl rfl rfl) rfl ?_
    refine Z0t 7 [] (w0 rfl) rfl rfl rfl rfl rfl rfl rfl rfl rfl rfl trivial ?_
    refine .done ?_
    exact Za rfl Z4 (.cons _ (.cons _ (.cons _ (.cons _ (.cons _ (.cons _ (.cons _ (.cons_cons _ (.cons_cons _ (.cons_cons _ (.cons_cons _ (.cons_cons _ (.cons_cons _ (.cons_cons _ (.cons_cons _ .slnil))))))))))))))) (gp ⟨id7, i.fd, id5, i.cn, i.fn, id11, id9⟩ trivial rfl (by show [(_, AObj.rows _ _ _), (_, AObj.rows _ _ _), (_, AObj.rows _ _ _), (_, AObj.rows _ _ _), (_, AObj.rows _ _ _), (_, AObj.rows _ _ _), (_, AObj.rows _ _ _), (_, AObj.rows _ _ _)] = [(_, AObj.rows _ _ _), (_, AObj.rows _ _ _), (_, AObj.rows _ _ _), (_, AObj.rows _ _ _), (_, AObj.rows _ _ _), (_, AObj.rows _ _ _), (_, AObj.rows _ _ _), (_, AObj.rows _ _ _)]; simp [gcells, Ga.app, cellsA, FRef.av, FRef.cells, MRef.av, MRef.cells, nDot, gaM, e1, e2, e3]))
   ·intro hc
    have t2 : nmsR l (mHold p ref) = false := hc
    have e2 := fun {α : Type} (x : α) => Z79 t2 x
    refine qK ?_
    exact Za rfl Z4 (.cons _ (.cons _ (.cons _ (.cons _ (.cons _ (.cons _ (.cons_cons _ (.cons_cons _ (.cons_cons _ (.cons_cons _ (.cons_cons _ (.cons_cons _ (.cons_cons _ (.cons_cons _ .slnil)))))))))))))) (gp ⟨id7, i.fd, id5, i.cn, i.fn, i.mn, id9⟩ trivial rfl (by show [(_, AObj.rows _ _ _), (_, AObj.rows _ _ _), (_, AObj.rows _ _ _), (_, AObj.rows _ _ _), (_, AObj.rows _ _ _), (_, AObj.rows _ _ _), (_, AObj.rows _ _ _), (_, AObj.rows _ _ _)] = [(_, AObj.rows _ _ _), (_, AObj.rows _ _ _), (_, AObj.rows _ _ _), (_, AObj.rows _ _ _), (_, AObj.rows _ _ _), (_, AObj.rows _ _ _), (_, AObj.rows _ _ _), (_, AObj.rows _ _ _)]; simp [gcells, Ga.app, cellsA, FRef.av, FRef.cells, MRef.av, MRef.cells, nDot, gaM, e1, e2, e3]))
  ·intro hc
   have t3 : (((getP p ref).getD zMt).static && beqS ref.desc nAsk) = false := hc
   have e3 := fun {α : Type} (x : α) => Z79 (show (anyR l (mHold p ref) && (((getP p ref).getD zMt).static && beqS ref.desc nAsk)) = false by rw [t1, t3]; rfl) x
   refine qK (qS (qR (qM (qN ?_))))
   refine Z2 rfl ?_ ?_
   ·intro hc
    have t2 : nmsR l (mHold p ref) = true := hc
    have e2 := fun {α : Type} (x : α) => Z5g t2 x
    refine Z13 [0, 0, 2, 6, 14, 30, 0, 64, 0, 256, 960, 1984, 4094, 8191, 16383, 32767, 65535] [12, 16] [5, 7, 9, 11] rfl (by kernel_rfl) ?_
    refine Zl (w0 rfl) rfl (Z0d rfl rfl) rfl ?_
    refine Zl (w0 rfl) rfl (Z0d rfl rfl) rfl ?_
    refine Zl (w0 rfl) rfl (Zu rfl rfl rfl) rfl ?_
    refine Zl (w0 rfl) rfl (Z1 rfl rfl rfl) rfl ?_
    refine Zl (w0 rfl) rfl (Z1 rfl rfl rfl) rfl ?_
    refine Zo 5 (w0 rfl) rfl rfl rfl rfl rfl Z9 rfl rfl ?_
    refine Zl (w0 rfl) rfl (Z1 rfl rfl rfl) rfl ?_
    refine Zo 4 (w0 rfl) rfl rfl rfl rfl rfl Z9 rfl rfl ?_
    refine Zl (w0 rfl) rfl (Z1 rfl rfl rfl) rfl ?_
    refine Zo 4 (w0 rfl) rfl rfl rfl rfl rfl Z9 rfl rfl ?_
    refine Zl (w0 rfl) rfl (Z1f rfl rfl rfl (by have k0 : ByteArray.size ⟨#[40, 41, 73]⟩ = 3 := rfl; have k1 : ByteArray.size ⟨#[46]⟩ = 1 := rfl; (try simp only [ByteArray.size_append, small] at *) <;> omega)) rfl ?_
    refine Z1k (w0 rfl) rfl (fun id => Zw id (ps := [(0, .tmp 87)]) rfl rfl rfl rfl rfl rfl rfl rfl) rfl rfl (fun id12 => ?_)
    refine Z0u 12 [] (w0 rfl) rfl rfl rfl rfl (by simp) rfl ⟨rfl, _, _, List.mem_of_getElem? (i := 0) rfl, by simp, rfl⟩ (by first | omega | (simp; omega) | (simp [maxLen]; omega) | (simp; done) | (simp [maxLen]; done)) (by first | omega | (simp; omega) | (simp [maxLen]; omega) | (simp; done) | (simp [maxLen]; done)) rfl (fun _ => trivial) (fun id13 => ?_)
    refine Zl (w0 rfl) rfl (Zu rfl rfl rfl) rfl ?_
    refine Zl (w0 rfl) rfl (Z1 rfl rfl rfl) rfl ?_
    refine Zl (w0 rfl) rfl (Z1 rfl rfl rfl) rfl ?_
    refine Z0t 6 [] (w0 rfl) rfl rfl rfl rfl rfl rfl rfl rfl rfl rfl trivial ?_
    refine .done ?_
    exact Za rfl Z4 (.cons _ (.cons _ (.cons _ (.cons _ (.cons _ (.cons _ (.cons_cons _ (.cons_cons _ (.cons_cons _ (.cons_cons _ (.cons_cons _ (.cons_cons _ (.cons_cons _ (.cons_cons _ .slnil)))))))))))))) (gp ⟨id7, i.fd, id5, i.cn, i.fn, id13, i.lk⟩ trivial rfl (by show [(_, AObj.rows _ _ _), (_, AObj.rows _ _ _), (_, AObj.rows _ _ _), (_, AObj.rows _ _ _), (_, AObj.rows _ _ _), (_, AObj.rows _ _ _), (_, AObj.rows _ _ _), (_, AObj.rows _ _ _)] = [(_, AObj.rows _ _ _), (_, AObj.rows _ _ _), (_, AObj.rows _ _ _), (_, AObj.rows _ _ _), (_, AObj.rows _ _ _), (_, AObj.rows _ _ _), (_, AObj.rows _ _ _), (_, AObj.rows _ _ _)]; simp [gcells, Ga.app, cellsA, FRef.av, FRef.cells, MRef.av, MRef.cells, nDot, gaM, e1, e2, e3]))
   ·intro hc
    have t2 : nmsR l (mHold p ref) = false := hc
    have e2 := fun {α : Type} (x : α) => Z79 t2 x
    refine qK ?_
    exact Za rfl Z4 (.cons _ (.cons _ (.cons _ (.cons _ (.cons _ (.cons_cons _ (.cons_cons _ (.cons_cons _ (.cons_cons _ (.cons_cons _ (.cons_cons _ (.cons_cons _ (.cons_cons _ .slnil))))))))))))) (gp ⟨id7, i.fd, id5, i.cn, i.fn, i.mn, i.lk⟩ trivial rfl (by show [(_, AObj.rows _ _ _), (_, AObj.rows _ _ _), (_, AObj.rows _ _ _), (_, AObj.rows _ _ _), (_, AObj.rows _ _ _), (_, AObj.rows _ _ _), (_, AObj.rows _ _ _), (_, AObj.rows _ _ _)] = [(_, AObj.rows _ _ _), (_, AObj.rows _ _ _), (_, AObj.rows _ _ _), (_, AObj.rows _ _ _), (_, AObj.rows _ _ _), (_, AObj.rows _ _ _), (_, AObj.rows _ _ _), (_, AObj.rows _ _ _)]; simp [gcells, Ga.app, cellsA, FRef.av, FRef.cells, MRef.av, MRef.cells, nDot, gaM, e1, e2, e3]))
 ·intro hc
  have t1 : anyR l (mHold p ref) = false := hc
  have e1 := fun {α : Type} (x : α) => Z79 t1 x
  have e3 := fun {α : Type} (x : α) => Z79 (show (anyR l (mHold p ref) && (((getP p ref).getD zMt).static && beqS ref.desc nAsk)) = false by rw [t1]; rfl) x
  refine qK (qS (qR (qM (qN ?_))))
  refine Z2 rfl ?_ ?_
  ·intro hc
   have t2 : nmsR l (mHold p ref) = true := hc
   have e2 := fun {α : Type} (x : α) => Z5g t2 x
   refine Z13 [0, 0, 2, 6, 14, 30, 0, 64, 0, 256, 960, 1984, 4094, 8191, 16383, 32767, 65535] [12, 16] [5, 7, 9, 11] rfl (by kernel_rfl) ?_
   refine Zl (w0 rfl) rfl (Z0d rfl rfl) rfl ?_
   refine Zl (w0 rfl) rfl (Z0d rfl rfl) rfl ?_
   refine Zl (w0 rfl) rfl (Zu rfl rfl rfl) rfl ?_
   refine Zl (w0 rfl) rfl (Z1 rfl rfl rfl) rfl ?_
   refine Zl (w0 rfl) rfl (Z1 rfl rfl rfl) rfl ?_
   refine Zo 3 (w0 rfl) rfl rfl rfl rfl rfl Z9 rfl rfl ?_
   refine Zl (w0 rfl) rfl (Z1 rfl rfl rfl) rfl ?_
   refine Zo 2 (w0 rfl) rfl rfl rfl rfl rfl Z9 rfl rfl ?_
   refine Zl (w0 rfl) rfl (Z1 rfl rfl rfl) rfl ?_
   refine Zo 2 (w0 rfl) rfl rfl rfl rfl rfl Z9 rfl rfl ?_
   refine Zl (w0 rfl) rfl (Z1f rfl rfl rfl (by have k0 : ByteArray.size ⟨#[40, 41, 73]⟩ = 3 := rfl; have k1 : ByteArray.size ⟨#[46]⟩ = 1 := rfl; (try simp only [ByteArray.size_append, small] at *) <;> omega)) rfl ?_
   refine Z1k (w0 rfl) rfl (fun id => Zw id (ps := [(0, .tmp 87)]) rfl rfl rfl rfl rfl rfl rfl rfl) rfl rfl (fun id14 => ?_)
   refine Z0u 10 [] (w0 rfl) rfl rfl rfl rfl (by simp) rfl ⟨rfl, _, _, List.mem_of_getElem? (i := 0) rfl, by simp, rfl⟩ (by first | omega | (simp; omega) | (simp [maxLen]; omega) | (simp; done) | (simp [maxLen]; done)) (by first | omega | (simp; omega) | (simp [maxLen]; omega) | (simp; done) | (simp [maxLen]; done)) rfl (fun _ => trivial) (fun id15 => ?_)
   refine Zl (w0 rfl) rfl (Zu rfl rfl rfl) rfl ?_
   refine Zl (w0 rfl) rfl (Z1 rfl rfl rfl) rfl ?_
   refine Zl (w0 rfl) rfl (Z1 rfl rfl rfl) rfl ?_
   refine Z0t 4 [] (w0 rfl) rfl rfl rfl rfl rfl rfl rfl rfl rfl rfl trivial ?_
   refine .done ?_
   exact Za rfl Z4 (.cons _ (.cons _ (.cons _ (.cons _ (.cons_cons _ (.cons_cons _ (.cons_cons _ (.cons_cons _ (.cons_cons _ (.cons_cons _ (.cons_cons _ (.cons_cons _ .slnil)))))))))))) (gp ⟨i.cl, i.fd, i.md, i.cn, i.fn, id15, i.lk⟩ trivial rfl (by show [(_, AObj.rows _ _ _), (_, AObj.rows _ _ _), (_, AObj.rows _ _ _), (_, AObj.rows _ _ _), (_, AObj.rows _ _ _), (_, AObj.rows _ _ _), (_, AObj.rows _ _ _), (_, AObj.rows _ _ _)] = [(_, AObj.rows _ _ _), (_, AObj.rows _ _ _), (_, AObj.rows _ _ _), (_, AObj.rows _ _ _), (_, AObj.rows _ _ _), (_, AObj.rows _ _ _), (_, AObj.rows _ _ _), (_, AObj.rows _ _ _)]; simp [gcells, Ga.app, cellsA, FRef.av, FRef.cells, MRef.av, MRef.cells, nDot, gaM, e1, e2, e3]))
  ·intro hc
   have t2 : nmsR l (mHold p ref) = false := hc
   have e2 := fun {α : Type} (x : α) => Z79 t2 x
   refine qK ?_
   exact Za rfl Z4 (.cons _ (.cons _ (.cons _ (.cons_cons _ (.cons_cons _ (.cons_cons _ (.cons_cons _ (.cons_cons _ (.cons_cons _ (.cons_cons _ (.cons_cons _ .slnil))))))))))) (gp ⟨i.cl, i.fd, i.md, i.cn, i.fn, i.mn, i.lk⟩ trivial rfl (by show [(_, AObj.rows _ _ _), (_, AObj.rows _ _ _), (_, AObj.rows _ _ _), (_, AObj.rows _ _ _), (_, AObj.rows _ _ _), (_, AObj.rows _ _ _), (_, AObj.rows _ _ _), (_, AObj.rows _ _ _)] = [(_, AObj.rows _ _ _), (_, AObj.rows _ _ _), (_, AObj.rows _ _ _), (_, AObj.rows _ _ _), (_, AObj.rows _ _ _), (_, AObj.rows _ _ _), (_, AObj.rows _ _ _), (_, AObj.rows _ _ _)]; simp [gcells, Ga.app, cellsA, FRef.av, FRef.cells, MRef.av, MRef.cells, nDot, gaM, e1, e2, e3]))
end Go.Sx
namespace Go.Sx
open Go
variable {P : Program} {ro : Option Nat} {Q : Exit → St → Prop} {s : St}
theorem Z8l {x y : Code} {α : Type} (inv : α → St) (J : α → Prop) (h : AWp P ro x (thenQ (fun s' => ∃ a, J a ∧ Weak s' (inv a)) Q) s) (hy : ∀ a, J a → AWp P ro y Q (inv a)) : AWp P ro (.seq x y) Q s :=
 Za1 (Z8m h (by
  intro e s h
  cases e with
  | normal => obtain ⟨a, ja, hw⟩ := h; exact Z18 hw (hy a ja)
  | _ => exact h))
end Go.Sx
namespace Go.Sx
open Go Go.Proofs
def gaK1 (l : List Rule) (c : Cls) : Ga := ⟨okB (anyR l (clsR · c.name)) c.name, [], [], [], [], [], []⟩
theorem Zec (l : List Rule) (c : Cls) : (gaK1 l c).bd 1 := ⟨Z2p _ _, Nat.zero_le _, Nat.zero_le _, Nat.zero_le _, Nat.zero_le _, Nat.zero_le _, Nat.zero_le _⟩
def gaFN (p : Prog) (l : List Rule) (a : Ga) (c : Cls) (n : Nat) : Ga := (a.app (gaK l c)).app (Ga.sum ((c.fields.take n).map fun f : Fld => gaF textT p l ⟨c.name, f.name⟩))
def gaMN (p : Prog) (l : List Rule) (a : Ga) (c : Cls) (n : Nat) : Ga := ((a.app (gaK l c)).app (Ga.sum (gaFs textT p l c))).app (Ga.sum ((c.methods.take n).map fun m : Meth => gaM p l ⟨c.name, m.name, m.desc⟩))
theorem Z75 (p : Prog) (l : List Rule) (a : Ga) (c : Cls) : gaFN p l a c 0 = a.app (gaK l c) := Ga.app_nil _
theorem Zau (p : Prog) (l : List Rule) (a : Ga) (c : Cls) {n : Nat} (h : n < c.fields.length) : gaFN p l a c (n + 1) = (gaFN p l a c n).app (gaF textT p l ⟨c.name, c.fields[n].name⟩) := Ga.sum_take h _
theorem Zcr (p : Prog) (l : List Rule) (a : Ga) (c : Cls) {n : Nat} (h : ¬ n < c.fields.length) : gaFN p l a c n = gaMN p l a c 0 := by
 unfold gaFN gaMN gaFs; rw [List.take_of_length_le (by omega)]; exact (Ga.app_nil _).symm
theorem Zax (p : Prog) (l : List Rule) (a : Ga) (c : Cls) {n : Nat} (h : n < c.methods.length) : gaMN p l a c (n + 1) = (gaMN p l a c n).app (gaM p l ⟨c.name, c.methods[n].name, c.methods[n].desc⟩) := Ga.sum_take h _
theorem Zcs (p : Prog) (l : List Rule) (a : Ga) (c : Cls) {n : Nat} (h : ¬ n < c.methods.length) : gaMN p l a c n = a.app (gaC textT p l c) := by
 unfold gaMN; rw [List.take_of_length_le (by omega), gaC]; simp only [Ga.app_assoc]; rfl
theorem Zeb (p : Prog) (l : List Rule) {a : Ga} (ha : a.bd 500000) (c : Cls) (hf4 : c.fields.length ≤ 40) (n : Nat) : (gaFN p l a c n).bd 1000000 :=
 Ga.bd_le (Ga.bd_app (Ga.bd_app ha (Zaw l c)) (Ga.bd_sum (m := 1) (fun f => Zav _ _ _ _) _)) (by rw [List.length_take]; omega)
theorem Zed (p : Prog) (l : List Rule) {a : Ga} (ha : a.bd 500000) (c : Cls) (hf4 : c.fields.length ≤ 40) (hm4 : c.methods.length ≤ 40) (n : Nat) : (gaMN p l a c n).bd 1000000 :=
 Ga.bd_le (Ga.bd_app (Ga.bd_app (Ga.bd_app ha (Zaw l c)) (Ga.bd_sum (m := 1) (fun f => Zav _ _ _ _) _)) (Ga.bd_sum (m := 1) (fun f => Zdd _ _ _) _)) (by rw [List.length_take]; omega)
theorem Zc5 (p : Prog) (hp : p.ok) (l : List Rule) (hl : small l.length) (hr : ∀ r, r ∈ l → r.ok) (a : Ga) (ha : a.bd 500000) (i : Ids) (g : Nat) (c : Cls) (hc0 : c.ok) (hf4 : c.fields.length ≤ 40) (hm4 : c.methods.length ≤ 40) : ACalls Tryz.prog 49 [.ptr g 13 0 0, c.av] [(g, .rows 91 13 [gcells p l a i]), (i.cl, .rows 9 1 (a.cl.map fun x => [sA x])), (i.fd, .rows 46 2 (a.fd.map FRef.cells)), (i.md, .rows 25 3 (a.md.map MRef.cells)), (i.cn, .rows 9 1 (a.cn.map fun x => [sA x])), (i.fn, .rows 9 1 (a.fn.map fun x => [sA x])), (i.mn, .rows 9 1 (a.mn.map fun x => [sA x])), (i.lk, .rows 9 1 (a.lk.map fun x => [sA x]))] (GP (fun _ : Ids => mkRes []) (fun i => [(g, .rows 91 13 [gcells p l (a.app (gaC textT p l c)) i]), (i.cl, .rows 9 1 ((a.app (gaC textT p l c)).cl.map fun x => [sA x])), (i.fd, .rows 46 2 ((a.app (gaC textT p l c)).fd.map FRef.cells)), (i.md, .rows 25 3 ((a.app (gaC textT p l c)).md.map MRef.cells)), (i.cn, .rows 9 1 ((a.app (gaC textT p l c)).cn.map fun x => [sA x])), (i.fn, .rows 9 1 ((a.app (gaC textT p l c)).fn.map fun x => [sA x])), (i.mn, .rows 9 1 ((a.app (gaC textT p l c)).mn.map fun x => [sA x])), (i.lk, .rows 9 1 ((a.app (gaC textT p l c)).lk.map fun x => [sA x]))]) (fun _ => True)) := by
 have hcn := hc0.name
 have hcf := hc0.fields.2
 have hcm := hc0.methods.2
 simp only [small] at hcn
 have q1 := ha.cl
 have q2 := ha.fd
 have q3 := ha.md
 have q4 := ha.cn
 have q5 := ha.fn
 have q6 := ha.mn
 have q7 := ha.lk
 refine Zc (n := 79) Tryz.func49 rfl (by decide +kernel) rfl rfl ?_
 refine qS (qR ?_)
 refine Z02 (w0 rfl) rfl (fun id => Z0b id rfl rfl rfl rfl rfl) (fun id1 => ?_)
 refine qN (qS (qR (qM ?_)))
 refine qe (Zu rfl rfl rfl) ?_
 refine qe (Z1 rfl rfl rfl) ?_
 refine qL 1 Z9 ?_
 refine qe (Z1b rfl rfl) ?_
 refine Z0v [_] _ (w0 rfl) rfl rfl rfl rfl (Z2k [0] rfl) (Zac l hl 88 _ _ (clsR · c.name) (fun r hm => Zdn c hc0.name id1 r (hr r hm))) ?_
 refine qM ?_
 refine qe (Zi rfl rfl rfl) ?_
 refine qe (Zi rfl rfl rfl) ?_
 refine qA (qA (qN ?_))
 refine Z8l (α := Ids) (fun j1 => ⟨[(0, .ptr g 13 0 0), (3, .ptr id1 7 0 0), (5, bA (nmsR l (clsR · c.name)))], [(g, .rows 91 13 [gcells p l (a.app (gaK1 l c)) j1]), (j1.cl, .rows 9 1 ((a.app (gaK1 l c)).cl.map fun x => [sA x])), (j1.fd, .rows 46 2 ((a.app (gaK1 l c)).fd.map FRef.cells)), (j1.md, .rows 25 3 ((a.app (gaK1 l c)).md.map MRef.cells)), (j1.cn, .rows 9 1 ((a.app (gaK1 l c)).cn.map fun x => [sA x])), (j1.fn, .rows 9 1 ((a.app (gaK1 l c)).fn.map fun x => [sA x])), (j1.mn, .rows 9 1 ((a.app (gaK1 l c)).mn.map fun x => [sA x])), (j1.lk, .rows 9 1 ((a.app (gaK1 l c)).lk.map fun x => [sA x])), (id1, .rows 53 7 [c.cells])], [], 79⟩) (fun j1 => True) ?_ ?_
 ·skip
  refine qS (qR (qM (qN ?_)))
  refine Z2 rfl ?_ ?_
  ·intro hc
   have t1 : anyR l (clsR · c.name) = true := hc
   have e1 := fun {α : Type} (x : α) => Z5g t1 x
   refine Z13 [0, 0, 2, 6, 14, 30, 0, 64, 192, 510, 1023, 2047, 4095, 8191] [9, 13] [5, 7, 8] rfl (by kernel_rfl) ?_
   refine Zl (w0 rfl) rfl (Z0d rfl rfl) rfl ?_
   refine Zl (w0 rfl) rfl (Z0d rfl rfl) rfl ?_
   refine Zl (w0 rfl) rfl (Zu rfl rfl rfl) rfl ?_
   refine Zl (w0 rfl) rfl (Z1 rfl rfl rfl) rfl ?_
   refine Zl (w0 rfl) rfl (Z1 rfl rfl rfl) rfl ?_
   refine Zo 1 (w0 rfl) rfl rfl rfl rfl rfl Z9 rfl rfl ?_
   refine Zl (w0 rfl) rfl (Z1 rfl rfl rfl) rfl ?_
   refine Zo 0 (w0 rfl) rfl rfl rfl rfl rfl Z9 rfl rfl ?_
   refine Z1k (w0 rfl) rfl (fun id => Zw id (ps := [(0, .tmp 27)]) rfl rfl rfl rfl rfl rfl rfl rfl) rfl rfl (fun id2 => ?_)
   refine Z0u 3 [] (w0 rfl) rfl rfl rfl rfl (by simp) rfl ⟨rfl, _, _, List.mem_of_getElem? (i := 0) rfl, by simp, rfl⟩ (by first | omega | (simp; omega) | (simp [maxLen]; omega) | (simp; done) | (simp [maxLen]; done)) (by first | omega | (simp; omega) | (simp [maxLen]; omega) | (simp; done) | (simp [maxLen]; done)) rfl (fun _ => trivial) (fun id3 => ?_)
   refine Zl (w0 rfl) rfl (Zu rfl rfl rfl) rfl ?_
   refine Zl (w0 rfl) rfl (Z1 rfl rfl rfl) rfl ?_
   refine Zl (w0 rfl) rfl (Z1 rfl rfl rfl) rfl ?_
   refine Z0t 2 [] (w0 rfl) rfl rfl rfl rfl rfl rfl rfl rfl rfl rfl trivial ?_
   refine .done ?_
   refine ⟨⟨id3, i.fd, i.md, i.cn, i.fn, i.mn, i.lk⟩, trivial, ?_⟩
   exact Zg [2, 3, 4, 5, 6, 7, 8, 9, 1] ⟨rfl, rfl, rfl, trivial⟩ (by show some [(_, AObj.rows _ _ _), (_, AObj.rows _ _ _), (_, AObj.rows _ _ _), (_, AObj.rows _ _ _), (_, AObj.rows _ _ _), (_, AObj.rows _ _ _), (_, AObj.rows _ _ _), (_, AObj.rows _ _ _), (_, AObj.rows _ _ _)] = some [(_, AObj.rows _ _ _), (_, AObj.rows _ _ _), (_, AObj.rows _ _ _), (_, AObj.rows _ _ _), (_, AObj.rows _ _ _), (_, AObj.rows _ _ _), (_, AObj.rows _ _ _), (_, AObj.rows _ _ _), (_, AObj.rows _ _ _)]; simp [gcells, Ga.app, cellsA, Cls.av, Cls.cells, gaK1, e1]) (by decide) rfl rfl
  ·intro hc
   have t1 : anyR l (clsR · c.name) = false := hc
   have e1 := fun {α : Type} (x : α) => Z79 t1 x
   refine qK ?_
   refine ⟨⟨i.cl, i.fd, i.md, i.cn, i.fn, i.mn, i.lk⟩, trivial, ?_⟩
   exact Zg [1, 2, 3, 4, 5, 6, 7, 8, 0] ⟨rfl, rfl, rfl, trivial⟩ (by show some [(_, AObj.rows _ _ _), (_, AObj.rows _ _ _), (_, AObj.rows _ _ _), (_, AObj.rows _ _ _), (_, AObj.rows _ _ _), (_, AObj.rows _ _ _), (_, AObj.rows _ _ _), (_, AObj.rows _ _ _), (_, AObj.rows _ _ _)] = some [(_, AObj.rows _ _ _), (_, AObj.rows _ _ _), (_, AObj.rows _ _ _), (_, AObj.rows _ _ _), (_, AObj.rows _ _ _), (_, AObj.rows _ _ _), (_, AObj.rows _ _ _), (_, AObj.rows _ _ _), (_, AObj.rows _ _ _)]; simp [gcells, Ga.app, cellsA, Cls.av, Cls.cells, gaK1, e1]) (by decide) rfl rfl
 ·rintro j1 hJ
  have qk := Ga.bd_app ha (Zec l c)
  have q8 := qk.cn
  refine Z8l (α := Ids) (fun j2 => ⟨[(0, .ptr g 13 0 0), (3, .ptr id1 7 0 0)], [(g, .rows 91 13 [gcells p l (gaFN p l a c 0) j2]), (j2.cl, .rows 9 1 ((gaFN p l a c 0).cl.map fun x => [sA x])), (j2.fd, .rows 46 2 ((gaFN p l a c 0).fd.map FRef.cells)), (j2.md, .rows 25 3 ((gaFN p l a c 0).md.map MRef.cells)), (j2.cn, .rows 9 1 ((gaFN p l a c 0).cn.map fun x => [sA x])), (j2.fn, .rows 9 1 ((gaFN p l a c 0).fn.map fun x => [sA x])), (j2.mn, .rows 9 1 ((gaFN p l a c 0).mn.map fun x => [sA x])), (j2.lk, .rows 9 1 ((gaFN p l a c 0).lk.map fun x => [sA x])), (id1, .rows 53 7 [c.cells])], [], 79⟩) (fun j2 => True) ?_ ?_
  ·skip
   refine qS (qR (qM (qN ?_)))
   refine Z2 rfl ?_ ?_
   ·intro hc
    have t2 : nmsR l (clsR · c.name) = true := hc
    have e2 := fun {α : Type} (x : α) => Z5g t2 x
    refine Z13 [0, 0, 2, 6, 14, 30, 0, 64, 192, 510, 1023, 2047, 4095, 8191] [9, 13] [5, 7, 8] rfl (by kernel_rfl) ?_
    refine Zl (w0 rfl) rfl (Z0d rfl rfl) rfl ?_
    refine Zl (w0 rfl) rfl (Z0d rfl rfl) rfl ?_
    refine Zl (w0 rfl) rfl (Zu rfl rfl rfl) rfl ?_
    refine Zl (w0 rfl) rfl (Z1 rfl rfl rfl) rfl ?_
    refine Zl (w0 rfl) rfl (Z1 rfl rfl rfl) rfl ?_
    refine Zo 0 (w0 rfl) rfl rfl rfl rfl rfl Z9 rfl rfl ?_
    refine Zl (w0 rfl) rfl (Z1 rfl rfl rfl) rfl ?_
    refine Zo 8 (w0 rfl) rfl rfl rfl rfl rfl Z9 rfl rfl ?_
    refine Z1k (w0 rfl) rfl (fun id => Zw id (ps := [(0, .tmp 41)]) rfl rfl rfl rfl rfl rfl rfl rfl) rfl rfl (fun id4 => ?_)
    refine Z0u 5 [] (w0 rfl) rfl rfl rfl rfl (by simp) rfl ⟨rfl, _, _, List.mem_of_getElem? (i := 0) rfl, by simp, rfl⟩ (by first | omega | (simp; omega) | (simp [maxLen]; omega) | (simp; done) | (simp [maxLen]; done)) (by first | omega | (simp; omega) | (simp [maxLen]; omega) | (simp; done) | (simp [maxLen]; done)) rfl (fun _ => trivial) (fun id5 => ?_)
    refine Zl (w0 rfl) rfl (Zu rfl rfl rfl) rfl ?_
    refine Zl (w0 rfl) rfl (Z1 rfl rfl rfl) rfl ?_
    refine Zl (w0 rfl) rfl (Z1 rfl rfl rfl) rfl ?_
    refine Z0t 1 [] (w0 rfl) rfl rfl rfl rfl rfl rfl rfl rfl rfl rfl trivial ?_
    refine .done ?_
    refine ⟨⟨j1.cl, j1.fd, j1.md, id5, j1.fn, j1.mn, j1.lk⟩, trivial, ?_⟩
    exact Zg [1, 2, 3, 4, 5, 6, 7, 8, 9] ⟨rfl, rfl, trivial⟩ (by show some [(_, AObj.rows _ _ _), (_, AObj.rows _ _ _), (_, AObj.rows _ _ _), (_, AObj.rows _ _ _), (_, AObj.rows _ _ _), (_, AObj.rows _ _ _), (_, AObj.rows _ _ _), (_, AObj.rows _ _ _), (_, AObj.rows _ _ _)] = some [(_, AObj.rows _ _ _), (_, AObj.rows _ _ _), (_, AObj.rows _ _ _), (_, AObj.rows _ _ _), (_, AObj.rows _ _ _), (_, AObj.rows _ _ _), (_, AObj.rows _ _ _), (_, AObj.rows _ _ _), (_, AObj.rows _ _ _)]; rw [Z75]; simp [gcells, Ga.app, cellsA, Cls.av, Cls.cells, gaK, gaK1, e2]) (by decide) rfl rfl
   ·intro hc
    have t2 : nmsR l (clsR · c.name) = false := hc
    have e2 := fun {α : Type} (x : α) => Z79 t2 x
    refine qK ?_
    refine ⟨⟨j1.cl, j1.fd, j1.md, j1.cn, j1.fn, j1.mn, j1.lk⟩, trivial, ?_⟩
    exact Zg [0, 1, 2, 3, 4, 5, 6, 7, 8] ⟨rfl, rfl, trivial⟩ (by show some [(_, AObj.rows _ _ _), (_, AObj.rows _ _ _), (_, AObj.rows _ _ _), (_, AObj.rows _ _ _), (_, AObj.rows _ _ _), (_, AObj.rows _ _ _), (_, AObj.rows _ _ _), (_, AObj.rows _ _ _), (_, AObj.rows _ _ _)] = some [(_, AObj.rows _ _ _), (_, AObj.rows _ _ _), (_, AObj.rows _ _ _), (_, AObj.rows _ _ _), (_, AObj.rows _ _ _), (_, AObj.rows _ _ _), (_, AObj.rows _ _ _), (_, AObj.rows _ _ _), (_, AObj.rows _ _ _)]; rw [Z75]; simp [gcells, Ga.app, cellsA, Cls.av, Cls.cells, gaK, gaK1, e2]) (by decide) rfl rfl
  ·rintro j2 hJ
   refine qS (qS (qR ?_))
   refine qe (Z1 rfl rfl rfl) ?_
   refine qL 8 Z9 ?_
   refine qe (Zx rfl rfl rfl rfl) ?_
   refine qM (qN (qB ?_))
   refine Zk (α := Ids × Nat) (fun x => ⟨[(48, .lst (c.fields.map Fld.cells)), (49, iA c.fields.length), (50, iA x.2), (0, .ptr g 13 0 0), (3, .ptr id1 7 0 0)], [(g, .rows 91 13 [gcells p l (gaFN p l a c x.2) x.1]), (x.1.cl, .rows 9 1 ((gaFN p l a c x.2).cl.map fun x => [sA x])), (x.1.fd, .rows 46 2 ((gaFN p l a c x.2).fd.map FRef.cells)), (x.1.md, .rows 25 3 ((gaFN p l a c x.2).md.map MRef.cells)), (x.1.cn, .rows 9 1 ((gaFN p l a c x.2).cn.map fun x => [sA x])), (x.1.fn, .rows 9 1 ((gaFN p l a c x.2).fn.map fun x => [sA x])), (x.1.mn, .rows 9 1 ((gaFN p l a c x.2).mn.map fun x => [sA x])), (x.1.lk, .rows 9 1 ((gaFN p l a c x.2).lk.map fun x => [sA x])), (id1, .rows 53 7 [c.cells])], [], 79⟩) (fun x => x.2 ≤ c.fields.length) (fun x => c.fields.length - x.2) (j2, 0) (Nat.zero_le _) ?_ ?_
   ·exact Zg [0, 1, 2, 3, 4, 5, 6, 7, 8] ⟨rfl, (by show some (iA _) = some (iA _); simp), rfl, rfl, rfl, trivial⟩ rfl (by decide) rfl rfl
   rintro x hJ
   refine qS (qR ?_)
   refine qe eI ?_
   refine qN (qS ?_)
   refine Z2 rfl ?_ ?_
   ·intro hc
    have hx : x.2 < c.fields.length := by simpa using hc
    have ex := Zau p l a c hx
    refine qK (qS (qB (qS (qR ?_))))
    refine qe (Zh rfl rfl rfl (Z09 (fun _ => rfl)) (by first | omega | (simp only [List.length_map]; omega) | (simp only [List.length_map, List.length_drop]; omega)) (by first | omega | (simp only [List.length_map]; omega) | (simp only [List.length_map, List.length_drop]; omega))) ?_
    refine qe (Z03 rfl rfl (Z0h (by first | assumption | omega | (simp only [List.length_drop]; omega))) (Z01 (Nat.le_of_ble_eq_true rfl))) ?_
    refine Z02 (w0 rfl) rfl (fun id => Z0e id rfl rfl rfl) (fun id6 => ?_)
    refine Z06 0 (w0 rfl) rfl rfl rfl rfl rfl rfl rfl rfl rfl ?_
    refine qN (qR (qM ?_))
    refine qe (Z1 rfl rfl rfl) ?_
    refine qL 9 Z9 ?_
    refine qe (Z1 rfl rfl rfl) ?_
    refine qL 0 Z9 ?_
    refine qe (Zn (y := FRef.av ⟨c.name, c.fields[x.2].name⟩) (Z0r rfl rfl rfl) (rfl)) ?_
    refine Z3 [_, _, _, _, _, _, _, _] _ (w0 rfl) rfl rfl rfl rfl (Z2k [1, 1, 1, 1, 1, 1, 1, 1] rfl) (Zc6 p hp l hl hr (gaFN p l a c x.2) (Zeb p l ha c hf4 _) x.1 g ⟨c.name, c.fields[x.2].name⟩ ⟨hc0.name, (hcf _ (List.getElem_mem hx)).name⟩) (fun v7 hv7 => ?_)
    refine qN (qR ?_)
    refine qe (Zb rfl rfl rfl (Zp (by first | omega | (simp only [List.length_map]; omega)))) ?_
    refine qM (qN ?_)
    refine ⟨(v7, x.2 + 1), (by show x.2 + 1 ≤ _; omega), (by show c.fields.length - (x.2 + 1) < c.fields.length - x.2; omega), ?_⟩
    exact Zg [0, 1, 2, 3, 4, 5, 6, 7, 9] ⟨rfl, rfl, rfl, rfl, rfl, trivial⟩ (by show some [(_, AObj.rows _ _ _), (_, AObj.rows _ _ _), (_, AObj.rows _ _ _), (_, AObj.rows _ _ _), (_, AObj.rows _ _ _), (_, AObj.rows _ _ _), (_, AObj.rows _ _ _), (_, AObj.rows _ _ _), (_, AObj.rows _ _ _)] = some [(_, AObj.rows _ _ _), (_, AObj.rows _ _ _), (_, AObj.rows _ _ _), (_, AObj.rows _ _ _), (_, AObj.rows _ _ _), (_, AObj.rows _ _ _), (_, AObj.rows _ _ _), (_, AObj.rows _ _ _), (_, AObj.rows _ _ _)]; rw [ex]) (by decide) rfl rfl
   ·intro hc
    have hx : ¬ x.2 < c.fields.length := by simpa using hc
    have e0 := Zcr p l a c hx
    refine qX (qS (qR ?_))
    refine qe (Z1 rfl rfl rfl) ?_
    refine qL 8 Z9 ?_
    refine qe (Zx rfl rfl rfl rfl) ?_
    refine qM (qN (qB ?_))
    refine Zk (α := Ids × Nat) (fun y => ⟨[(63, .lst (c.methods.map Meth.cells)), (64, iA c.methods.length), (65, iA y.2), (0, .ptr g 13 0 0), (3, .ptr id1 7 0 0)], [(g, .rows 91 13 [gcells p l (gaMN p l a c y.2) y.1]), (y.1.cl, .rows 9 1 ((gaMN p l a c y.2).cl.map fun x => [sA x])), (y.1.fd, .rows 46 2 ((gaMN p l a c y.2).fd.map FRef.cells)), (y.1.md, .rows 25 3 ((gaMN p l a c y.2).md.map MRef.cells)), (y.1.cn, .rows 9 1 ((gaMN p l a c y.2).cn.map fun x => [sA x])), (y.1.fn, .rows 9 1 ((gaMN p l a c y.2).fn.map fun x => [sA x])), (y.1.mn, .rows 9 1 ((gaMN p l a c y.2).mn.map fun x => [sA x])), (y.1.lk, .rows 9 1 ((gaMN p l a c y.2).lk.map fun x => [sA x])), (id1, .rows 53 7 [c.cells])], [], 79⟩) (fun y => y.2 ≤ c.methods.length) (fun y => c.methods.length - y.2) (x.1, 0) (Nat.zero_le _) ?_ ?_
    ·exact Zg [0, 1, 2, 3, 4, 5, 6, 7, 8] ⟨rfl, (by show some (iA _) = some (iA _); simp), rfl, rfl, rfl, trivial⟩ (by show some [(_, AObj.rows _ _ _), (_, AObj.rows _ _ _), (_, AObj.rows _ _ _), (_, AObj.rows _ _ _), (_, AObj.rows _ _ _), (_, AObj.rows _ _ _), (_, AObj.rows _ _ _), (_, AObj.rows _ _ _), (_, AObj.rows _ _ _)] = some [(_, AObj.rows _ _ _), (_, AObj.rows _ _ _), (_, AObj.rows _ _ _), (_, AObj.rows _ _ _), (_, AObj.rows _ _ _), (_, AObj.rows _ _ _), (_, AObj.rows _ _ _), (_, AObj.rows _ _ _), (_, AObj.rows _ _ _)]; rw [e0]) (by decide) rfl rfl
    rintro y hJ2
    refine qS (qR ?_)
    refine qe eI ?_
    refine qN (qS ?_)
    refine Z2 rfl ?_ ?_
    ·intro hc
     have hy : y.2 < c.methods.length := by simpa using hc
     have ey := Zax p l a c hy
     refine qK (qS (qB (qS (qR ?_))))
     refine qe (Zh rfl rfl rfl (Z09 (fun _ => rfl)) (by first | omega | (simp only [List.length_map]; omega) | (simp only [List.length_map, List.length_drop]; omega)) (by first | omega | (simp only [List.length_map]; omega) | (simp only [List.length_map, List.length_drop]; omega))) ?_
     refine qe (Z03 rfl rfl (Z0h (by first | assumption | omega | (simp only [List.length_drop]; omega))) (Z01 (Nat.le_of_ble_eq_true rfl))) ?_
     refine Z02 (w0 rfl) rfl (fun id => Z0e id rfl rfl rfl) (fun id8 => ?_)
     refine Z06 0 (w0 rfl) rfl rfl rfl rfl rfl rfl rfl rfl rfl ?_
     refine qN (qR (qM ?_))
     refine qe (Z1 rfl rfl rfl) ?_
     refine qL 9 Z9 ?_
     refine qe (Z1 rfl rfl rfl) ?_
     refine qL 0 Z9 ?_
     refine qe (Z1 rfl rfl rfl) ?_
     refine qL 0 Z9 ?_
     refine qe (Zn (y := MRef.av ⟨c.name, c.methods[y.2].name, c.methods[y.2].desc⟩) (Z0r rfl rfl rfl) (rfl)) ?_
     refine Z3 [_, _, _, _, _, _, _, _] _ (w0 rfl) rfl rfl rfl rfl (Z2k [1, 1, 1, 1, 1, 1, 1, 1] rfl) (Za7 p hp l hl hr (gaMN p l a c y.2) (Zed p l ha c hf4 hm4 _) y.1 g ⟨c.name, c.methods[y.2].name, c.methods[y.2].desc⟩ ⟨hc0.name, (hcm _ (List.getElem_mem hy)).name, (hcm _ (List.getElem_mem hy)).desc⟩) (fun v9 hv9 => ?_)
     refine qN (qR ?_)
     refine qe (Zb rfl rfl rfl (Zp (by first | omega | (simp only [List.length_map]; omega)))) ?_
     refine qM (qN ?_)
     refine ⟨(v9, y.2 + 1), (by show y.2 + 1 ≤ _; omega), (by show c.methods.length - (y.2 + 1) < c.methods.length - y.2; omega), ?_⟩
     exact Zg [0, 1, 2, 3, 4, 5, 6, 7, 9] ⟨rfl, rfl, rfl, rfl, rfl, trivial⟩ (by show some [(_, AObj.rows _ _ _), (_, AObj.rows _ _ _), (_, AObj.rows _ _ _), (_, AObj.rows _ _ _), (_, AObj.rows _ _ _), (_, AObj.rows _ _ _), (_, AObj.rows _ _ _), (_, AObj.rows _ _ _), (_, AObj.rows _ _ _)] = some [(_, AObj.rows _ _ _), (_, AObj.rows _ _ _), (_, AObj.rows _ _ _), (_, AObj.rows _ _ _), (_, AObj.rows _ _ _), (_, AObj.rows _ _ _), (_, AObj.rows _ _ _), (_, AObj.rows _ _ _), (_, AObj.rows _ _ _)]; rw [ey]) (by decide) rfl rfl
    ·intro hc
     have hy : ¬ y.2 < c.methods.length := by simpa using hc
     have e9 := Zcs p l a c hy
     refine qX ?_
     exact Za rfl Z4 (.cons_cons _ (.cons_cons _ (.cons_cons _ (.cons_cons _ (.cons_cons _ (.cons_cons _ (.cons_cons _ (.cons_cons _ (.cons _ .slnil))))))))) (gp y.1 trivial rfl (by show [(_, AObj.rows _ _ _), (_, AObj.rows _ _ _), (_, AObj.rows _ _ _), (_, AObj.rows _ _ _), (_, AObj.rows _ _ _), (_, AObj.rows _ _ _), (_, AObj.rows _ _ _), (_, AObj.rows _ _ _)] = [(_, AObj.rows _ _ _), (_, AObj.rows _ _ _), (_, AObj.rows _ _ _), (_, AObj.rows _ _ _), (_, AObj.rows _ _ _), (_, AObj.rows _ _ _), (_, AObj.rows _ _ _), (_, AObj.rows _ _ _)]; rw [e9]))
def zRoots : List AV := [.v (.slice none 0 0), .v (.slice none 0 0), .v (.slice none 0 0), .v (.slice none 0 0), .v (.slice none 0 0), .v (.slice none 0 0), .v (.slice none 0 0)]
def gaPN (p : Prog) (l : List Rule) (n : Nat) : Ga := Ga.sum ((p.classes.take n).map (gaC textT p l))
theorem Zay (p : Prog) (l : List Rule) {n : Nat} (h : n < p.classes.length) : gaPN p l (n + 1) = (gaPN p l n).app (gaC textT p l p.classes[n]) := by
 have := Ga.sum_take (f := gaC textT p l) h Ga.nil
 rw [Ga.nil_app, Ga.nil_app] at this; exact this
theorem Z69 (p : Prog) (l : List Rule) {n : Nat} (h : ¬ n < p.classes.length) : gaPN p l n = gaP textT p l := by unfold gaPN gaP; rw [List.take_of_length_le (by omega)]
theorem Z5w {p : Prog} (h : greatP p = false) : p.classes.length ≤ 70 ∧ ∀ c, c ∈ p.classes → c.fields.length ≤ 40 ∧ c.methods.length ≤ 40 := by
 unfold greatP greatP0 at h
 rw [Bool.or_eq_false_iff, Bool.or_eq_false_iff] at h
 refine ⟨by have := h.1.1; simp at this; omega, fun c hc => ?_⟩
 have h2 := List.any_eq_false.1 h.2 c hc
 unfold greatC greatC0 at h2
 simp at h2
 omega
theorem Zey (p : Prog) (l : List Rule) (c : Cls) (hf : c.fields.length ≤ 40) (hm : c.methods.length ≤ 40) : (gaC textT p l c).bd 81 :=
 Ga.bd_le (Ga.bd_app (Ga.bd_app (Zaw l c) (Ga.bd_sum (m := 1) (fun f => Zav _ _ _ _) _)) (Ga.bd_sum (m := 1) (fun f => Zdd _ _ _) _)) (by omega)
theorem Ga.bd_sumM {α : Type} {f : α → Ga} {m : Nat} : ∀ l : List α, (∀ x, x ∈ l → (f x).bd m) → (Ga.sum (l.map f)).bd (l.length * m)
 | [], _ => ⟨Nat.zero_le _, Nat.zero_le _, Nat.zero_le _, Nat.zero_le _, Nat.zero_le _, Nat.zero_le _, Nat.zero_le _⟩
 | x :: l, h => by
  have := Ga.bd_app (h x List.mem_cons_self) (Ga.bd_sumM l fun y hy => h y (List.mem_cons_of_mem _ hy))
  rw [List.length_cons, Nat.add_mul, Nat.one_mul, Nat.add_comm]
  exact this
theorem Z84 {p : Prog} (l : List Rule) (h : greatP p = false) (n : Nat) : (gaPN p l n).bd 5670 := by
 obtain ⟨h1, h2⟩ := Z5w h
 refine Ga.bd_le (Ga.bd_sumM (m := 81) _ fun c hc => ?_) (by rw [List.length_take]; omega)
 have := h2 c (List.mem_of_mem_take hc)
 exact Zey p l c this.1 this.2
theorem Z34 (l : List Str) (hl : l.length ≤ 1000000) : ACalls Tryz.prog 50 [row1 sA l] [] (Gives (row1 sA (risG tLt l))) := by
 refine Zc (n := 5) Tryz.func50 rfl (by decide +kernel) rfl rfl ?_
 refine qS (qR (qA (qN (qS (qR (qM ?_))))))
 refine qe (Z8 [] rfl rfl rfl (Z9i l hl) List.nodup_nil) ?_
 refine qA (qN (qE ?_))
 exact Z0x rfl (Z6 rfl Z4) (gvr rfl)
theorem Z3y (p : Prog) (hp : p.ok) (hgr : greatP p = false) (l : List Rule) (hl : small l.length) (hr : ∀ r, r ∈ l → r.ok) : ACalls Tryz.prog 18 [p.av, .lst (l.map Rule.cells)] [] (Gives (Roots.av (rootsG (gaP textT p l)))) := by
 have hb := Z9m hgr
 have hgb := Z69 p l (Nat.lt_irrefl p.classes.length) ▸ Z84 l hgr p.classes.length
 refine Zc (n := 60) Tryz.func18 rfl (by decide +kernel) rfl rfl ?_
 refine qS (qR ?_)
 refine Z02 (w0 rfl) rfl (fun id => Z0b id rfl rfl rfl rfl rfl) (fun id1 => ?_)
 refine Z02 (w0 rfl) rfl (fun id => Z0e id rfl rfl rfl) (fun id2 => ?_)
 refine qN (qS (qR ?_))
 refine qL 1 (Z01 (Nat.le_of_ble_eq_true rfl)) ?_
 refine qM ?_
 refine qe (Z0r rfl rfl rfl) ?_
 refine Z02 (w0 rfl) rfl (fun id => Z0b id rfl rfl rfl rfl rfl) (fun id3 => ?_)
 refine qA (qN (qS (qS ?_)))
 refine Z1n (qe := 9) (qs := 1) 0 6 rfl rfl (fun q0 => ?_)
 refine Z1n (qe := 46) (qs := 2) 1 7 rfl rfl (fun q1 => ?_)
 refine Z1n (qe := 25) (qs := 3) 2 8 rfl rfl (fun q2 => ?_)
 refine Z1n (qe := 9) (qs := 1) 3 9 rfl rfl (fun q3 => ?_)
 refine Z1n (qe := 9) (qs := 1) 4 10 rfl rfl (fun q4 => ?_)
 refine Z1n (qe := 9) (qs := 1) 5 11 rfl rfl (fun q5 => ?_)
 refine Z1n (qe := 9) (qs := 1) 6 12 rfl rfl (fun q6 => ?_)
 refine qR ?_
 refine qe (Z1 rfl rfl rfl) ?_
 refine qL 9 Z9 ?_
 refine qe (Zx rfl rfl rfl rfl) ?_
 refine qM (qN (qB ?_))
 refine Zk (α := Ids × Nat) (fun x => ⟨[(15, .lst (p.classes.map Cls.cells)), (16, iA p.classes.length), (17, iA x.2), (4, .ptr id2 7 0 0), (5, .ptr id3 13 0 0)], [(id3, .rows 91 13 [gcells p l (gaPN p l x.2) x.1]), (x.1.cl, .rows 9 1 ((gaPN p l x.2).cl.map fun x => [sA x])), (x.1.fd, .rows 46 2 ((gaPN p l x.2).fd.map FRef.cells)), (x.1.md, .rows 25 3 ((gaPN p l x.2).md.map MRef.cells)), (x.1.cn, .rows 9 1 ((gaPN p l x.2).cn.map fun x => [sA x])), (x.1.fn, .rows 9 1 ((gaPN p l x.2).fn.map fun x => [sA x])), (x.1.mn, .rows 9 1 ((gaPN p l x.2).mn.map fun x => [sA x])), (x.1.lk, .rows 9 1 ((gaPN p l x.2).lk.map fun x => [sA x])), (id1, .rows 27 5 [p.cells]), (id2, .rows 34 7 [zRoots])], [], 60⟩) (fun x => x.2 ≤ p.classes.length) (fun x => p.classes.length - x.2) (⟨q0, q1, q2, q3, q4, q5, q6⟩, 0) (Nat.zero_le _) ?_ ?_
 ·exact Zg [7, 6, 5, 4, 3, 2, 1, 0, 9, 8] ⟨rfl, (by show some (iA _) = some (iA _); simp), rfl, rfl, rfl, trivial⟩ rfl (by decide) rfl rfl
 rintro x hJ
 have gl := Z5w hgr
 refine qS (qR ?_)
 refine qe eI ?_
 refine qN (qS ?_)
 refine Z2 rfl ?_ ?_
 ·intro hc
  have hx : x.2 < p.classes.length := by simpa using hc
  have ex := Zay p l hx
  refine qK (qS (qB (qS (qR ?_))))
  refine qe (Zh rfl rfl rfl (Z09 (fun _ => rfl)) (by first | omega | (simp only [List.length_map]; omega) | (simp only [List.length_map, List.length_drop]; omega)) (by first | omega | (simp only [List.length_map]; omega) | (simp only [List.length_map, List.length_drop]; omega))) ?_
  refine qe (Z03 rfl rfl (Z0h (by first | assumption | omega | (simp only [List.length_drop]; omega))) (Z01 (Nat.le_of_ble_eq_true rfl))) ?_
  refine Z02 (w0 rfl) rfl (fun id => Z0e id rfl rfl rfl) (fun id4 => ?_)
  refine Z06 0 (w0 rfl) rfl rfl rfl rfl rfl rfl rfl rfl rfl ?_
  refine qN (qR (qM ?_))
  refine qL 0 (Z01 (Nat.le_of_ble_eq_true rfl)) ?_
  refine Z3 [_, _, _, _, _, _, _, _] _ (w0 rfl) rfl rfl rfl rfl (Z2k [1, 1, 1, 1, 1, 1, 1, 1] rfl) (Zc5 p hp l hl hr (gaPN p l x.2) (Ga.bd_le (Z84 l hgr x.2) (by omega)) x.1 id3 p.classes[x.2] (hp.classes.2 _ (List.getElem_mem hx)) (gl.2 _ (List.getElem_mem hx)).1 (gl.2 _ (List.getElem_mem hx)).2) (fun v5 hv5 => ?_)
  refine qN (qR ?_)
  refine qe (Zb rfl rfl rfl (Zp (by first | omega | (simp only [List.length_map]; omega)))) ?_
  refine qM (qN ?_)
  refine ⟨(v5, x.2 + 1), (by show x.2 + 1 ≤ _; omega), (by show p.classes.length - (x.2 + 1) < p.classes.length - x.2; omega), ?_⟩
  exact Zg [0, 1, 2, 3, 4, 5, 6, 7, 9, 10] ⟨rfl, rfl, rfl, rfl, rfl, trivial⟩ (by show some [(_, AObj.rows _ _ _), (_, AObj.rows _ _ _), (_, AObj.rows _ _ _), (_, AObj.rows _ _ _), (_, AObj.rows _ _ _), (_, AObj.rows _ _ _), (_, AObj.rows _ _ _), (_, AObj.rows _ _ _), (_, AObj.rows _ _ _), (_, AObj.rows _ _ _)] = some [(_, AObj.rows _ _ _), (_, AObj.rows _ _ _), (_, AObj.rows _ _ _), (_, AObj.rows _ _ _), (_, AObj.rows _ _ _), (_, AObj.rows _ _ _), (_, AObj.rows _ _ _), (_, AObj.rows _ _ _), (_, AObj.rows _ _ _), (_, AObj.rows _ _ _)]; rw [ex]) (by decide) rfl rfl
 ·intro hc
  have hx : ¬ x.2 < p.classes.length := by simpa using hc
  have e0 := Z69 p l hx
  rw [e0]
  generalize gaP textT p l = ga at hgb ⊢
  refine qX (qS ?_)
  refine Z18 (Z1p (T' := [(4, .ptr id2 7 0 0), (5, .ptr id3 13 0 0)]) 1 0 6 rfl rfl rfl (by simp) ⟨rfl, rfl, trivial⟩) ?_
  refine Z18 (Z1p (T' := [(4, .ptr id2 7 0 0), (5, .ptr id3 13 0 0)]) 1 0 7 rfl rfl rfl (by simp) ⟨rfl, rfl, trivial⟩) ?_
  refine Z18 (Z1p (T' := [(4, .ptr id2 7 0 0), (5, .ptr id3 13 0 0)]) 1 0 8 rfl rfl rfl (by simp) ⟨rfl, rfl, trivial⟩) ?_
  refine Z18 (Z1p (T' := [(4, .ptr id2 7 0 0), (5, .ptr id3 13 0 0)]) 1 0 9 rfl rfl rfl (by simp) ⟨rfl, rfl, trivial⟩) ?_
  refine Z18 (Z1p (T' := [(4, .ptr id2 7 0 0), (5, .ptr id3 13 0 0)]) 1 0 10 rfl rfl rfl (by simp) ⟨rfl, rfl, trivial⟩) ?_
  refine Z18 (Z1p (T' := [(4, .ptr id2 7 0 0), (5, .ptr id3 13 0 0)]) 1 0 11 rfl rfl rfl (by simp) ⟨rfl, rfl, trivial⟩) ?_
  refine Z18 (Z1p (T' := [(4, .ptr id2 7 0 0), (5, .ptr id3 13 0 0)]) 1 0 12 rfl rfl rfl (by simp) ⟨rfl, rfl, trivial⟩) ?_
  refine Z18 (s' := ⟨[(4, .ptr id2 7 0 0), (5, .ptr id3 13 0 0)], [(id3, .rows 91 13 [[.lst (p.classes.map Cls.cells), row1 sA p.names, sA p.entry.cls, sA p.entry.name, sA p.entry.desc, .lst (l.map Rule.cells), row1 sA ga.cl, .lst (ga.fd.map FRef.cells), .lst (ga.md.map MRef.cells), row1 sA ga.cn, row1 sA ga.fn, row1 sA ga.mn, row1 sA ga.lk]]), (id1, .rows 27 5 [p.cells]), (id2, .rows 34 7 [zRoots])], [], 60⟩) (Zg [0, 1, 2] ⟨rfl, rfl, trivial⟩ (by kernel_rfl) (by decide) rfl rfl) ?_
  refine qR (qM ?_)
  refine qe (Zu rfl rfl rfl) ?_
  refine qe (Z1 rfl rfl rfl) ?_
  refine qL 0 (Z01 (Nat.le_of_ble_eq_true rfl)) ?_
  refine Z02 (w0 rfl) rfl (fun id => Z0e id rfl rfl rfl) (fun id6 => ?_)
  refine Z06 0 (w0 rfl) rfl rfl rfl rfl rfl rfl rfl rfl rfl ?_
  refine qN (qS (qR (qA (qN (qS ?_)))))
  refine Zq [0, 0, 2, 7, 0, 16, 63, 0, 128, 511, 0, 0, 2048, 8191, 0, 0, 32768, 131071, 0, 0, 524288, 2097151, 0, 0, 8388608, 0, 33554432, 125829120, 264241151, 536870911, 1073741823, 2147483647] 31 rfl (by kernel_rfl) ?_
  refine cM2 ?_
  refine ce (Z1 rfl rfl rfl) ?_
  refine Z5 0 (w0 rfl) rfl rfl rfl rfl rfl Z9 ?_
  refine ce (Z8 [] rfl rfl rfl (Z34 ga.cl (by have := hgb.cl; omega)) List.nodup_nil) ?_
  refine ce (Z1 rfl rfl rfl) ?_
  refine Z5 0 (w0 rfl) rfl rfl rfl rfl rfl Z9 ?_
  refine ce (Z8 [] rfl rfl rfl (Z9g ga.fd (by have := hgb.fd; omega)) List.nodup_nil) ?_
  refine ce (Z1 rfl rfl rfl) ?_
  refine Z5 0 (w0 rfl) rfl rfl rfl rfl rfl Z9 ?_
  refine ce (Z8 [] rfl rfl rfl (Z9h ga.md (by have := hgb.md; omega)) List.nodup_nil) ?_
  refine cM2 ?_
  refine ce (Z1 rfl rfl rfl) ?_
  refine Z5 0 (w0 rfl) rfl rfl rfl rfl rfl Z9 ?_
  refine ce (Z8 [] rfl rfl rfl (Z34 ga.cn (by have := hgb.cn; omega)) List.nodup_nil) ?_
  refine cM2 ?_
  refine ce (Z1 rfl rfl rfl) ?_
  refine Z5 0 (w0 rfl) rfl rfl rfl rfl rfl Z9 ?_
  refine ce (Z8 [] rfl rfl rfl (Z34 ga.fn (by have := hgb.fn; omega)) List.nodup_nil) ?_
  refine cM2 ?_
  refine ce (Z1 rfl rfl rfl) ?_
  refine Z5 0 (w0 rfl) rfl rfl rfl rfl rfl Z9 ?_
  refine ce (Z8 [] rfl rfl rfl (Z34 ga.mn (by have := hgb.mn; omega)) List.nodup_nil) ?_
  refine cM2 ?_
  refine ce (Z1 rfl rfl rfl) ?_
  refine Z5 0 (w0 rfl) rfl rfl rfl rfl rfl Z9 ?_
  refine ce (Z1 rfl rfl rfl) ?_
  refine Z5 0 (w0 rfl) rfl rfl rfl rfl rfl Z9 ?_
  refine ce (Z1w (es := _) (fun id => Zw id (ps := [(0, .tmp 53), (1, .tmp 55)]) rfl rfl rfl rfl rfl rfl rfl rfl) rfl) ?_
  refine ce (Zn (y := row1 sA (ga.lk ++ ga.cl)) (Z8 [] rfl rfl rfl (Zbw [ga.lk, ga.cl] (by simp) (by have := hgb.lk; have := hgb.cl; simp; omega)) List.nodup_nil) (by simp)) ?_
  refine ce (Z8 [] rfl rfl rfl (Z34 (ga.lk ++ ga.cl) (by have := hgb.lk; have := hgb.cl; rw [List.length_append]; omega)) List.nodup_nil) ?_
  refine Z8u (x := .agg (Roots.cells (rootsG ga))) (w0 rfl) rfl (Z0r rfl rfl (by kernel_rfl)) ?_
  refine .done ?_
  refine Z06 3 (w0 rfl) rfl rfl rfl rfl rfl rfl rfl rfl rfl ?_
  refine qN (qE ?_)
  exact Z0x rfl (Z1t 3 rfl rfl rfl (Z01 (Nat.le_of_ble_eq_true rfl)) Z4) (gvr rfl)
end Go.Sx
namespace Go.Sx
open Go
structure Roots.ok (r : Roots) : Prop where
 n1 : r.classes.length ≤ 1000000
 n2 : r.fields.length ≤ 1000000
 n3 : r.methods.length ≤ 1000000
 n4 : r.classNames.length ≤ 1000000
 n5 : r.fieldNames.length ≤ 1000000
 n6 : r.methodNames.length ≤ 1000000
 n7 : r.lookups.length ≤ 1000000
 ms : ∀ m, m ∈ r.methods → m.ok
def exC (r : Roots) (s : Str) : Rule := ⟨hasG r.classNames s, false, s, zS, zS⟩
def exF (p : Prog) (r : Roots) (f : FRef) : Rule := ⟨hasG r.fieldNames f.name, true, f.cls, f.name, textT ((fldP p f).getD zFl).type⟩
def exM (r : Roots) (m : MRef) : Rule := ⟨hasG r.methodNames (m.name ++ m.desc), true, m.cls, m.name, m.desc⟩
def exactR (p : Prog) (r : Roots) : List Rule := (r.classes.map (exC r) ++ r.fields.map (exF p r)) ++ r.methods.map (exM r)
theorem map_take {α β : Type} {l : List α} {f : α → β} {i : Nat} (h : i < l.length) : (l.take (i + 1)).map f = (l.take i).map f ++ [f l[i]] := by rw [Z12 h, List.map_append]; rfl
def textL (r : Roots) : List (List Str) := [r.classes, r.classNames, r.fieldNames, r.methodNames, r.lookups]
def textA (r : Roots) : AV := .lst ((textL r).map fun l => [row1 sA l])
def sameRo (a b : Roots) : Bool := (decide (a.fields = b.fields) && decide (a.methods = b.methods)) && decide (textL a = textL b)
theorem Zbc (a b : Roots) : sameRo a b = decide (a = b) := by
 rw [Bool.eq_iff_iff]
 unfold sameRo textL
 simp only [Bool.and_eq_true, decide_eq_true_eq]
 constructor
 ·rintro ⟨⟨h1, h2⟩, h3⟩
  cases a; cases b
  simp only [List.cons.injEq, and_true] at h3
  obtain ⟨k1, k2, k3, k4, k5⟩ := h3
  simp only [Roots.mk.injEq]
  exact ⟨k1, h1, h2, k2, k3, k4, k5⟩
 ·rintro rfl; exact ⟨⟨rfl, rfl⟩, rfl⟩
theorem Z2a (a b : List Str) : sameT a b = decide (a = b) := by rw [Bool.eq_iff_iff, Z7d, decide_eq_true_eq]
def sameR23 (a b : Roots) : Bool := (((sameT a.classes b.classes && sameT a.classNames b.classNames) && sameT a.fieldNames b.fieldNames) && sameT a.methodNames b.methodNames) && sameT a.lookups b.lookups
theorem Z9r {a b : Roots} (h1 : a.fields = b.fields) (h2 : a.methods = b.methods) : sameR23 a b = decide (a = b) := by
 unfold sameR23
 rw [Z2a, Z2a, Z2a, Z2a, Z2a, Bool.eq_iff_iff]
 simp only [Bool.and_eq_true, decide_eq_true_eq]
 constructor
 ·rintro ⟨⟨⟨⟨k1, k2⟩, k3⟩, k4⟩, k5⟩
  cases a; cases b
  simp only [Roots.mk.injEq]
  exact ⟨k1, h1, h2, k2, k3, k4, k5⟩
 ·rintro rfl; exact ⟨⟨⟨⟨rfl, rfl⟩, rfl⟩, rfl⟩, rfl⟩
theorem Zb8 {a b : Roots} (h : ¬ (a.fields.length = b.fields.length ∧ a.methods.length = b.methods.length)) : decide (a = b) = false := decide_eq_false (fun e => h (by rw [e]; exact ⟨rfl, rfl⟩))
theorem Zb9 {a b : Roots} {i : Nat} (hi : i < a.fields.length) (hj : i < b.fields.length) (h : ¬ a.fields[i] = b.fields[i]) : decide (a = b) = false := decide_eq_false (fun e => h (by subst e; rfl))
theorem Zba {a b : Roots} {i : Nat} (hi : i < a.methods.length) (hj : i < b.methods.length) (h : ¬ a.methods[i] = b.methods[i]) : decide (a = b) = false := decide_eq_false (fun e => h (by subst e; rfl))
theorem Z6l {α : Type} {a b : List α} {i : Nat} (hl : a.length = b.length) (hi : ¬ i < a.length) (h : a.take i = b.take i) : a = b := by rwa [List.take_of_length_le (by omega), List.take_of_length_le (by omega)] at h
theorem Z6m {α : Type} {a b : List α} {i : Nat} (hi : i < a.length) (hj : i < b.length) (h : a.take i = b.take i) (e : a[i] = b[i]) : a.take (i + 1) = b.take (i + 1) := by rw [Z12 hi, Z12 hj, h, e]
def withT (a b : Roots) : Bool := (List.range 5).all fun k => ((textL a).getD k default).all (hasG ((textL b).getD k default))
theorem Z7h (a b : Roots) : (withT a b && (a.fields.all (hasG b.fields) && a.methods.all (hasG b.methods))) = withinR a b := by
 unfold withT withinR textL
 rw [Bool.and_comm]
 congr 1
 show (_ && (_ && (_ && (_ && (_ && true))))) = _
 rw [Bool.and_true]
 simp only [Bool.and_assoc]
 rfl
theorem Zbh {a b : Roots} (h : withT a b = false) : withinR a b = false := by rw [← Z7h, h]; rfl
theorem Z60 {α : Type} {f : α → Bool} {l : List α} {i : Nat} (hi : i < l.length) (h : f l[i] = false) : l.all f = false := List.all_eq_false.2 ⟨l[i], List.getElem_mem hi, by rw [h]; simp⟩
def AllTo {α : Type} (f : α → Bool) (l : List α) (i : Nat) : Prop := (l.take i).all f = true
theorem AllTo.zero {α : Type} (f : α → Bool) (l : List α) : AllTo f l 0 := rfl
theorem AllTo.next {α : Type} {f : α → Bool} {l : List α} {i : Nat} (h : AllTo f l i) (hi : i < l.length) (hq : f l[i] = true) : AllTo f l (i + 1) := by unfold AllTo at h ⊢; rw [Z12 hi, List.all_append, h]; simp [hq]
theorem AllTo.fin {α : Type} {f : α → Bool} {l : List α} {i : Nat} (h : AllTo f l i) (hi : ¬ i < l.length) : l.all f = true := by unfold AllTo at h; rwa [List.take_of_length_le (by omega)] at h
def fewB (r : Rule) : Bool := (decide ((r.cls.size : Int) ≤ 40) && decide ((r.name.size : Int) ≤ 40)) && decide ((r.desc.size : Int) ≤ 70)
def fewR (l : List Rule) : List Rule := (l.take 12).filter fewB
theorem Z2y (l : List Rule) : (fewR l).length ≤ 12 := Nat.le_trans (List.length_filter_le _ _) (by rw [List.length_take]; omega)
theorem Z5c {l : List Rule} (r : Rule) (h : r ∈ fewR l) : r.ok := by
 unfold fewR at h
 rw [List.mem_filter] at h
 have h2 := h.2
 unfold fewB at h2
 simp only [Bool.and_eq_true, decide_eq_true_eq] at h2
 refine ⟨?_, ?_, ?_⟩ <;> (unfold small; omega)
def eqRu (a b : Rule) : Bool := decide (a = b)
end Go.Sx
namespace Go.Sx
open Go Go.Proofs
theorem Za4 (p : Prog) (hp : p.ok) (r : Roots) (hr : r.ok) : ACalls Tryz.prog 12 [p.av, r.av] [] (Gives (.lst ((exactR p r).map Rule.cells))) := by
 have n1 := hr.n1
 have n2 := hr.n2
 have n3 := hr.n3
 have n4 := hr.n4
 have n5 := hr.n5
 have n6 := hr.n6
 have s4 : small r.classNames.length := by unfold small; omega
 have s5 : small r.fieldNames.length := by unfold small; omega
 have s6 : small r.methodNames.length := by unfold small; omega
 refine Zc (n := 88) Tryz.func12 rfl (by decide +kernel) rfl rfl ?_
 refine qS (qR ?_)
 refine Z02 (w0 rfl) rfl (fun id => Z0b id rfl rfl rfl rfl rfl) (fun id1 => ?_)
 refine Z02 (w0 rfl) rfl (fun id => Z0b id rfl rfl rfl rfl rfl) (fun id2 => ?_)
 refine qA (qN (qS (qR ?_)))
 refine Z02 (w0 rfl) rfl (fun id => Z2j id 63 5 (.inl rfl) rfl) (fun id3 => ?_)
 refine qN (qS (qS (qR ?_)))
 refine qe (Z1 rfl rfl rfl) ?_
 refine qL 1 Z9 ?_
 refine qe (Zx rfl rfl rfl rfl) ?_
 refine qM (qN (qB ?_))
 refine Zk (α := Nat × Nat) (fun x => ⟨[(5, .own x.1 5 0 ((r.classes.take x.2).map (exC r)).length), (17, iA x.2), (2, .ptr id1 5 0 0), (3, .ptr id2 7 0 0), (15, row1 sA r.classes), (16, iA r.classes.length)], [(x.1, .rows 63 5 (((r.classes.take x.2).map (exC r)).map Rule.cells)), (id1, .rows 27 5 [p.cells]), (id2, .rows 34 7 [r.cells])], [], 88⟩) (fun x => x.2 ≤ r.classes.length) (fun x => r.classes.length - x.2) (id3, 0) (Nat.zero_le _) ?_ ?_
 ·exact Zg [0, 2, 1] ⟨rfl, rfl, rfl, rfl, rfl, (by show some (iA _) = some (iA _); simp), trivial⟩ rfl (by decide) rfl rfl
 rintro x hJ
 refine qS (qR ?_)
 refine qe eI ?_
 refine qN (qS ?_)
 refine Z2 rfl ?_ ?_
 ·intro hc
  have hi : x.2 < r.classes.length := by simpa using hc
  have ex : ((r.classes.take (x.2 + 1)).map (exC r)) = ((r.classes.take x.2).map (exC r)) ++ [exC r r.classes[x.2]] := map_take hi
  have hln : (r.classes.take x.2).length ≤ x.2 := List.length_take_le _ _
  refine qK (qS (qB (qS (qR ?_))))
  refine qe (Zh rfl rfl rfl (Z09 (fun _ => rfl)) (by first | omega | (simp only [List.length_map]; omega) | (simp only [List.length_map, List.length_drop]; omega)) (by first | omega | (simp only [List.length_map]; omega) | (simp only [List.length_map, List.length_drop]; omega))) ?_
  refine qe (Z03 rfl rfl (Z0h (by first | assumption | omega | (simp only [List.length_drop]; omega))) Z9) ?_
  refine qA (qN (qR (qM (qM ?_))))
  refine qe (Z1 rfl rfl rfl) ?_
  refine qL 2 Z9 ?_
  refine qM ?_
  refine qe (Z8 [] rfl rfl rfl (Z2v r.classNames s4 _) List.nodup_nil) ?_
  refine qe (Z8 [] rfl rfl rfl (Zc3 _ _) List.nodup_nil) ?_
  refine Z02 (w0 rfl) rfl (fun id => Zw id (ps := [(0, .tmp 27)]) rfl rfl rfl rfl rfl rfl rfl rfl) (fun id4 => ?_)
  refine Z1c 1 (w0 rfl) rfl rfl rfl rfl (by simp) rfl ⟨rfl, _, _, List.mem_of_getElem? (i := 0) rfl, by simp, rfl⟩ (by first | omega | (simp; omega) | (simp [maxLen]; omega) | (simp; done) | (simp [maxLen]; done)) (by first | omega | (simp; omega) | (simp [maxLen]; omega) | (simp; done) | (simp [maxLen]; done)) (fun id5 => ?_)
  refine qA (qN (qR ?_))
  refine qe (Zb rfl rfl rfl (Zp (by first | omega | (simp only [List.length_map]; omega)))) ?_
  refine qM (qN ?_)
  refine ⟨(id5, x.2 + 1), (by show x.2 + 1 ≤ _; omega), (by show r.classes.length - (x.2 + 1) < r.classes.length - x.2; omega), ?_⟩
  exact Zg [1, 2, 3] ⟨(by show some (AV.own _ _ _ _) = some (AV.own _ _ _ _); rw [ex, List.length_append, List.length_map]; rfl), rfl, rfl, rfl, rfl, rfl, trivial⟩ (by show some [(_, AObj.rows _ _ _), (_, AObj.rows _ _ _), (_, AObj.rows _ _ _)] = some [(_, AObj.rows _ _ _), (_, AObj.rows _ _ _), (_, AObj.rows _ _ _)]; rw [ex]; simp [cellsA, Rule.av, Rule.cells, exC, exF, exM]) (by decide) rfl rfl
 ·intro hc
  have hi : ¬ x.2 < r.classes.length := by simpa using hc
  have et : r.classes.take x.2 = r.classes := List.take_of_length_le (by omega)
  refine qX (qS (qS (qR ?_)))
  refine qe (Z1 rfl rfl rfl) ?_
  refine qL 2 Z9 ?_
  refine qe (Zx rfl rfl rfl rfl) ?_
  refine qM (qN (qB ?_))
  refine Zk (α := Nat × Nat) (fun y => ⟨[(5, .own y.1 5 0 (r.classes.map (exC r) ++ (r.fields.take y.2).map (exF p r)).length), (34, iA y.2), (2, .ptr id1 5 0 0), (3, .ptr id2 7 0 0), (32, .lst (r.fields.map FRef.cells)), (33, iA r.fields.length)], [(y.1, .rows 63 5 ((r.classes.map (exC r) ++ (r.fields.take y.2).map (exF p r)).map Rule.cells)), (id1, .rows 27 5 [p.cells]), (id2, .rows 34 7 [r.cells])], [], 88⟩) (fun y => y.2 ≤ r.fields.length) (fun y => r.fields.length - y.2) (x.1, 0) (Nat.zero_le _) ?_ ?_
  ·exact Zg [0, 1, 2] ⟨(by show some (AV.own _ _ _ _) = some (AV.own _ _ _ _); rw [et]; simp), rfl, rfl, rfl, rfl, (by show some (iA _) = some (iA _); simp), trivial⟩ (by show some [(_, AObj.rows _ _ _), (_, AObj.rows _ _ _), (_, AObj.rows _ _ _)] = some [(_, AObj.rows _ _ _), (_, AObj.rows _ _ _), (_, AObj.rows _ _ _)]; rw [et]; simp) (by decide) rfl rfl
  rintro y hJ2
  refine qS (qR ?_)
  refine qe eI ?_
  refine qN (qS ?_)
  refine Z2 rfl ?_ ?_
  ·intro hc
   have hi : y.2 < r.fields.length := by simpa using hc
   have ex : (r.classes.map (exC r) ++ (r.fields.take (y.2 + 1)).map (exF p r)) = (r.classes.map (exC r) ++ (r.fields.take y.2).map (exF p r)) ++ [exF p r r.fields[y.2]] := by rw [map_take hi, ← List.append_assoc]
   have hln : (r.fields.take y.2).length ≤ y.2 := List.length_take_le _ _
   refine qK (qS (qB (qS (qR ?_))))
   refine qe (Zh rfl rfl rfl (Z09 (fun _ => rfl)) (by first | omega | (simp only [List.length_map]; omega) | (simp only [List.length_map, List.length_drop]; omega)) (by first | omega | (simp only [List.length_map]; omega) | (simp only [List.length_map, List.length_drop]; omega))) ?_
   refine qe (Z03 rfl rfl (Z0h (by first | assumption | omega | (simp only [List.length_drop]; omega))) (Z01 (Nat.le_of_ble_eq_true rfl))) ?_
   refine Z02 (w0 rfl) rfl (fun id => Z0e id rfl rfl rfl) (fun id6 => ?_)
   refine Z06 0 (w0 rfl) rfl rfl rfl rfl rfl rfl rfl rfl rfl ?_
   refine qN (qS (qR ?_))
   refine qL 2 (Z01 (Nat.le_of_ble_eq_true rfl)) ?_
   refine qL 0 (Z01 (Nat.le_of_ble_eq_true rfl)) ?_
   refine qe (Z8 [] rfl rfl rfl (Z6u p hp r.fields[y.2]) List.nodup_nil) ?_
   refine qM ?_
   refine qe (Zi rfl rfl rfl) ?_
   refine qe (Zi rfl rfl rfl) ?_
   refine Z02 (w0 rfl) rfl (fun id => Z0e id rfl rfl rfl) (fun id7 => ?_)
   refine Z06 0 (w0 rfl) rfl rfl rfl rfl rfl rfl rfl rfl rfl ?_
   refine qA (qN ?_)
   refine Z13 [0, 0, 2, 0, 8, 0, 32, 96, 0, 256, 0, 1024, 4064, 8190, 16382, 32767, 65535] [15] [2, 4, 6, 9, 11, 14] rfl (by kernel_rfl) ?_
   refine Zl (w0 rfl) rfl (Z0d rfl rfl) rfl ?_
   refine Zl (w0 rfl) rfl (Z1 rfl rfl rfl) rfl ?_
   refine Zo 1 (w0 rfl) rfl rfl rfl rfl rfl Z9 rfl rfl ?_
   refine Zl (w0 rfl) rfl (Z1 rfl rfl rfl) rfl ?_
   refine Zo 1 (w0 rfl) rfl rfl rfl rfl rfl Z9 rfl rfl ?_
   refine Zl (w0 rfl) rfl (Z1 rfl rfl rfl) rfl ?_
   refine Zo 0 (w0 rfl) rfl rfl rfl rfl rfl (Z01 (Nat.le_of_ble_eq_true rfl)) rfl rfl ?_
   refine Zl (w0 rfl) rfl (Z8 [] rfl rfl rfl (Zal ((fldP p r.fields[y.2]).getD zFl).type (Zdc hp r.fields[y.2]).2) List.nodup_nil) rfl ?_
   refine Zl (w0 rfl) rfl (Z1 rfl rfl rfl) rfl ?_
   refine Zo 4 (w0 rfl) rfl rfl rfl rfl rfl Z9 rfl rfl ?_
   refine Zl (w0 rfl) rfl (Z1 rfl rfl rfl) rfl ?_
   refine Zo 1 (w0 rfl) rfl rfl rfl rfl rfl Z9 rfl rfl ?_
   refine Zl (w0 rfl) rfl (Z8 [] rfl rfl rfl (Z2v r.fieldNames s5 _) List.nodup_nil) rfl ?_
   refine Zl (w0 rfl) rfl (Z8 [] rfl rfl rfl (Z8o _ _ _ _) List.nodup_nil) rfl ?_
   refine Z1k (w0 rfl) rfl (fun id => Zw id (ps := [(0, .tmp 57)]) rfl rfl rfl rfl rfl rfl rfl rfl) rfl rfl (fun id8 => ?_)
   refine Z0u 3 [] (w0 rfl) rfl rfl rfl rfl (by simp) rfl ⟨rfl, _, _, List.mem_of_getElem? (i := 0) rfl, by simp, rfl⟩ (by first | omega | (simp; omega) | (simp [maxLen]; omega) | (simp; done) | (simp [maxLen]; done)) (by first | omega | (simp; omega) | (simp [maxLen]; omega) | (simp; done) | (simp [maxLen]; done)) rfl (fun _ => trivial) (fun id9 => ?_)
   refine Zl (w0 rfl) rfl (Z0z rfl rfl) rfl ?_
   refine .done (qR ?_)
   refine qe (Zb rfl rfl rfl (Zp (by first | omega | (simp only [List.length_map]; omega)))) ?_
   refine qM (qN ?_)
   refine ⟨(id9, y.2 + 1), (by show y.2 + 1 ≤ _; omega), (by show r.fields.length - (y.2 + 1) < r.fields.length - y.2; omega), ?_⟩
   exact Zg [3, 4, 5] ⟨(by show some (AV.own _ _ _ _) = some (AV.own _ _ _ _); rw [ex, List.length_append, List.length_map]; rfl), rfl, rfl, rfl, rfl, rfl, trivial⟩ (by show some [(_, AObj.rows _ _ _), (_, AObj.rows _ _ _), (_, AObj.rows _ _ _)] = some [(_, AObj.rows _ _ _), (_, AObj.rows _ _ _), (_, AObj.rows _ _ _)]; rw [ex]; simp [cellsA, Rule.av, Rule.cells, exC, exF, exM]) (by decide) rfl rfl
  ·intro hc
   have hi : ¬ y.2 < r.fields.length := by simpa using hc
   have et : r.fields.take y.2 = r.fields := List.take_of_length_le (by omega)
   refine qX (qS (qS (qR ?_)))
   refine qe (Z1 rfl rfl rfl) ?_
   refine qL 2 Z9 ?_
   refine qe (Zx rfl rfl rfl rfl) ?_
   refine qM (qN (qB ?_))
   refine Zk (α := Nat × Nat) (fun z => ⟨[(5, .own z.1 5 0 ((r.classes.map (exC r) ++ r.fields.map (exF p r)) ++ (r.methods.take z.2).map (exM r)).length), (64, iA z.2), (2, .ptr id1 5 0 0), (3, .ptr id2 7 0 0), (62, .lst (r.methods.map MRef.cells)), (63, iA r.methods.length)], [(z.1, .rows 63 5 (((r.classes.map (exC r) ++ r.fields.map (exF p r)) ++ (r.methods.take z.2).map (exM r)).map Rule.cells)), (id1, .rows 27 5 [p.cells]), (id2, .rows 34 7 [r.cells])], [], 88⟩) (fun z => z.2 ≤ r.methods.length) (fun z => r.methods.length - z.2) (y.1, 0) (Nat.zero_le _) ?_ ?_
   ·exact Zg [0, 1, 2] ⟨(by show some (AV.own _ _ _ _) = some (AV.own _ _ _ _); rw [et]; simp), rfl, rfl, rfl, rfl, (by show some (iA _) = some (iA _); simp), trivial⟩ (by show some [(_, AObj.rows _ _ _), (_, AObj.rows _ _ _), (_, AObj.rows _ _ _)] = some [(_, AObj.rows _ _ _), (_, AObj.rows _ _ _), (_, AObj.rows _ _ _)]; rw [et]; simp) (by decide) rfl rfl
   rintro z hJ3
   refine qS (qR ?_)
   refine qe eI ?_
   refine qN (qS ?_)
   refine Z2 rfl ?_ ?_
   ·intro hc
    have hi : z.2 < r.methods.length := by simpa using hc
    have ex : ((r.classes.map (exC r) ++ r.fields.map (exF p r)) ++ (r.methods.take (z.2 + 1)).map (exM r)) = ((r.classes.map (exC r) ++ r.fields.map (exF p r)) ++ (r.methods.take z.2).map (exM r)) ++ [exM r r.methods[z.2]] := by rw [map_take hi, ← List.append_assoc]
    have hln : (r.methods.take z.2).length ≤ z.2 := List.length_take_le _ _
    have hms := hr.ms (r.methods[((z.2 : Nat) : Int).toNat]'hi) (List.getElem_mem _)
    have hm1 := hms.name
    have hm2 := hms.desc
    simp only [small] at hm1 hm2
    refine qK (qS (qB (qS (qR ?_))))
    refine qe (Zh rfl rfl rfl (Z09 (fun _ => rfl)) (by first | omega | (simp only [List.length_map]; omega) | (simp only [List.length_map, List.length_drop]; omega)) (by first | omega | (simp only [List.length_map]; omega) | (simp only [List.length_map, List.length_drop]; omega))) ?_
    refine qe (Z03 rfl rfl (Z0h (by first | assumption | omega | (simp only [List.length_drop]; omega))) (Z01 (Nat.le_of_ble_eq_true rfl))) ?_
    refine Z02 (w0 rfl) rfl (fun id => Z0e id rfl rfl rfl) (fun id10 => ?_)
    refine Z06 0 (w0 rfl) rfl rfl rfl rfl rfl rfl rfl rfl rfl ?_
    refine qN ?_
    refine Z13 [0, 0, 2, 0, 8, 0, 32, 0, 128, 0, 512, 0, 2048, 7680, 16256, 32766, 65534, 131071, 262143] [17] [2, 4, 6, 8, 10, 12, 16] rfl (by kernel_rfl) ?_
    refine Zl (w0 rfl) rfl (Z0d rfl rfl) rfl ?_
    refine Zl (w0 rfl) rfl (Z1 rfl rfl rfl) rfl ?_
    refine Zo 0 (w0 rfl) rfl rfl rfl rfl rfl Z9 rfl rfl ?_
    refine Zl (w0 rfl) rfl (Z1 rfl rfl rfl) rfl ?_
    refine Zo 0 (w0 rfl) rfl rfl rfl rfl rfl Z9 rfl rfl ?_
    refine Zl (w0 rfl) rfl (Z1 rfl rfl rfl) rfl ?_
    refine Zo 0 (w0 rfl) rfl rfl rfl rfl rfl Z9 rfl rfl ?_
    refine Zl (w0 rfl) rfl (Z1 rfl rfl rfl) rfl ?_
    refine Zo 3 (w0 rfl) rfl rfl rfl rfl rfl Z9 rfl rfl ?_
    refine Zl (w0 rfl) rfl (Z1 rfl rfl rfl) rfl ?_
    refine Zo 0 (w0 rfl) rfl rfl rfl rfl rfl Z9 rfl rfl ?_
    refine Zl (w0 rfl) rfl (Z1 rfl rfl rfl) rfl ?_
    refine Zo 0 (w0 rfl) rfl rfl rfl rfl rfl Z9 rfl rfl ?_
    refine Zl (w0 rfl) rfl (Z1f rfl rfl rfl (by (try simp only [ByteArray.size_append, small] at *) <;> omega)) rfl ?_
    refine Zl (w0 rfl) rfl (Z8 [] rfl rfl rfl (Z2v r.methodNames s6 _) List.nodup_nil) rfl ?_
    refine Zl (w0 rfl) rfl (Z8 [] rfl rfl rfl (Z8o _ _ _ _) List.nodup_nil) rfl ?_
    refine Z1k (w0 rfl) rfl (fun id => Zw id (ps := [(0, .tmp 83)]) rfl rfl rfl rfl rfl rfl rfl rfl) rfl rfl (fun id11 => ?_)
    refine Z0u 2 [] (w0 rfl) rfl rfl rfl rfl (by simp) rfl ⟨rfl, _, _, List.mem_of_getElem? (i := 0) rfl, by simp, rfl⟩ (by first | omega | (simp; omega) | (simp [maxLen]; omega) | (simp; done) | (simp [maxLen]; done)) (by first | omega | (simp; omega) | (simp [maxLen]; omega) | (simp; done) | (simp [maxLen]; done)) rfl (fun _ => trivial) (fun id12 => ?_)
    refine Zl (w0 rfl) rfl (Z0z rfl rfl) rfl ?_
    refine .done (qR ?_)
    refine qe (Zb rfl rfl rfl (Zp (by first | omega | (simp only [List.length_map]; omega)))) ?_
    refine qM (qN ?_)
    refine ⟨(id12, z.2 + 1), (by show z.2 + 1 ≤ _; omega), (by show r.methods.length - (z.2 + 1) < r.methods.length - z.2; omega), ?_⟩
    exact Zg [2, 3, 4] ⟨(by show some (AV.own _ _ _ _) = some (AV.own _ _ _ _); rw [ex, List.length_append, List.length_map]; rfl), rfl, rfl, rfl, rfl, rfl, trivial⟩ (by show some [(_, AObj.rows _ _ _), (_, AObj.rows _ _ _), (_, AObj.rows _ _ _)] = some [(_, AObj.rows _ _ _), (_, AObj.rows _ _ _), (_, AObj.rows _ _ _)]; rw [ex]; simp [cellsA, Rule.av, Rule.cells, exC, exF, exM]) (by decide) rfl rfl
   ·intro hc
    have hi : ¬ z.2 < r.methods.length := by simpa using hc
    have et : r.methods.take z.2 = r.methods := List.take_of_length_le (by omega)
    refine qX (qS (qR (qM (qA (qN (qE ?_))))))
    exact Z6j 0 rfl rfl rfl rfl (by simp) (by unfold exactR; rw [et])
theorem Z4q (r : Roots) : ACalls Tryz.prog 42 [r.av] [] (Gives (textA r)) := by
 refine Zc (n := 14) Tryz.func42 rfl (by decide +kernel) rfl rfl ?_
 refine qS (qR ?_)
 refine Z02 (w0 rfl) rfl (fun id => Z0b id rfl rfl rfl rfl rfl) (fun id1 => ?_)
 refine qA (qN (qS (qR ?_)))
 refine qe (Z1 rfl rfl rfl) ?_
 refine qL 0 Z9 ?_
 refine qe (Z1 rfl rfl rfl) ?_
 refine qL 0 Z9 ?_
 refine qe (Z1 rfl rfl rfl) ?_
 refine qL 0 Z9 ?_
 refine qe (Z1 rfl rfl rfl) ?_
 refine qL 0 Z9 ?_
 refine qe (Z1 rfl rfl rfl) ?_
 refine qL 0 Z9 ?_
 refine qe (Z1w (es := _) (fun id => Zw id (ps := [(0, .tmp 4), (1, .tmp 6), (2, .tmp 8), (3, .tmp 10), (4, .tmp 12)]) rfl rfl rfl rfl rfl rfl rfl rfl) rfl) ?_
 refine qA (qN (qE ?_))
 exact Z0x rfl (Z6 rfl Z4) (gvr rfl)
theorem Za3 (a b : List (List Str)) (hl : small a.length) (hb : small b.length) (ha2 : ∀ l, l ∈ a → small l.length) (hb2 : ∀ l, l ∈ b → small l.length) : ACalls Tryz.prog 41 [.lst (a.map fun l => [row1 sA l]), .lst (b.map fun l => [row1 sA l]), .fn (.func 43) []] [] (Gives (bA (decide (a = b)))) := by
 simp only [small] at hl hb
 refine Zc (n := 32) Tryz.func41 rfl (by decide +kernel) rfl rfl ?_
 refine qS (qR (qA (qN (qS (qS (qR (qM ?_)))))))
 refine qe (Zx rfl rfl rfl rfl) ?_
 refine qM ?_
 refine qe (Zx rfl rfl rfl rfl) ?_
 refine qe eI ?_
 refine qN ?_
 refine Z2 rfl ?_ ?_
 ·intro hc
  have hne : ¬ a.length = b.length := by simp at hc; omega
  refine qS (qR (qA (qN (qE ?_))))
  exact Z0x rfl (Z6 rfl Z4) (gb (by symm; simp only [decide_eq_false_iff_not]; intro e; exact hne (by rw [e])))
 ·intro hc
  have hne : a.length = b.length := by simp at hc; omega
  refine qK (qS (qS (qR (qM ?_))))
  refine qe (Zx rfl rfl rfl rfl) ?_
  refine qM (qN (qB ?_))
  refine Zk (α := Nat) (fun i => ⟨[(17, iA i), (16, iA a.length), (15, .lst (a.map fun l => [row1 sA l])), (1, .lst (b.map fun l => [row1 sA l])), (2, .fn (.func 43) [])], [], [], 32⟩) (fun i => i ≤ a.length ∧ a.take i = b.take i) (fun i => a.length - i) 0 ⟨Nat.zero_le _, rfl⟩ ?_ ?_
  ·exact Zg [] ⟨rfl, (by show some (iA _) = some (iA _); simp), rfl, rfl, rfl, trivial⟩ rfl (by decide) rfl rfl
  rintro i hJ
  refine qS (qR ?_)
  refine qe eI ?_
  refine qN (qS ?_)
  refine Z2 rfl ?_ ?_
  ·intro hc
   have hi : i < a.length := by simpa using hc
   refine qK (qS (qB (qS (qR (qM ?_)))))
   refine qe (Zh rfl rfl rfl (Z09 (fun _ => rfl)) (by first | omega | (simp only [List.length_map]; omega) | (simp only [List.length_map, List.length_drop]; omega)) (by first | omega | (simp only [List.length_map]; omega) | (simp only [List.length_map, List.length_drop]; omega))) ?_
   refine qe (Z03 rfl rfl (Z0h (by first | assumption | omega | (simp only [List.length_drop]; omega))) Z9) ?_
   refine qA (qA (qN (qS (qR (qM (qM ?_))))))
   refine qe (Zh rfl rfl rfl (Z09 (fun _ => rfl)) (by first | omega | (simp only [List.length_map]; omega) | (simp only [List.length_map, List.length_drop]; omega)) (by first | omega | (simp only [List.length_map]; omega) | (simp only [List.length_map, List.length_drop]; omega))) ?_
   refine qe (Z03 rfl rfl (Z0h (by first | assumption | omega | (simp only [List.length_drop]; omega))) Z9) ?_
   refine qA (qN (qS (qR (qM (qM (qM ?_))))))
   refine qe (Z8 [] rfl rfl rfl (Zc2 a[i] (b[i]'(by omega)) (ha2 _ (List.getElem_mem hi)) (hb2 _ (List.getElem_mem _))) List.nodup_nil) ?_
   refine qe (Z04 rfl rfl) ?_
   refine qN ?_
   refine Z2 rfl ?_ ?_
   ·intro hc
    have hq : ¬ a[i] = b[i]'(by omega) := of_decide_eq_false (Z1z hc)
    refine qS (qR (qA (qN (qE ?_))))
    exact Z0x rfl (Z6 rfl Z4) (gb (by symm; simp only [decide_eq_false_iff_not]; intro e; exact hq (by simp only [e])))
   ·intro hc
    have hq : a[i] = b[i]'(by omega) := of_decide_eq_true (Z2l hc)
    refine qK (qR ?_)
    refine qe (Zb rfl rfl rfl (Zp (by first | omega | (simp only [List.length_map]; omega)))) ?_
    refine qM (qN ?_)
    refine ⟨i + 1, ⟨hi, Z6m hi (by omega) hJ.2 hq⟩, (by omega), ?_⟩
    exact qp [] ⟨rfl, rfl, rfl, rfl, rfl, trivial⟩
  ·intro hc
   have hi : ¬ i < a.length := by simpa using hc
   refine qX (qS (qR (qA (qN (qE ?_)))))
   exact Z0x rfl (Z6 rfl Z4) (gb (by symm; simp only [decide_eq_true_eq]; exact Z6l hne hi hJ.2))
theorem Z31 {r : Roots} (h : r.ok) : ∀ l, l ∈ textL r → small l.length := by
 intro l hl
 unfold textL at hl
 have := h.n1; have := h.n4; have := h.n5; have := h.n6; have := h.n7
 simp only [List.mem_cons, List.not_mem_nil, or_false] at hl
 unfold small
 rcases hl with rfl | rfl | rfl | rfl | rfl <;> omega
theorem sm6 {n : Nat} (h : n ≤ 1000000) : small n := by unfold small; omega
theorem Zch (a b : Roots) (ha : a.ok) (hb : b.ok) : ACalls Tryz.prog 14 [a.av, b.av] [] (Gives (bA (decide (a = b)))) := by
 refine Zc (n := 24) Tryz.func14 rfl (by decide +kernel) rfl rfl ?_
 refine qS (qR ?_)
 refine Z02 (w0 rfl) rfl (fun id => Z0b id rfl rfl rfl rfl rfl) (fun id1 => ?_)
 refine Z02 (w0 rfl) rfl (fun id => Z0b id rfl rfl rfl rfl rfl) (fun id2 => ?_)
 refine qA (qN (qS ?_))
 refine Zq [0, 1, 0, 4, 15, 31, 63, 127, 63, 319, 1023, 2047, 4095, 8191, 16383, 8191, 65535, 131071, 262143, 524287] 20 rfl (by kernel_rfl) ?_
 refine ce (Z1 rfl rfl rfl) ?_
 refine Z5 1 (w0 rfl) rfl rfl rfl rfl rfl Z9 ?_
 refine ce (Z1 rfl rfl rfl) ?_
 refine Z5 0 (w0 rfl) rfl rfl rfl rfl rfl Z9 ?_
 refine ce (Z8 [] rfl rfl rfl (Zc0 a.fields b.fields (sm6 ha.n2) (sm6 hb.n2)) List.nodup_nil) ?_
 refine cM2 ?_
 refine Z7 (wT rfl rfl rfl rfl) rfl (fun hg => (Z1 rfl rfl rfl)) ?_
 refine Z15 1 (wT rfl rfl rfl rfl) rfl rfl (fun hg => (Zd hg rfl)) rfl rfl Z9 ?_
 refine Z7 (wT rfl rfl rfl rfl) rfl (fun hg => (Z1 rfl rfl rfl)) ?_
 refine Z15 0 (wT rfl rfl rfl rfl) rfl rfl (fun hg => (Zd hg rfl)) rfl rfl Z9 ?_
 refine Z7 (wT rfl rfl rfl rfl) rfl (fun hg => (Z8 [] rfl rfl (Ze (Zd hg rfl) (Ze (Zd hg rfl) Z05)) (Zc1 a.methods b.methods (sm6 ha.n3) (sm6 hb.n3)) List.nodup_nil)) ?_
 refine ce (Zs rfl rfl rfl (fun h => h)) ?_
 refine cM2 ?_
 refine Z15 1 (wT rfl rfl rfl rfl) rfl rfl (fun hg => rfl) rfl rfl (Z01 (Nat.le_of_ble_eq_true rfl)) ?_
 refine Z7 (wT rfl rfl rfl rfl) rfl (fun hg => (Z8 [] rfl rfl (Ze (Zd hg rfl) Z05) (Z4q a) List.nodup_nil)) ?_
 refine Z15 0 (wT rfl rfl rfl rfl) rfl rfl (fun hg => rfl) rfl rfl (Z01 (Nat.le_of_ble_eq_true rfl)) ?_
 refine Z7 (wT rfl rfl rfl rfl) rfl (fun hg => (Z8 [] rfl rfl (Ze (Zd hg rfl) Z05) (Z4q b) List.nodup_nil)) ?_
 refine Z7 (wT rfl rfl rfl rfl) rfl (fun hg => (Z8 [] rfl rfl (Ze (Zd hg rfl) (Ze (Zd hg rfl) (Ze rfl Z05))) (Za3 (textL a) (textL b) (by unfold small; exact (by decide : 5 ≤ 140737488351232)) (by unfold small; exact (by decide : 5 ≤ 140737488351232)) (Z31 ha) (Z31 hb)) List.nodup_nil)) ?_
 refine ce (Zs rfl rfl rfl (fun h => h)) ?_
 refine ce (Z0z rfl rfl) ?_
 refine .done (qN (qE ?_))
 exact Z0x rfl (Z6 rfl Z4) (gb (Zbc a b))
theorem Zam (a b : Roots) (ha : a.ok) (hb : b.ok) : ACalls Tryz.prog 16 [a.av, b.av] [] (Gives (bA (withinR a b))) := by
 refine Zc (n := 40) Tryz.func16 rfl (by decide +kernel) rfl rfl ?_
 refine qS (qR ?_)
 refine Z02 (w0 rfl) rfl (fun id => Z0b id rfl rfl rfl rfl rfl) (fun id1 => ?_)
 refine Z02 (w0 rfl) rfl (fun id => Z0b id rfl rfl rfl rfl rfl) (fun id2 => ?_)
 refine qA (qN (qS ?_))
 refine Z0l 6 rfl (by kernel_rfl) ?_
 refine Z5 1 (w0 rfl) rfl rfl rfl rfl rfl (Z01 (Nat.le_of_ble_eq_true rfl)) ?_
 refine ce (Z8 [] rfl rfl rfl (Z4q a) List.nodup_nil) ?_
 refine Z5 0 (w0 rfl) rfl rfl rfl rfl rfl (Z01 (Nat.le_of_ble_eq_true rfl)) ?_
 refine ce (Z8 [] rfl rfl rfl (Z4q b) List.nodup_nil) ?_
 refine ce (Z0z rfl rfl) ?_
 refine ce (Z0z rfl rfl) ?_
 refine .done (qN (qS (qS (qR (qM ?_)))))
 refine qe (Zx rfl rfl rfl rfl) ?_
 refine qM (qN (qB ?_))
 refine Zk (α := Nat) (fun i => ⟨[(14, iA i), (13, iA 5), (5, textA a), (6, textA b), (2, .ptr id1 7 0 0), (3, .ptr id2 7 0 0)], [(id1, .rows 34 7 [a.cells]), (id2, .rows 34 7 [b.cells])], [], 40⟩) (fun i => i ≤ 5 ∧ ∀ k, k < i → ((textL a).getD k default).all (hasG ((textL b).getD k default)) = true) (fun i => 5 - i) 0 ⟨Nat.zero_le _, fun k h => by omega⟩ ?_ ?_
 ·exact Zg [1, 0] ⟨rfl, rfl, rfl, rfl, rfl, rfl, trivial⟩ rfl (by decide) rfl rfl
 rintro i hJ
 refine qS (qR ?_)
 refine qe eI ?_
 refine qN (qS ?_)
 refine Z2 rfl ?_ ?_
 ·intro hc
  have hi5 : i < 5 := by simp at hc; omega
  have hia : i < (textL a).length := hi5
  have hib : i < (textL b).length := hi5
  refine qK (qS (qB (qS (qR (qM (qA (qN (qS ?_))))))))
  refine Z0l 10 rfl (by kernel_rfl) ?_
  refine cM2 (cM2 ?_)
  refine ce (Zh rfl rfl rfl (Z09 (fun _ => rfl)) (by first | omega | (simp only [List.length_map]; omega) | (simp only [List.length_map, List.length_drop]; omega)) (by first | omega | (simp only [List.length_map]; omega) | (simp only [List.length_map, List.length_drop]; omega))) ?_
  refine ce (Z03 rfl rfl (Z0h (by first | assumption | omega | (simp only [List.length_drop]; omega))) Z9) ?_
  refine cM2 (cM2 ?_)
  refine ce (Zh rfl rfl rfl (Z09 (fun _ => rfl)) (by first | omega | (simp only [List.length_map]; omega) | (simp only [List.length_map, List.length_drop]; omega)) (by first | omega | (simp only [List.length_map]; omega) | (simp only [List.length_map, List.length_drop]; omega))) ?_
  refine ce (Z03 rfl rfl (Z0h (by first | assumption | omega | (simp only [List.length_drop]; omega))) Z9) ?_
  refine ce (Z8 [] rfl rfl rfl (Zfb ((textL a)[i]'hia) ((textL b)[i]'hib) (Z31 ha _ (List.getElem_mem _)) (Z31 hb _ (List.getElem_mem _))) List.nodup_nil) ?_
  refine ce (Z04 rfl rfl) ?_
  refine .done (qN ?_)
  refine Z2 rfl ?_ ?_
  ·intro hc
   have hq : ((textL a).getD i default).all (hasG ((textL b).getD i default)) = false := by rw [← Z6a hia, ← Z6a hib]; exact Z1z hc
   refine qS (qR (qA (qN (qE ?_))))
   exact Z0x rfl (Z6 rfl Z4) (gb (Zbh (Z9x hi5 hq)).symm)
  ·intro hc
   have hq : ((textL a).getD i default).all (hasG ((textL b).getD i default)) = true := by rw [← Z6a hia, ← Z6a hib]; exact Z2l hc
   refine qK (qR ?_)
   refine qe (Zb rfl rfl rfl (Zp (by first | omega | (simp only [List.length_map]; omega)))) ?_
   refine qM (qN ?_)
   refine ⟨i + 1, ⟨hi5, fun k h => by rcases Nat.lt_succ_iff_lt_or_eq.1 h with h | h; exact hJ.2 k h; rw [h]; exact hq⟩, (by omega), ?_⟩
   exact qp [0, 1] ⟨rfl, rfl, rfl, rfl, rfl, rfl, trivial⟩
 ·intro hc
  have hi5 : ¬ i < 5 := by simp at hc; omega
  refine qX (qS (qR ?_))
  refine qe (Z1 rfl rfl rfl) ?_
  refine qL 0 Z9 ?_
  refine qe (Z1 rfl rfl rfl) ?_
  refine qL 1 Z9 ?_
  refine qe (Z8 [] rfl rfl rfl (Zf9 a.fields b.fields (sm6 ha.n2) (sm6 hb.n2)) List.nodup_nil) ?_
  refine qM ?_
  refine Zv (wT rfl rfl rfl rfl) rfl (fun hg => (Z1 rfl rfl rfl)) ?_
  refine Z00 0 (wT rfl rfl rfl rfl) rfl rfl (fun hg => (Zd hg rfl)) rfl rfl Z9 ?_
  refine Zv (wT rfl rfl rfl rfl) rfl (fun hg => (Z1 rfl rfl rfl)) ?_
  refine Z00 1 (wT rfl rfl rfl rfl) rfl rfl (fun hg => (Zd hg rfl)) rfl rfl Z9 ?_
  refine Zv (wT rfl rfl rfl rfl) rfl (fun hg => (Z8 [] rfl rfl (Ze (Zd hg rfl) (Ze (Zd hg rfl) Z05)) (Zfa a.methods b.methods (sm6 ha.n3) (sm6 hb.n3)) List.nodup_nil)) ?_
  refine qe (Zs rfl rfl rfl (fun h => h)) ?_
  refine qA (qN (qE ?_))
  exact Z0x rfl (Z6 rfl Z4) (gb (by rw [← Z7h, show withT a b = true from Z7k fun k hk => hJ.2 k (by omega), Bool.true_and]))
theorem Zc9 (l : List Str) (hl : small l.length) (s : Str) : ACalls Tryz.prog 38 [row1 sA l, sA s] [] (Gives (bA (hasG l s))) := by
 simp only [small] at hl
 refine Zc (n := 18) Tryz.func38 rfl (by decide +kernel) rfl rfl ?_
 refine qS (qR (qA (qN (qS (qS (qR (qA (qN (qB ?_)))))))))
 refine Zk (α := Nat) (fun i => ⟨[(5, iA i), (0, row1 sA l), (1, sA s)], [], [], 18⟩) (fun i => (l.drop i).any (fun x => eqG x s) = l.any (fun x => eqG x s)) (fun i => l.length - i) 0 rfl ?_ ?_
 ·exact Zg [] ⟨rfl, rfl, rfl, trivial⟩ rfl (by decide) rfl rfl
 rintro i hJ
 refine qS (qS (qR (qM (qM ?_))))
 refine qe (Zx rfl rfl rfl rfl) ?_
 refine qe eI ?_
 refine qN ?_
 refine Z2 rfl ?_ ?_
 ·intro hc
  have hi : i < l.length := by simpa using hc
  refine qK (qS (qB (qS (qR (qM (qM ?_))))))
  refine qe (Zh rfl rfl rfl (Z09 (fun _ => rfl)) (by first | omega | (simp only [List.length_map]; omega) | (simp only [List.length_map, List.length_drop]; omega)) (by first | omega | (simp only [List.length_map]; omega) | (simp only [List.length_map, List.length_drop]; omega))) ?_
  refine qe (Z03 rfl rfl (Z0h (by first | assumption | omega | (simp only [List.length_drop]; omega))) Z9) ?_
  refine qM ?_
  refine qe (Z1j rfl rfl rfl rfl) ?_
  refine qN ?_
  refine Z2 rfl ?_ ?_
  ·intro hc
   have hq : (fun x => eqG x s) l[i] = true := by show eqG l[i] s = true; rw [← Zbi]; exact hc
   refine qS (qR (qA (qN (qE ?_))))
   exact Z0x rfl (Z6 rfl Z4) (gb (Z2u hJ hi hq).symm)
  ·intro hc
   have hq : (fun x => eqG x s) l[i] = false := by show eqG l[i] s = false; rw [← Zbi]; exact hc
   refine qK (qR (qM ?_))
   refine qe (Zb rfl rfl rfl (Zp (by first | omega | (simp only [List.length_map]; omega)))) ?_
   refine qA (qN ?_)
   refine ⟨i + 1, (Z3h hJ hi hq), (by omega), ?_⟩
   exact qp [] ⟨rfl, rfl, rfl, trivial⟩
 ·intro hc
  have hi : ¬ i < l.length := by simpa using hc
  refine qX (qS (qR (qA (qN (qE ?_)))))
  exact Z0x rfl (Z6 rfl Z4) (gb (Z48 hJ hi).symm)
theorem Zc7 (l : List FRef) (hl : small l.length) (s : FRef) : ACalls Tryz.prog 47 [.lst (l.map FRef.cells), FRef.av s] [] (Gives (bA (hasG l s))) := by
 simp only [small] at hl
 refine Zc (n := 18) Tryz.func47 rfl (by decide +kernel) rfl rfl ?_
 refine qS (qR ?_)
 refine Z02 (w0 rfl) rfl (fun id => Z0b id rfl rfl rfl rfl rfl) (fun id1 => ?_)
 refine qA (qN (qS (qS (qR (qA (qN (qB ?_)))))))
 refine Zk (α := Nat) (fun i => ⟨[(5, iA i), (0, .lst (l.map FRef.cells)), (3, .ptr id1 2 0 0)], [(id1, .rows 46 2 [s.cells])], [], 18⟩) (fun i => (l.drop i).any (fun x => eqG x s) = l.any (fun x => eqG x s)) (fun i => l.length - i) 0 rfl ?_ ?_
 ·exact Zg [0] ⟨rfl, rfl, rfl, trivial⟩ rfl (by decide) rfl rfl
 rintro i hJ
 refine qS (qS (qR (qM (qM ?_))))
 refine qe (Zx rfl rfl rfl rfl) ?_
 refine qe eI ?_
 refine qN ?_
 refine Z2 rfl ?_ ?_
 ·intro hc
  have hi : i < l.length := by simpa using hc
  refine qK (qS (qB (qS ?_)))
  refine Z0l 6 rfl (by kernel_rfl) ?_
  refine cM2 (cM2 ?_)
  refine ce (Zh rfl rfl rfl (Z09 (fun _ => rfl)) (by first | omega | (simp only [List.length_map]; omega) | (simp only [List.length_map, List.length_drop]; omega)) (by first | omega | (simp only [List.length_map]; omega) | (simp only [List.length_map, List.length_drop]; omega))) ?_
  refine ce (Z03 rfl rfl (Z0h (by first | assumption | omega | (simp only [List.length_drop]; omega))) (Z01 (Nat.le_of_ble_eq_true rfl))) ?_
  refine Z5 0 (w0 rfl) rfl rfl rfl rfl rfl (Z01 (Nat.le_of_ble_eq_true rfl)) ?_
  refine ce (Z39 rfl rfl rfl rfl rfl) ?_
  refine .done (qN ?_)
  refine Z2 rfl ?_ ?_
  ·intro hc
   have hq : (fun x => eqG x s) l[i] = true := by show eqG l[i] s = true; rw [← Z9u]; exact hc
   refine qS (qR (qA (qN (qE ?_))))
   exact Z0x rfl (Z6 rfl Z4) (gb (Z2u hJ hi hq).symm)
  ·intro hc
   have hq : (fun x => eqG x s) l[i] = false := by show eqG l[i] s = false; rw [← Z9u]; exact hc
   refine qK (qR (qM ?_))
   refine qe (Zb rfl rfl rfl (Zp (by first | omega | (simp only [List.length_map]; omega)))) ?_
   refine qA (qN ?_)
   refine ⟨i + 1, (Z3h hJ hi hq), (by omega), ?_⟩
   exact qp [0] ⟨rfl, rfl, rfl, trivial⟩
 ·intro hc
  have hi : ¬ i < l.length := by simpa using hc
  refine qX (qS (qR (qA (qN (qE ?_)))))
  exact Z0x rfl (Z6 rfl Z4) (gb (Z48 hJ hi).symm)
theorem Zc8 (l : List MRef) (hl : small l.length) (s : MRef) : ACalls Tryz.prog 22 [.lst (l.map MRef.cells), MRef.av s] [] (Gives (bA (hasG l s))) := by
 simp only [small] at hl
 refine Zc (n := 18) Tryz.func22 rfl (by decide +kernel) rfl rfl ?_
 refine qS (qR ?_)
 refine Z02 (w0 rfl) rfl (fun id => Z0b id rfl rfl rfl rfl rfl) (fun id1 => ?_)
 refine qA (qN (qS (qS (qR (qA (qN (qB ?_)))))))
 refine Zk (α := Nat) (fun i => ⟨[(5, iA i), (0, .lst (l.map MRef.cells)), (3, .ptr id1 3 0 0)], [(id1, .rows 25 3 [s.cells])], [], 18⟩) (fun i => (l.drop i).any (fun x => eqG x s) = l.any (fun x => eqG x s)) (fun i => l.length - i) 0 rfl ?_ ?_
 ·exact Zg [0] ⟨rfl, rfl, rfl, trivial⟩ rfl (by decide) rfl rfl
 rintro i hJ
 refine qS (qS (qR (qM (qM ?_))))
 refine qe (Zx rfl rfl rfl rfl) ?_
 refine qe eI ?_
 refine qN ?_
 refine Z2 rfl ?_ ?_
 ·intro hc
  have hi : i < l.length := by simpa using hc
  refine qK (qS (qB (qS ?_)))
  refine Z0l 6 rfl (by kernel_rfl) ?_
  refine cM2 (cM2 ?_)
  refine ce (Zh rfl rfl rfl (Z09 (fun _ => rfl)) (by first | omega | (simp only [List.length_map]; omega) | (simp only [List.length_map, List.length_drop]; omega)) (by first | omega | (simp only [List.length_map]; omega) | (simp only [List.length_map, List.length_drop]; omega))) ?_
  refine ce (Z03 rfl rfl (Z0h (by first | assumption | omega | (simp only [List.length_drop]; omega))) (Z01 (Nat.le_of_ble_eq_true rfl))) ?_
  refine Z5 0 (w0 rfl) rfl rfl rfl rfl rfl (Z01 (Nat.le_of_ble_eq_true rfl)) ?_
  refine ce (Z39 rfl rfl rfl rfl rfl) ?_
  refine .done (qN ?_)
  refine Z2 rfl ?_ ?_
  ·intro hc
   have hq : (fun x => eqG x s) l[i] = true := by show eqG l[i] s = true; rw [← Z9v]; exact hc
   refine qS (qR (qA (qN (qE ?_))))
   exact Z0x rfl (Z6 rfl Z4) (gb (Z2u hJ hi hq).symm)
  ·intro hc
   have hq : (fun x => eqG x s) l[i] = false := by show eqG l[i] s = false; rw [← Z9v]; exact hc
   refine qK (qR (qM ?_))
   refine qe (Zb rfl rfl rfl (Zp (by first | omega | (simp only [List.length_map]; omega)))) ?_
   refine qA (qN ?_)
   refine ⟨i + 1, (Z3h hJ hi hq), (by omega), ?_⟩
   exact qp [0] ⟨rfl, rfl, rfl, trivial⟩
 ·intro hc
  have hi : ¬ i < l.length := by simpa using hc
  refine qX (qS (qR (qA (qN (qE ?_)))))
  exact Z0x rfl (Z6 rfl Z4) (gb (Z48 hJ hi).symm)
theorem Z50 (a b : List Str) (hl : small a.length) (hb : small b.length) : ACalls Tryz.prog 48 [row1 sA a, row1 sA b] [] (Gives (bA (a.all (hasG b)))) := by
 simp only [small] at hl
 refine Zc (n := 19) Tryz.func48 rfl (by decide +kernel) rfl rfl ?_
 refine qS (qR (qA (qN (qS (qS (qR (qA (qN (qB ?_)))))))))
 refine Zk (α := Nat) (fun i => ⟨[(5, iA i), (0, row1 sA a), (1, row1 sA b)], [], [], 19⟩) (fun i => AllTo (hasG b) a i) (fun i => a.length - i) 0 (AllTo.zero _ _) ?_ ?_
 ·exact Zg [] ⟨rfl, rfl, rfl, trivial⟩ rfl (by decide) rfl rfl
 rintro i hJ
 refine qS (qS (qR (qM (qM ?_))))
 refine qe (Zx rfl rfl rfl rfl) ?_
 refine qe eI ?_
 refine qN ?_
 refine Z2 rfl ?_ ?_
 ·intro hc
  have hi : i < a.length := by simpa using hc
  refine qK (qS (qB (qS (qR (qM (qM (qM ?_)))))))
  refine qe (Zh rfl rfl rfl (Z09 (fun _ => rfl)) (by first | omega | (simp only [List.length_map]; omega) | (simp only [List.length_map, List.length_drop]; omega)) (by first | omega | (simp only [List.length_map]; omega) | (simp only [List.length_map, List.length_drop]; omega))) ?_
  refine qe (Z03 rfl rfl (Z0h (by first | assumption | omega | (simp only [List.length_drop]; omega))) Z9) ?_
  refine qe (Z8 [] rfl rfl rfl (Zc9 b hb _) List.nodup_nil) ?_
  refine qe (Z04 rfl rfl) ?_
  refine qN ?_
  refine Z2 rfl ?_ ?_
  ·intro hc
   have hq : hasG b a[i] = false := Z1z hc
   refine qS (qR (qA (qN (qE ?_))))
   exact Z0x rfl (Z6 rfl Z4) (gb (Z60 hi hq).symm)
  ·intro hc
   have hq : hasG b a[i] = true := Z2l hc
   refine qK (qR (qM ?_))
   refine qe (Zb rfl rfl rfl (Zp (by first | omega | (simp only [List.length_map]; omega)))) ?_
   refine qA (qN ?_)
   refine ⟨i + 1, (hJ.next hi hq), (by omega), ?_⟩
   exact qp [] ⟨rfl, rfl, rfl, trivial⟩
 ·intro hc
  have hi : ¬ i < a.length := by simpa using hc
  refine qX (qS (qR (qA (qN (qE ?_)))))
  exact Z0x rfl (Z6 rfl Z4) (gb (hJ.fin hi).symm)
theorem Z9j (a b : Roots) (ha : a.ok) (hb : b.ok) : ACalls Tryz.prog 17 [a.av, b.av] [] (Gives (bA (withinR a b))) := by
 have n2 := ha.n2
 have n3 := ha.n3
 refine Zc (n := 72) Tryz.func17 rfl (by decide +kernel) rfl rfl ?_
 refine qS (qR ?_)
 refine Z02 (w0 rfl) rfl (fun id => Z0b id rfl rfl rfl rfl rfl) (fun id1 => ?_)
 refine Z02 (w0 rfl) rfl (fun id => Z0b id rfl rfl rfl rfl rfl) (fun id2 => ?_)
 refine qA (qN (qS (qS (qR (qA (qN (qB ?_)))))))
 refine Zk (α := Nat) (fun i => ⟨[(5, iA i), (2, .ptr id1 7 0 0), (3, .ptr id2 7 0 0)], [(id1, .rows 34 7 [a.cells]), (id2, .rows 34 7 [b.cells])], [], 72⟩) (fun i => AllTo (hasG b.fields) a.fields i) (fun i => a.fields.length - i) 0 (AllTo.zero _ _) ?_ ?_
 ·exact Zg [1, 0] ⟨rfl, rfl, rfl, trivial⟩ rfl (by decide) rfl rfl
 rintro i hJ
 refine qS (qS (qR (qM ?_)))
 refine qe (Z1 rfl rfl rfl) ?_
 refine qL 0 Z9 ?_
 refine qe (Zx rfl rfl rfl rfl) ?_
 refine qe eI ?_
 refine qN ?_
 refine Z2 rfl ?_ ?_
 ·intro hc
  have hi : i < a.fields.length := by simpa using hc
  refine qK (qS (qB (qS ?_)))
  refine Z0l 9 rfl (by kernel_rfl) ?_
  refine ce (Z1 rfl rfl rfl) ?_
  refine Z5 1 (w0 rfl) rfl rfl rfl rfl rfl Z9 ?_
  refine ce (Z1 rfl rfl rfl) ?_
  refine Z5 0 (w0 rfl) rfl rfl rfl rfl rfl Z9 ?_
  refine cM2 ?_
  refine ce (Zh rfl rfl rfl (Z09 (fun _ => rfl)) (by first | omega | (simp only [List.length_map]; omega) | (simp only [List.length_map, List.length_drop]; omega)) (by first | omega | (simp only [List.length_map]; omega) | (simp only [List.length_map, List.length_drop]; omega))) ?_
  refine ce (Z03 rfl rfl (Z0h (by first | assumption | omega | (simp only [List.length_drop]; omega))) (Z01 (Nat.le_of_ble_eq_true rfl))) ?_
  refine ce (Z8 [] rfl rfl rfl (Zc7 b.fields (sm6 hb.n2) _) List.nodup_nil) ?_
  refine ce (Z04 rfl rfl) ?_
  refine .done (qN ?_)
  refine Z2 rfl ?_ ?_
  ·intro hc
   have hq : hasG b.fields a.fields[i] = false := Z1z hc
   have t2 := Z60 hi hq
   refine qS (qR (qA (qN (qE ?_))))
   exact Z0x rfl (Z6 rfl Z4) (gb (by unfold withinR; rw [t2]; rfl))
  ·intro hc
   have hq : hasG b.fields a.fields[i] = true := Z2l hc
   refine qK (qR (qM ?_))
   refine qe (Zb rfl rfl rfl (Zp (by first | omega | (simp only [List.length_map]; omega)))) ?_
   refine qA (qN ?_)
   refine ⟨i + 1, (hJ.next hi hq), (by omega), ?_⟩
   exact qp [0, 1] ⟨rfl, rfl, rfl, trivial⟩
 ·intro hc
  have hi : ¬ i < a.fields.length := by simpa using hc
  have t2 := hJ.fin hi
  refine qX (qS (qS (qR (qA (qN (qB ?_))))))
  refine Zk (α := Nat) (fun i => ⟨[(6, iA i), (2, .ptr id1 7 0 0), (3, .ptr id2 7 0 0)], [(id1, .rows 34 7 [a.cells]), (id2, .rows 34 7 [b.cells])], [], 72⟩) (fun i => AllTo (hasG b.methods) a.methods i) (fun i => a.methods.length - i) 0 (AllTo.zero _ _) ?_ ?_
  ·exact Zg [0, 1] ⟨rfl, rfl, rfl, trivial⟩ rfl (by decide) rfl rfl
  rintro i hJ2
  refine qS (qS (qR (qM ?_)))
  refine qe (Z1 rfl rfl rfl) ?_
  refine qL 0 Z9 ?_
  refine qe (Zx rfl rfl rfl rfl) ?_
  refine qe eI ?_
  refine qN ?_
  refine Z2 rfl ?_ ?_
  ·intro hc
   have hi : i < a.methods.length := by simpa using hc
   refine qK (qS (qB (qS ?_)))
   refine Z0l 9 rfl (by kernel_rfl) ?_
   refine ce (Z1 rfl rfl rfl) ?_
   refine Z5 1 (w0 rfl) rfl rfl rfl rfl rfl Z9 ?_
   refine ce (Z1 rfl rfl rfl) ?_
   refine Z5 0 (w0 rfl) rfl rfl rfl rfl rfl Z9 ?_
   refine cM2 ?_
   refine ce (Zh rfl rfl rfl (Z09 (fun _ => rfl)) (by first | omega | (simp only [List.length_map]; omega) | (simp only [List.length_map, List.length_drop]; omega)) (by first | omega | (simp only [List.length_map]; omega) | (simp only [List.length_map, List.length_drop]; omega))) ?_
   refine ce (Z03 rfl rfl (Z0h (by first | assumption | omega | (simp only [List.length_drop]; omega))) (Z01 (Nat.le_of_ble_eq_true rfl))) ?_
   refine ce (Z8 [] rfl rfl rfl (Zc8 b.methods (sm6 hb.n3) _) List.nodup_nil) ?_
   refine ce (Z04 rfl rfl) ?_
   refine .done (qN ?_)
   refine Z2 rfl ?_ ?_
   ·intro hc
    have hq : hasG b.methods a.methods[i] = false := Z1z hc
    have t3 := Z60 hi hq
    refine qS (qR (qA (qN (qE ?_))))
    exact Z0x rfl (Z6 rfl Z4) (gb (by unfold withinR; rw [t2, t3]; rfl))
   ·intro hc
    have hq : hasG b.methods a.methods[i] = true := Z2l hc
    refine qK (qR (qM ?_))
    refine qe (Zb rfl rfl rfl (Zp (by first | omega | (simp only [List.length_map]; omega)))) ?_
    refine qA (qN ?_)
    refine ⟨i + 1, (hJ2.next hi hq), (by omega), ?_⟩
    exact qp [0, 1] ⟨rfl, rfl, rfl, trivial⟩
  ·intro hc
   have hi : ¬ i < a.methods.length := by simpa using hc
   have t3 := hJ2.fin hi
   refine qX (qS (qR ?_))
   refine qe (Z1 rfl rfl rfl) ?_
   refine qL 0 Z9 ?_
   refine qe (Z1 rfl rfl rfl) ?_
   refine qL 1 Z9 ?_
   refine qe (Z8 [] rfl rfl rfl (Z50 a.classes b.classes (sm6 ha.n1) (sm6 hb.n1)) List.nodup_nil) ?_
   refine qM ?_
   refine Zv (wT rfl rfl rfl rfl) rfl (fun hg => (Z1 rfl rfl rfl)) ?_
   refine Z00 0 (wT rfl rfl rfl rfl) rfl rfl (fun hg => (Zd hg rfl)) rfl rfl Z9 ?_
   refine Zv (wT rfl rfl rfl rfl) rfl (fun hg => (Z1 rfl rfl rfl)) ?_
   refine Z00 1 (wT rfl rfl rfl rfl) rfl rfl (fun hg => (Zd hg rfl)) rfl rfl Z9 ?_
   refine Zv (wT rfl rfl rfl rfl) rfl (fun hg => (Z8 [] rfl rfl (Ze (Zd hg rfl) (Ze (Zd hg rfl) Z05)) (Z50 a.classNames b.classNames (sm6 ha.n4) (sm6 hb.n4)) List.nodup_nil)) ?_
   refine qe (Zs rfl rfl rfl (fun h => h)) ?_
   refine qM ?_
   refine Zv (wT rfl rfl rfl rfl) rfl (fun hg => (Z1 rfl rfl rfl)) ?_
   refine Z00 0 (wT rfl rfl rfl rfl) rfl rfl (fun hg => (Zd hg rfl)) rfl rfl Z9 ?_
   refine Zv (wT rfl rfl rfl rfl) rfl (fun hg => (Z1 rfl rfl rfl)) ?_
   refine Z00 1 (wT rfl rfl rfl rfl) rfl rfl (fun hg => (Zd hg rfl)) rfl rfl Z9 ?_
   refine Zv (wT rfl rfl rfl rfl) rfl (fun hg => (Z8 [] rfl rfl (Ze (Zd hg rfl) (Ze (Zd hg rfl) Z05)) (Z50 a.fieldNames b.fieldNames (sm6 ha.n5) (sm6 hb.n5)) List.nodup_nil)) ?_
   refine qe (Zs rfl rfl rfl (fun h => h)) ?_
   refine qM ?_
   refine Zv (wT rfl rfl rfl rfl) rfl (fun hg => (Z1 rfl rfl rfl)) ?_
   refine Z00 0 (wT rfl rfl rfl rfl) rfl rfl (fun hg => (Zd hg rfl)) rfl rfl Z9 ?_
   refine Zv (wT rfl rfl rfl rfl) rfl (fun hg => (Z1 rfl rfl rfl)) ?_
   refine Z00 1 (wT rfl rfl rfl rfl) rfl rfl (fun hg => (Zd hg rfl)) rfl rfl Z9 ?_
   refine Zv (wT rfl rfl rfl rfl) rfl (fun hg => (Z8 [] rfl rfl (Ze (Zd hg rfl) (Ze (Zd hg rfl) Z05)) (Z50 a.methodNames b.methodNames (sm6 ha.n6) (sm6 hb.n6)) List.nodup_nil)) ?_
   refine qe (Zs rfl rfl rfl (fun h => h)) ?_
   refine qM ?_
   refine Zv (wT rfl rfl rfl rfl) rfl (fun hg => (Z1 rfl rfl rfl)) ?_
   refine Z00 0 (wT rfl rfl rfl rfl) rfl rfl (fun hg => (Zd hg rfl)) rfl rfl Z9 ?_
   refine Zv (wT rfl rfl rfl rfl) rfl (fun hg => (Z1 rfl rfl rfl)) ?_
   refine Z00 1 (wT rfl rfl rfl rfl) rfl rfl (fun hg => (Zd hg rfl)) rfl rfl Z9 ?_
   refine Zv (wT rfl rfl rfl rfl) rfl (fun hg => (Z8 [] rfl rfl (Ze (Zd hg rfl) (Ze (Zd hg rfl) Z05)) (Z50 a.lookups b.lookups (sm6 ha.n7) (sm6 hb.n7)) List.nodup_nil)) ?_
   refine qe (Zs rfl rfl rfl (fun h => h)) ?_
   refine qA (qN (qE ?_))
   exact Z0x rfl (Z6 rfl Z4) (gb (by unfold withinR; rw [t2, t3]; rfl))
theorem Z4a (a b : List Str) (ha : small a.length) : ACalls Tryz.prog 24 [row1 sA a, row1 sA b] [] (Gives (bA (sameT a b))) := by
 simp only [small] at ha
 refine Zc (n := 26) Tryz.func24 rfl (by decide +kernel) rfl rfl ?_
 refine qS (qR (qA (qN (qS (qS (qR (qM ?_)))))))
 refine qe (Zx rfl rfl rfl rfl) ?_
 refine qM ?_
 refine qe (Zx rfl rfl rfl rfl) ?_
 refine qe eI ?_
 refine qN ?_
 refine Z2 rfl ?_ ?_
 ·intro hc
  have hne : ¬ a.length = b.length := by simp at hc; omega
  refine qS (qR (qA (qN (qE ?_))))
  exact Z0x rfl (Z6 rfl Z4) (gb (by rw [Z2a]; symm; simp only [decide_eq_false_iff_not]; intro e; exact hne (by rw [e])))
 ·intro hc
  have hne : a.length = b.length := by simp at hc; omega
  refine qK (qS (qS (qR (qA (qN (qB ?_))))))
  refine Zk (α := Nat) (fun i => ⟨[(5, iA i), (0, row1 sA a), (1, row1 sA b)], [], [], 26⟩) (fun i => i ≤ a.length ∧ a.take i = b.take i) (fun i => a.length - i) 0 ⟨Nat.zero_le _, rfl⟩ ?_ ?_
  ·exact Zg [] ⟨rfl, rfl, rfl, trivial⟩ rfl (by decide) rfl rfl
  rintro i hJ
  refine qS (qS (qR (qM (qM ?_))))
  refine qe (Zx rfl rfl rfl rfl) ?_
  refine qe eI ?_
  refine qN ?_
  refine Z2 rfl ?_ ?_
  ·intro hc
   have hi : i < a.length := by simpa using hc
   refine qK (qS (qB (qS ?_)))
   refine Z0l 9 rfl (by kernel_rfl) ?_
   refine cM2 (cM2 ?_)
   refine ce (Zh rfl rfl rfl (Z09 (fun _ => rfl)) (by first | omega | (simp only [List.length_map]; omega) | (simp only [List.length_map, List.length_drop]; omega)) (by first | omega | (simp only [List.length_map]; omega) | (simp only [List.length_map, List.length_drop]; omega))) ?_
   refine ce (Z03 rfl rfl (Z0h (by first | assumption | omega | (simp only [List.length_drop]; omega))) Z9) ?_
   refine cM2 (cM2 ?_)
   refine ce (Zh rfl rfl rfl (Z09 (fun _ => rfl)) (by first | omega | (simp only [List.length_map]; omega) | (simp only [List.length_map, List.length_drop]; omega)) (by first | omega | (simp only [List.length_map]; omega) | (simp only [List.length_map, List.length_drop]; omega))) ?_
   refine ce (Z03 rfl rfl (Z0h (by first | assumption | omega | (simp only [List.length_drop]; omega))) Z9) ?_
   refine ce (Z1j rfl rfl rfl rfl) ?_
   refine .done (qN ?_)
   refine Z2 rfl ?_ ?_
   ·intro hc
    have hq : ¬ a[i] = b[i]'(by omega) := beqS_no.1 (Z1z hc)
    refine qS (qR (qA (qN (qE ?_))))
    exact Z0x rfl (Z6 rfl Z4) (gb (by rw [Z2a]; symm; simp only [decide_eq_false_iff_not]; intro e; exact hq (by simp only [e])))
   ·intro hc
    have hq : a[i] = b[i]'(by omega) := beqS_iff.1 (Z2l hc)
    refine qK (qR (qM ?_))
    refine qe (Zb rfl rfl rfl (Zp (by first | omega | (simp only [List.length_map]; omega)))) ?_
    refine qA (qN ?_)
    refine ⟨i + 1, ⟨hi, Z6m hi (by omega) hJ.2 hq⟩, (by omega), ?_⟩
    exact qp [] ⟨rfl, rfl, rfl, trivial⟩
  ·intro hc
   have hi : ¬ i < a.length := by simpa using hc
   refine qX (qS (qR (qA (qN (qE ?_)))))
   exact Z0x rfl (Z6 rfl Z4) (gb (by rw [Z2a]; symm; simp only [decide_eq_true_eq]; exact Z6l hne hi hJ.2))
theorem Zcg (a b : Roots) (ha : a.ok) (hb : b.ok) : ACalls Tryz.prog 15 [a.av, b.av] [] (Gives (bA (decide (a = b)))) := by
 have n2 := ha.n2
 have n3 := ha.n3
 refine Zc (n := 92) Tryz.func15 rfl (by decide +kernel) rfl rfl ?_
 refine qS (qR ?_)
 refine Z02 (w0 rfl) rfl (fun id => Z0b id rfl rfl rfl rfl rfl) (fun id1 => ?_)
 refine Z02 (w0 rfl) rfl (fun id => Z0b id rfl rfl rfl rfl rfl) (fun id2 => ?_)
 refine qA (qN (qS (qS (qR ?_))))
 refine qe (Z1 rfl rfl rfl) ?_
 refine qL 1 Z9 ?_
 refine qe (Zx rfl rfl rfl rfl) ?_
 refine qe (Z1 rfl rfl rfl) ?_
 refine qL 0 Z9 ?_
 refine qe (Zx rfl rfl rfl rfl) ?_
 refine qe eI ?_
 refine qM ?_
 refine Zv (wF rfl rfl rfl rfl) rfl (fun hg => (Z1 rfl rfl rfl)) ?_
 refine Z00 1 (wF rfl rfl rfl rfl) rfl rfl (fun hg => (Zd hg rfl)) rfl rfl Z9 ?_
 refine Zv (wF rfl rfl rfl rfl) rfl (fun hg => (Zx rfl (Zd hg rfl) rfl rfl)) ?_
 refine Zv (wF rfl rfl rfl rfl) rfl (fun hg => (Z1 rfl rfl rfl)) ?_
 refine Z00 0 (wF rfl rfl rfl rfl) rfl rfl (fun hg => (Zd hg rfl)) rfl rfl Z9 ?_
 refine Zv (wF rfl rfl rfl rfl) rfl (fun hg => (Zx rfl (Zd hg rfl) rfl rfl)) ?_
 refine Zv (wF rfl rfl rfl rfl) rfl (fun hg => (Zr rfl (Zd hg rfl) (Zd hg rfl) rfl)) ?_
 refine qe (Z27 rfl rfl rfl (fun h => by rw [h]; rfl)) ?_
 refine qN ?_
 refine Z2 rfl ?_ ?_
 ·intro hc
  have hln : ¬ (a.fields.length = b.fields.length ∧ a.methods.length = b.methods.length) := by rcases orT hc with h | h <;> simp at h <;> omega
  refine qS (qR (qA (qN (qE ?_))))
  exact Z0x rfl (Z6 rfl Z4) (gb (Zb8 hln).symm)
 ·intro hc
  have hln : a.fields.length = b.fields.length ∧ a.methods.length = b.methods.length := by have h := orF hc; have h1 := h.1; have h2 := h.2; simp at h1 h2; omega
  refine qK (qS (qS (qR (qA (qN (qB ?_))))))
  refine Zk (α := Nat) (fun i => ⟨[(5, iA i), (2, .ptr id1 7 0 0), (3, .ptr id2 7 0 0)], [(id1, .rows 34 7 [a.cells]), (id2, .rows 34 7 [b.cells])], [], 92⟩) (fun i => i ≤ a.fields.length ∧ a.fields.take i = b.fields.take i) (fun i => a.fields.length - i) 0 ⟨Nat.zero_le _, rfl⟩ ?_ ?_
  ·exact Zg [1, 0] ⟨rfl, rfl, rfl, trivial⟩ rfl (by decide) rfl rfl
  rintro i hJ
  refine qS (qS (qR (qM ?_)))
  refine qe (Z1 rfl rfl rfl) ?_
  refine qL 0 Z9 ?_
  refine qe (Zx rfl rfl rfl rfl) ?_
  refine qe eI ?_
  refine qN ?_
  refine Z2 rfl ?_ ?_
  ·intro hc
   have hi : i < a.fields.length := by simpa using hc
   refine qK (qS (qB (qS ?_)))
   refine Z0l 11 rfl (by kernel_rfl) ?_
   refine ce (Z1 rfl rfl rfl) ?_
   refine Z5 0 (w0 rfl) rfl rfl rfl rfl rfl Z9 ?_
   refine cM2 ?_
   refine ce (Zh rfl rfl rfl (Z09 (fun _ => rfl)) (by first | omega | (simp only [List.length_map]; omega) | (simp only [List.length_map, List.length_drop]; omega)) (by first | omega | (simp only [List.length_map]; omega) | (simp only [List.length_map, List.length_drop]; omega))) ?_
   refine ce (Z03 rfl rfl (Z0h (by first | assumption | omega | (simp only [List.length_drop]; omega))) (Z01 (Nat.le_of_ble_eq_true rfl))) ?_
   refine ce (Z1 rfl rfl rfl) ?_
   refine Z5 1 (w0 rfl) rfl rfl rfl rfl rfl Z9 ?_
   refine cM2 ?_
   refine ce (Zh rfl rfl rfl (Z09 (fun _ => rfl)) (by first | omega | (simp only [List.length_map]; omega) | (simp only [List.length_map, List.length_drop]; omega)) (by first | omega | (simp only [List.length_map]; omega) | (simp only [List.length_map, List.length_drop]; omega))) ?_
   refine ce (Z03 rfl rfl (Z0h (by first | assumption | omega | (simp only [List.length_drop]; omega))) (Z01 (Nat.le_of_ble_eq_true rfl))) ?_
   refine ce (Z4e rfl rfl rfl rfl rfl) ?_
   refine .done (qN ?_)
   refine Z2 rfl ?_ ?_
   ·intro hc
    have hq : ¬ a.fields[i] = b.fields[i]'(by omega) := Zas (by rw [← Z9u]; exact Z1z hc)
    refine qS (qR (qA (qN (qE ?_))))
    exact Z0x rfl (Z6 rfl Z4) (gb (Zb9 hi (by omega) hq).symm)
   ·intro hc
    have hq : a.fields[i] = b.fields[i]'(by omega) := eqG_iff.1 (by rw [← Z9u]; exact Z2l hc)
    refine qK (qR (qM ?_))
    refine qe (Zb rfl rfl rfl (Zp (by first | omega | (simp only [List.length_map]; omega)))) ?_
    refine qA (qN ?_)
    refine ⟨i + 1, ⟨hi, Z6m hi (by omega) hJ.2 hq⟩, (by omega), ?_⟩
    exact qp [0, 1] ⟨rfl, rfl, rfl, trivial⟩
  ·intro hc
   have hi : ¬ i < a.fields.length := by simpa using hc
   have t4 := Z6l hln.1 hi hJ.2
   refine qX (qS (qS (qR (qA (qN (qB ?_))))))
   refine Zk (α := Nat) (fun i => ⟨[(6, iA i), (2, .ptr id1 7 0 0), (3, .ptr id2 7 0 0)], [(id1, .rows 34 7 [a.cells]), (id2, .rows 34 7 [b.cells])], [], 92⟩) (fun i => i ≤ a.methods.length ∧ a.methods.take i = b.methods.take i) (fun i => a.methods.length - i) 0 ⟨Nat.zero_le _, rfl⟩ ?_ ?_
   ·exact Zg [0, 1] ⟨rfl, rfl, rfl, trivial⟩ rfl (by decide) rfl rfl
   rintro i hJ2
   refine qS (qS (qR (qM ?_)))
   refine qe (Z1 rfl rfl rfl) ?_
   refine qL 0 Z9 ?_
   refine qe (Zx rfl rfl rfl rfl) ?_
   refine qe eI ?_
   refine qN ?_
   refine Z2 rfl ?_ ?_
   ·intro hc
    have hi : i < a.methods.length := by simpa using hc
    refine qK (qS (qB (qS ?_)))
    refine Z0l 11 rfl (by kernel_rfl) ?_
    refine ce (Z1 rfl rfl rfl) ?_
    refine Z5 0 (w0 rfl) rfl rfl rfl rfl rfl Z9 ?_
    refine cM2 ?_
    refine ce (Zh rfl rfl rfl (Z09 (fun _ => rfl)) (by first | omega | (simp only [List.length_map]; omega) | (simp only [List.length_map, List.length_drop]; omega)) (by first | omega | (simp only [List.length_map]; omega) | (simp only [List.length_map, List.length_drop]; omega))) ?_
    refine ce (Z03 rfl rfl (Z0h (by first | assumption | omega | (simp only [List.length_drop]; omega))) (Z01 (Nat.le_of_ble_eq_true rfl))) ?_
    refine ce (Z1 rfl rfl rfl) ?_
    refine Z5 1 (w0 rfl) rfl rfl rfl rfl rfl Z9 ?_
    refine cM2 ?_
    refine ce (Zh rfl rfl rfl (Z09 (fun _ => rfl)) (by first | omega | (simp only [List.length_map]; omega) | (simp only [List.length_map, List.length_drop]; omega)) (by first | omega | (simp only [List.length_map]; omega) | (simp only [List.length_map, List.length_drop]; omega))) ?_
    refine ce (Z03 rfl rfl (Z0h (by first | assumption | omega | (simp only [List.length_drop]; omega))) (Z01 (Nat.le_of_ble_eq_true rfl))) ?_
    refine ce (Z4e rfl rfl rfl rfl rfl) ?_
    refine .done (qN ?_)
    refine Z2 rfl ?_ ?_
    ·intro hc
     have hq : ¬ a.methods[i] = b.methods[i]'(by omega) := Zas (by rw [← Z9v]; exact Z1z hc)
     refine qS (qR (qA (qN (qE ?_))))
     exact Z0x rfl (Z6 rfl Z4) (gb (Zba hi (by omega) hq).symm)
    ·intro hc
     have hq : a.methods[i] = b.methods[i]'(by omega) := eqG_iff.1 (by rw [← Z9v]; exact Z2l hc)
     refine qK (qR (qM ?_))
     refine qe (Zb rfl rfl rfl (Zp (by first | omega | (simp only [List.length_map]; omega)))) ?_
     refine qA (qN ?_)
     refine ⟨i + 1, ⟨hi, Z6m hi (by omega) hJ2.2 hq⟩, (by omega), ?_⟩
     exact qp [0, 1] ⟨rfl, rfl, rfl, trivial⟩
   ·intro hc
    have hi : ¬ i < a.methods.length := by simpa using hc
    have t9 := Z6l hln.2 hi hJ2.2
    refine qX (qS (qR ?_))
    refine qe (Z1 rfl rfl rfl) ?_
    refine qL 0 Z9 ?_
    refine qe (Z1 rfl rfl rfl) ?_
    refine qL 1 Z9 ?_
    refine qe (Z8 [] rfl rfl rfl (Z4a a.classes b.classes (sm6 ha.n1)) List.nodup_nil) ?_
    refine qM ?_
    refine Zv (wT rfl rfl rfl rfl) rfl (fun hg => (Z1 rfl rfl rfl)) ?_
    refine Z00 0 (wT rfl rfl rfl rfl) rfl rfl (fun hg => (Zd hg rfl)) rfl rfl Z9 ?_
    refine Zv (wT rfl rfl rfl rfl) rfl (fun hg => (Z1 rfl rfl rfl)) ?_
    refine Z00 1 (wT rfl rfl rfl rfl) rfl rfl (fun hg => (Zd hg rfl)) rfl rfl Z9 ?_
    refine Zv (wT rfl rfl rfl rfl) rfl (fun hg => (Z8 [] rfl rfl (Ze (Zd hg rfl) (Ze (Zd hg rfl) Z05)) (Z4a a.classNames b.classNames (sm6 ha.n4)) List.nodup_nil)) ?_
    refine qe (Zs rfl rfl rfl (fun h => h)) ?_
    refine qM ?_
    refine Zv (wT rfl rfl rfl rfl) rfl (fun hg => (Z1 rfl rfl rfl)) ?_
    refine Z00 0 (wT rfl rfl rfl rfl) rfl rfl (fun hg => (Zd hg rfl)) rfl rfl Z9 ?_
    refine Zv (wT rfl rfl rfl rfl) rfl (fun hg => (Z1 rfl rfl rfl)) ?_
    refine Z00 1 (wT rfl rfl rfl rfl) rfl rfl (fun hg => (Zd hg rfl)) rfl rfl Z9 ?_
    refine Zv (wT rfl rfl rfl rfl) rfl (fun hg => (Z8 [] rfl rfl (Ze (Zd hg rfl) (Ze (Zd hg rfl) Z05)) (Z4a a.fieldNames b.fieldNames (sm6 ha.n5)) List.nodup_nil)) ?_
    refine qe (Zs rfl rfl rfl (fun h => h)) ?_
    refine qM ?_
    refine Zv (wT rfl rfl rfl rfl) rfl (fun hg => (Z1 rfl rfl rfl)) ?_
    refine Z00 0 (wT rfl rfl rfl rfl) rfl rfl (fun hg => (Zd hg rfl)) rfl rfl Z9 ?_
    refine Zv (wT rfl rfl rfl rfl) rfl (fun hg => (Z1 rfl rfl rfl)) ?_
    refine Z00 1 (wT rfl rfl rfl rfl) rfl rfl (fun hg => (Zd hg rfl)) rfl rfl Z9 ?_
    refine Zv (wT rfl rfl rfl rfl) rfl (fun hg => (Z8 [] rfl rfl (Ze (Zd hg rfl) (Ze (Zd hg rfl) Z05)) (Z4a a.methodNames b.methodNames (sm6 ha.n6)) List.nodup_nil)) ?_
    refine qe (Zs rfl rfl rfl (fun h => h)) ?_
    refine qM ?_
    refine Zv (wT rfl rfl rfl rfl) rfl (fun hg => (Z1 rfl rfl rfl)) ?_
    refine Z00 0 (wT rfl rfl rfl rfl) rfl rfl (fun hg => (Zd hg rfl)) rfl rfl Z9 ?_
    refine Zv (wT rfl rfl rfl rfl) rfl (fun hg => (Z1 rfl rfl rfl)) ?_
    refine Z00 1 (wT rfl rfl rfl rfl) rfl rfl (fun hg => (Zd hg rfl)) rfl rfl Z9 ?_
    refine Zv (wT rfl rfl rfl rfl) rfl (fun hg => (Z8 [] rfl rfl (Ze (Zd hg rfl) (Ze (Zd hg rfl) Z05)) (Z4a a.lookups b.lookups (sm6 ha.n7)) List.nodup_nil)) ?_
    refine qe (Zs rfl rfl rfl (fun h => h)) ?_
    refine qA (qN (qE ?_))
    exact Z0x rfl (Z6 rfl Z4) (gb (Z9r t4 t9))
end Go.Sx
namespace Go.Sx
open Go
theorem Zdk {α : Type} (π : Ga → List α) (h0 : π .nil = []) (h1 : ∀ a b, π (a.app b) = π a ++ π b) : ∀ L : List Ga, π (Ga.sum L) = L.flatMap π
 | [] => h0
 | a :: L => by rw [Ga.sum_cons, h1, Zdk π h0 h1 L]; rfl
theorem Z86 {α β : Type} {π : Ga → List α} (h0 : π .nil = []) (h1 : ∀ a b, π (a.app b) = π a ++ π b) {l : List β} {f : β → Ga} {x : α} : x ∈ π (Ga.sum (l.map f)) ↔ ∃ y, y ∈ l ∧ x ∈ π (f y) := by
 rw [Zdk π h0 h1, List.mem_flatMap]
 simp only [List.mem_map]
 constructor
 ·rintro ⟨g, ⟨y, hy, rfl⟩, hx⟩; exact ⟨y, hy, hx⟩
 ·rintro ⟨y, hy, hx⟩; exact ⟨f y, ⟨y, hy, rfl⟩, hx⟩
theorem Zeh {α : Type} {π : Ga → List α} (h0 : π .nil = []) (h1 : ∀ a b, π (a.app b) = π a ++ π b) {txt : Ty → Str} {p : Prog} {l : List Rule} {x : α} : x ∈ π (gaP txt p l) ↔ ∃ c, c ∈ p.classes ∧ (x ∈ π (gaK l c) ∨ (∃ f, f ∈ c.fields ∧ x ∈ π (gaF txt p l ⟨c.name, f.name⟩)) ∨ ∃ m, m ∈ c.methods ∧ x ∈ π (gaM p l ⟨c.name, m.name, m.desc⟩)) := by
 unfold gaP
 rw [Z86 h0 h1]
 refine exists_congr fun c => and_congr_right fun hc => ?_
 unfold gaC gaFs gaMs
 rw [h1, h1, List.mem_append, List.mem_append, Z86 h0 h1, Z86 h0 h1, or_assoc]
theorem mem_okB {α : Type} {b : Bool} {x y : α} : y ∈ okB b x ↔ b = true ∧ y = x := by
 unfold okB
 cases b <;> simp
section
variable {txt : Ty → Str} {p : Prog} {l : List Rule}
theorem mem_md {x : MRef} : x ∈ (gaP txt p l).md ↔ ∃ c, c ∈ p.classes ∧ ∃ m, m ∈ c.methods ∧ anyR l (mHold p x) = true ∧ x = ⟨c.name, m.name, m.desc⟩ := by
 rw [Zeh (π := Ga.md) rfl (fun _ _ => rfl)]
 refine exists_congr fun c => and_congr_right fun hc => ?_
 constructor
 ·rintro (h | ⟨f, hf, h⟩ | ⟨m, hm, h⟩)
  ·cases h
  ·cases h
  ·obtain ⟨h1, h2⟩ := mem_okB.1 h; exact ⟨m, hm, by rw [h2]; exact h1, h2⟩
 ·rintro ⟨m, hm, h1, h2⟩; exact .inr (.inr ⟨m, hm, mem_okB.2 ⟨by rw [← h2]; exact h1, h2⟩⟩)
end
def smB (n : Nat) : Bool := decide (n ≤ 140737488351232)
def i64B (n : Int) : Bool := decide (-9223372036854775808 ≤ n) && decide (n ≤ 9223372036854775807)
theorem Z19 {n : Nat} (h : smB n = true) : small n := by unfold smB at h; unfold small; exact of_decide_eq_true h
theorem Z3c {n : Int} (h : i64B n = true) : i64 n := by unfold i64B at h; simp only [Bool.and_eq_true, decide_eq_true_eq] at h; exact h
def Instr.okB (i : Instr) : Bool := ((i64B i.op && i64B i.a && i64B i.b && i64B i.c && i64B i.k) && (smB i.cls.size && smB i.name.size && smB i.desc.size)) && (smB i.args.length && i.args.all i64B)
theorem Instr.okB_ok {i : Instr} (h : i.okB = true) : i.ok := by
 unfold Instr.okB at h
 simp only [Bool.and_eq_true, List.all_eq_true] at h
 obtain ⟨⟨⟨⟨⟨⟨h1, h2⟩, h3⟩, h4⟩, h5⟩, ⟨h6, h7⟩, h8⟩, h9, h10⟩ := h
 exact ⟨Z3c h1, Z3c h2, Z3c h3, Z3c h4, Z3c h5, Z19 h6, Z19 h7, Z19 h8, Z19 h9, fun x hx => Z3c (h10 x hx)⟩
def Meth.okB (m : Meth) : Bool := (smB m.name.size && smB m.desc.size && i64B m.regs) && (smB m.code.length && m.code.all Instr.okB)
theorem Meth.okB_ok {m : Meth} (h : m.okB = true) : m.ok := by
 unfold Meth.okB at h
 simp only [Bool.and_eq_true, List.all_eq_true] at h
 obtain ⟨⟨⟨h1, h2⟩, h3⟩, h4, h5⟩ := h
 exact ⟨Z19 h1, Z19 h2, Z3c h3, Z19 h4, fun x hx => Instr.okB_ok (h5 x hx)⟩
def Fld.okB (f : Fld) : Bool := smB f.name.size && (i64B f.type.kind && smB f.type.cls.size)
theorem Fld.okB_ok {f : Fld} (h : f.okB = true) : f.ok := by
 unfold Fld.okB at h
 simp only [Bool.and_eq_true] at h
 exact ⟨Z19 h.1, Z3c h.2.1, Z19 h.2.2⟩
def Cls.okB (c : Cls) : Bool := ((smB c.name.size && smB c.super.size) && (smB c.ifaces.length && c.ifaces.all fun s => smB s.size)) && ((smB c.fields.length && c.fields.all Fld.okB) && (smB c.methods.length && c.methods.all Meth.okB))
theorem Cls.okB_ok {c : Cls} (h : c.okB = true) : c.ok := by
 unfold Cls.okB at h
 simp only [Bool.and_eq_true, List.all_eq_true] at h
 obtain ⟨⟨⟨h1, h2⟩, h3, h4⟩, ⟨h5, h6⟩, h7, h8⟩ := h
 exact ⟨Z19 h1, Z19 h2, ⟨Z19 h3, fun x hx => Z19 (h4 x hx)⟩, ⟨Z19 h5, fun x hx => Fld.okB_ok (h6 x hx)⟩, ⟨Z19 h7, fun x hx => Meth.okB_ok (h8 x hx)⟩⟩
def Prog.okB (p : Prog) : Bool := ((smB p.classes.length && p.classes.all Cls.okB) && (smB p.names.length && p.names.all fun s => smB s.size)) && (smB p.entry.cls.size && smB p.entry.name.size && smB p.entry.desc.size)
theorem Prog.okB_ok {p : Prog} (h : p.okB = true) : p.ok := by
 unfold Prog.okB at h
 simp only [Bool.and_eq_true, List.all_eq_true] at h
 obtain ⟨⟨⟨h1, h2⟩, h3, h4⟩, ⟨h5, h6⟩, h7⟩ := h
 exact ⟨⟨Z19 h1, fun x hx => Cls.okB_ok (h2 x hx)⟩, ⟨Z19 h3, fun x hx => Z19 (h4 x hx)⟩, ⟨Z19 h5, Z19 h6, Z19 h7⟩⟩
theorem Zb7 {txt : Ty → Str} {p : Prog} (hp : p.ok) {l : List Rule} {n : Nat} (h1 : (gaP txt p l).cl.length ≤ n) (h2 : (gaP txt p l).fd.length ≤ n) (h3 : (gaP txt p l).md.length ≤ n) (h4 : (gaP txt p l).cn.length ≤ n) (h5 : (gaP txt p l).fn.length ≤ n) (h6 : (gaP txt p l).mn.length ≤ n) (h7 : (gaP txt p l).lk.length ≤ n) (hn : n ≤ 500000) : (rootsG (gaP txt p l)).ok where
 n1 := Nat.le_trans (Z30 _) (by omega)
 n2 := Nat.le_trans (Z30 _) (by omega)
 n3 := Nat.le_trans (Z30 _) (by omega)
 n4 := Nat.le_trans (Z30 _) (by omega)
 n5 := Nat.le_trans (Z30 _) (by omega)
 n6 := Nat.le_trans (Z30 _) (by omega)
 n7 := Nat.le_trans (Z30 _) (by rw [List.length_append]; omega)
 ms := by
  intro m hm
  obtain ⟨c, hc, x, hx, _, e⟩ := mem_md.1 ((Z4v _ _).1 hm)
  have h8 := hp.classes.2 c hc
  have h9 := h8.methods.2 x hx
  rw [e]; exact ⟨h8.name, h9.name, h9.desc⟩
def someI : Instr := ⟨23, 0, 0, 0, 0, zS, zS, zS, []⟩
def nM1 : Str := ⟨#[109]⟩
def someM : Meth := ⟨nM1, nVoid, false, false, 1, [someI]⟩
def someMI : Meth := ⟨nM1, nVoid, false, true, 0, []⟩
def someA : Cls := ⟨nA, zS, false, false, [nI], [], [someM]⟩
def someB' : Cls := ⟨nB, nA, false, false, [], [], [someM]⟩
def someC : Cls := ⟨nI, zS, true, true, [], [], [someMI]⟩
def someP : Prog := ⟨[someA, someB', someC], [], ⟨zS, zS, zS⟩⟩
theorem Z6k : someP.ok := Prog.okB_ok (by decide +kernel)
def ruA : Rule := ⟨false, false, nA, zS, zS⟩
def ruB : Rule := ⟨true, true, nB, nM1, nVoid⟩
def ruBf : Rule := ⟨false, false, nB, zS, zS⟩
def ro2 : Roots := ⟨[nA, nB], [], [⟨nB, nM1, nVoid⟩], [], [], [nM1 ++ nVoid], [nA, nB]⟩
def ro1 : Roots := ⟨[nA], [], [], [], [], [], [nA]⟩
theorem Zf6 : rootsG (gaP textT someP [ruA, ruB]) = ro2 := by decide +kernel
theorem Zf5 : rootsG (gaP textT someP [ruA]) = ro1 := by decide +kernel
theorem Zf7 {r : Roots} (h1 : r.classes.length ≤ 1000000 ∧ r.fields.length ≤ 1000000 ∧ r.methods.length ≤ 1000000 ∧ r.classNames.length ≤ 1000000 ∧ r.fieldNames.length ≤ 1000000 ∧ r.methodNames.length ≤ 1000000 ∧ r.lookups.length ≤ 1000000) (h : (r.methods.all fun m => smB m.cls.size && smB m.name.size && smB m.desc.size) = true) : r.ok :=
 ⟨h1.1, h1.2.1, h1.2.2.1, h1.2.2.2.1, h1.2.2.2.2.1, h1.2.2.2.2.2.1, h1.2.2.2.2.2.2, fun m hm => by
  have := List.all_eq_true.1 h m hm
  simp only [Bool.and_eq_true] at this
  exact ⟨Z19 this.1.1, Z19 this.1.2, Z19 this.2⟩⟩
theorem Z7c : ro2.ok := Zf7 (by decide) (by decide +kernel)
theorem Zdh : ro1.ok := Zf7 (by decide) (by decide +kernel)
def ex2 : List Rule := [ruA, ruBf, ruB]
theorem Zex : exactR someP ro2 = ex2 := by decide +kernel
end Go.Sx
namespace Go.Sx
open Go Go.Proofs
theorem Zci  : ACalls Tryz.prog 23 [] [] (Gives someP.av) := by
 refine Zc (n := 17) Tryz.func23 rfl (by decide +kernel) rfl rfl ?_
 refine qS (qR ?_)
 refine Z02 (w0 rfl) rfl (fun id => Z0e id rfl rfl rfl) (fun id1 => ?_)
 refine qN (qS (qR ?_))
 refine qe (Z2x (y := .agg someI.cells) (Z0r rfl rfl rfl) (.agg (by repeat' (first | exact .nil | refine .keep ?_ | refine .z ?_)))) ?_
 refine qe (Z1w (es := ([someI] : List Instr).map Instr.cells) (fun id => Zw id (ps := [(0, .tmp 2)]) rfl rfl rfl rfl rfl rfl rfl rfl) rfl) ?_
 refine qe (Z2x (y := .agg someM.cells) (Z0r rfl rfl rfl) (.agg (by repeat' (first | exact .nil | refine .keep ?_ | refine .z ?_)))) ?_
 refine Z02 (w0 rfl) rfl (fun id => Z0e id rfl rfl rfl) (fun id2 => ?_)
 refine Z06 0 (w0 rfl) rfl rfl rfl rfl rfl rfl rfl rfl rfl ?_
 refine qN (qS (qR ?_))
 refine qe (Z1w (es := ([nI] : List Str).map fun x => [sA x]) (fun id => Zw id (ps := [(0, .const (Value.string ⟨#[73]⟩))]) rfl rfl rfl rfl rfl rfl rfl rfl) rfl) ?_
 refine qL 0 (Z01 (Nat.le_of_ble_eq_true rfl)) ?_
 refine qe (Z1w (es := ([someM] : List Meth).map Meth.cells) (fun id => Zw id (ps := [(0, .tmp 6)]) rfl rfl rfl rfl rfl rfl rfl rfl) rfl) ?_
 refine qe (Z2x (y := someA.av) (Z0r rfl rfl rfl) (.agg (by repeat' (first | exact .nil | refine .keep ?_ | refine .z ?_)))) ?_
 refine qL 0 (Z01 (Nat.le_of_ble_eq_true rfl)) ?_
 refine qe (Z1w (es := ([someM] : List Meth).map Meth.cells) (fun id => Zw id (ps := [(0, .tmp 9)]) rfl rfl rfl rfl rfl rfl rfl rfl) rfl) ?_
 refine qe (Z2x (y := someB'.av) (Z0r rfl rfl rfl) (.agg (by repeat' (first | exact .nil | refine .keep ?_ | refine .z ?_)))) ?_
 refine qe (Z2x (y := .agg someMI.cells) (Z0r rfl rfl rfl) (.agg (by repeat' (first | exact .nil | refine .keep ?_ | refine .z ?_)))) ?_
 refine qe (Z1w (es := ([someMI] : List Meth).map Meth.cells) (fun id => Zw id (ps := [(0, .tmp 12)]) rfl rfl rfl rfl rfl rfl rfl rfl) rfl) ?_
 refine qe (Z2x (y := someC.av) (Z0r rfl rfl rfl) (.agg (by repeat' (first | exact .nil | refine .keep ?_ | refine .z ?_)))) ?_
 refine qe (Z1w (es := ([someA, someB', someC] : List Cls).map Cls.cells) (fun id => Zw id (ps := [(0, .tmp 8), (1, .tmp 11), (2, .tmp 14)]) rfl rfl rfl rfl rfl rfl rfl rfl) rfl) ?_
 refine qe (Z2x (y := someP.av) (Z0r rfl rfl rfl) (.agg (by repeat' (first | exact .nil | refine .keep ?_ | refine .z ?_)))) ?_
 refine Z06 1 (w0 rfl) rfl rfl rfl rfl rfl rfl rfl rfl rfl ?_
 refine qN (qE ?_)
 exact Z0x rfl (Z1t 1 rfl rfl rfl (Z01 (Nat.le_of_ble_eq_true rfl)) Z4) (gvr rfl)
theorem Z5u (p : Prog) (hp : p.ok) (hgr : greatP p = false) (l : List Rule) (hl : small l.length) (hr : ∀ r, r ∈ l → r.ok) {r : Roots} (h : rootsG (gaP textT p l) = r) : ACalls Tryz.prog 18 [p.av, .lst (l.map Rule.cells)] [] (Gives r.av) := h ▸ Z3y p hp hgr l hl hr
theorem Zc4 (p : Prog) (hp : p.ok) (r : Roots) (hr : r.ok) {l : List Rule} (h : exactR p r = l) : ACalls Tryz.prog 12 [p.av, r.av] [] (Gives (.lst (l.map Rule.cells))) := h ▸ Za4 p hp r hr
theorem Z6w (a b : Roots) (ha : a.ok) (hb : b.ok) {r : Bool} (h : withinR a b = r) : ACalls Tryz.prog 16 [a.av, b.av] [] (Gives (bA r)) := h ▸ Zam a b ha hb
theorem Zah (a b : Roots) (ha : a.ok) (hb : b.ok) {r : Bool} (h : decide (a = b) = r) : ACalls Tryz.prog 14 [a.av, b.av] [] (Gives (bA r)) := h ▸ Zch a b ha hb
theorem Z65 (a b : List Str) (ha : small a.length) {r : Bool} (h : sameT a b = r) : ACalls Tryz.prog 24 [row1 sA a, row1 sA b] [] (Gives (bA r)) := h ▸ Z4a a b ha
theorem Zdi : ∀ r, r ∈ [ruA, ruB] → r.ok := by
 intro r hr
 simp only [List.mem_cons, List.not_mem_nil, or_false] at hr
 rcases hr with rfl | rfl
 ·exact ⟨Z19 (by decide +kernel), Z19 (by decide +kernel), Z19 (by decide +kernel)⟩
 ·exact ⟨Z19 (by decide +kernel), Z19 (by decide +kernel), Z19 (by decide +kernel)⟩
theorem Z5j : greatP someP = false := by decide +kernel
theorem Z8p  : ACalls Tryz.prog 8 [] [] (Gives (bA true)) := by
 refine Zc (n := 73) Tryz.func8 rfl (by decide +kernel) rfl rfl ?_
 refine qS (qR (qA (qN (qS (qR ?_)))))
 refine qe (Z8 [] rfl rfl rfl Zci List.nodup_nil) ?_
 refine Z02 (w0 rfl) rfl (fun id => Z0e id rfl rfl rfl) (fun id1 => ?_)
 refine Z06 0 (w0 rfl) rfl rfl rfl rfl rfl rfl rfl rfl rfl ?_
 refine qN (qS (qR ?_))
 refine qL 0 (Z01 (Nat.le_of_ble_eq_true rfl)) ?_
 refine qe (Zn (y := ruA.av) (Z0r rfl rfl rfl) (rfl)) ?_
 refine qe (Zn (y := ruB.av) (Z0r rfl rfl rfl) (rfl)) ?_
 refine qe (Z1w (es := ([ruA, ruB] : List Rule).map Rule.cells) (fun id => Zw id (ps := [(0, .tmp 6), (1, .tmp 7)]) rfl rfl rfl rfl rfl rfl rfl rfl) rfl) ?_
 refine qe (Z8 [] rfl rfl rfl (Z5u someP Z6k Z5j [ruA, ruB] (by unfold small; decide) Zdi (r := ro2) Zf6) List.nodup_nil) ?_
 refine Z02 (w0 rfl) rfl (fun id => Z0e id rfl rfl rfl) (fun id2 => ?_)
 refine Z06 0 (w0 rfl) rfl rfl rfl rfl rfl rfl rfl rfl rfl ?_
 refine qN (qS (qR ?_))
 refine qL 1 (Z01 (Nat.le_of_ble_eq_true rfl)) ?_
 refine qe (Zn (y := ruA.av) (Z0r rfl rfl rfl) (rfl)) ?_
 refine qe (Z1w (es := ([ruA] : List Rule).map Rule.cells) (fun id => Zw id (ps := [(0, .tmp 11)]) rfl rfl rfl rfl rfl rfl rfl rfl) rfl) ?_
 refine qe (Z8 [] rfl rfl rfl (Z5u someP Z6k Z5j [ruA] (by unfold small; decide) (fun r hr => Zdi r (by rw [List.mem_singleton.1 hr]; exact List.mem_cons_self)) (r := ro1) Zf5) List.nodup_nil) ?_
 refine Z02 (w0 rfl) rfl (fun id => Z0e id rfl rfl rfl) (fun id3 => ?_)
 refine Z06 0 (w0 rfl) rfl rfl rfl rfl rfl rfl rfl rfl rfl ?_
 refine qN (qS (qR ?_))
 refine qe (Z1 rfl rfl rfl) ?_
 refine qL 1 Z9 ?_
 refine qe (Z1w (es := ([nA, nB] : List Str).map fun x => [sA x]) (fun id => Zw id (ps := [(0, .const (Value.string ⟨#[65]⟩)), (1, .const (Value.string ⟨#[66]⟩))]) rfl rfl rfl rfl rfl rfl rfl rfl) rfl) ?_
 refine qe (Z8 [] rfl rfl rfl (Z65 [nA, nB] [nA, nB] (by unfold small; decide) (r := true) (by decide +kernel)) List.nodup_nil) ?_
 refine qM ?_
 refine Z1a (wT (d := true) rfl rfl rfl rfl) rfl (Z1 rfl rfl rfl) ?_
 refine Z0j 1 (wT (d := true) rfl rfl rfl rfl) rfl rfl rfl rfl rfl Z9 ?_
 refine Z1a (wT (d := true) rfl rfl rfl rfl) rfl (Zx rfl rfl rfl rfl) ?_
 refine Z1a (wT (d := true) rfl rfl rfl rfl) rfl (Zn (y := bA true) (eI) (congrArg bA (by decide +kernel))) ?_
 refine qe (Zn (y := bA true) (Z1s (t := true) rfl rfl rfl rfl) rfl) ?_
 refine qM ?_
 refine Z1a (wT (d := true) rfl rfl rfl rfl) rfl (Z1 rfl rfl rfl) ?_
 refine Z0j 1 (wT (d := true) rfl rfl rfl rfl) rfl rfl rfl rfl rfl Z9 ?_
 refine Z1a (wT (d := true) rfl rfl rfl rfl) rfl (Zh rfl rfl rfl (Z09 (fun _ => rfl)) (by decide) (by decide)) ?_
 refine Z1a (wT (d := true) rfl rfl rfl rfl) rfl (Z1 rfl rfl rfl) ?_
 refine Z1a (wT (d := true) rfl rfl rfl rfl) rfl (Z03 rfl rfl (Z0h (by decide)) Z9) ?_
 refine Z1a (wT (d := true) rfl rfl rfl rfl) rfl (Zn (y := bA true) (Z1j rfl rfl rfl rfl) (congrArg bA (by decide +kernel))) ?_
 refine qe (Zn (y := bA true) (Z1s (t := true) rfl rfl rfl rfl) rfl) ?_
 refine qM ?_
 refine Z1a (wT (d := true) rfl rfl rfl rfl) rfl (Z1 rfl rfl rfl) ?_
 refine Z0j 1 (wT (d := true) rfl rfl rfl rfl) rfl rfl rfl rfl rfl Z9 ?_
 refine Z1a (wT (d := true) rfl rfl rfl rfl) rfl (Z1w (es := ([nM1 ++ nVoid] : List Str).map fun x => [sA x]) (fun id => Zw id (ps := [(0, .const (Value.string ⟨#[109, 40, 41, 86]⟩))]) rfl rfl rfl rfl rfl rfl rfl rfl) rfl) ?_
 refine Z1a (wT (d := true) rfl rfl rfl rfl) rfl (Z8 [] rfl rfl rfl (Z65 [nM1 ++ nVoid] [nM1 ++ nVoid] (by unfold small; decide) (r := true) (by decide +kernel)) List.nodup_nil) ?_
 refine qe (Zn (y := bA true) (Z1s (t := true) rfl rfl rfl rfl) rfl) ?_
 refine qM ?_
 refine Z1a (wT (d := true) rfl rfl rfl rfl) rfl (Z1 rfl rfl rfl) ?_
 refine Z0j 1 (wT (d := true) rfl rfl rfl rfl) rfl rfl rfl rfl rfl Z9 ?_
 refine Z1a (wT (d := true) rfl rfl rfl rfl) rfl (Zx rfl rfl rfl rfl) ?_
 refine Z1a (wT (d := true) rfl rfl rfl rfl) rfl (Zn (y := bA true) (eI) (congrArg bA (by decide +kernel))) ?_
 refine qe (Zn (y := bA true) (Z1s (t := true) rfl rfl rfl rfl) rfl) ?_
 refine qM ?_
 refine Z1a (wT (d := true) rfl rfl rfl rfl) rfl (Z1 rfl rfl rfl) ?_
 refine Z0j 1 (wT (d := true) rfl rfl rfl rfl) rfl rfl rfl rfl rfl Z9 ?_
 refine Z1a (wT (d := true) rfl rfl rfl rfl) rfl (Z1w (es := ([nA, nB] : List Str).map fun x => [sA x]) (fun id => Zw id (ps := [(0, .const (Value.string ⟨#[65]⟩)), (1, .const (Value.string ⟨#[66]⟩))]) rfl rfl rfl rfl rfl rfl rfl rfl) rfl) ?_
 refine Z1a (wT (d := true) rfl rfl rfl rfl) rfl (Z8 [] rfl rfl rfl (Z65 [nA, nB] [nA, nB] (by unfold small; decide) (r := true) (by decide +kernel)) List.nodup_nil) ?_
 refine qe (Zn (y := bA true) (Z1s (t := true) rfl rfl rfl rfl) rfl) ?_
 refine qM ?_
 refine Z0j 0 (wT (d := true) rfl rfl rfl rfl) rfl rfl rfl rfl rfl (Z01 (Nat.le_of_ble_eq_true rfl)) ?_
 refine Z0j 1 (wT (d := true) rfl rfl rfl rfl) rfl rfl rfl rfl rfl (Z01 (Nat.le_of_ble_eq_true rfl)) ?_
 refine Z1a (wT (d := true) rfl rfl rfl rfl) rfl (Z8 [] rfl rfl rfl (Z6w ro1 ro2 Zdh Z7c (r := true) (by decide +kernel)) List.nodup_nil) ?_
 refine qe (Zn (y := bA true) (Z1s (t := true) rfl rfl rfl rfl) rfl) ?_
 refine qM ?_
 refine Z0j 1 (wT (d := true) rfl rfl rfl rfl) rfl rfl rfl rfl rfl (Z01 (Nat.le_of_ble_eq_true rfl)) ?_
 refine Z0j 0 (wT (d := true) rfl rfl rfl rfl) rfl rfl rfl rfl rfl (Z01 (Nat.le_of_ble_eq_true rfl)) ?_
 refine Z1a (wT (d := true) rfl rfl rfl rfl) rfl (Z8 [] rfl rfl rfl (Z6w ro2 ro1 Z7c Zdh (r := false) (by decide +kernel)) List.nodup_nil) ?_
 refine Z1a (wT (d := true) rfl rfl rfl rfl) rfl (Zn (y := bA true) (Z04 rfl rfl) (congrArg bA (by decide +kernel))) ?_
 refine qe (Zn (y := bA true) (Z1s (t := true) rfl rfl rfl rfl) rfl) ?_
 refine qM ?_
 refine Z0j 1 (wT (d := true) rfl rfl rfl rfl) rfl rfl rfl rfl rfl (Z01 (Nat.le_of_ble_eq_true rfl)) ?_
 refine Z0j 1 (wT (d := true) rfl rfl rfl rfl) rfl rfl rfl rfl rfl (Z01 (Nat.le_of_ble_eq_true rfl)) ?_
 refine Z1a (wT (d := true) rfl rfl rfl rfl) rfl (Z8 [] rfl rfl rfl (Zah ro2 ro2 Z7c Z7c (r := true) (by decide +kernel)) List.nodup_nil) ?_
 refine qe (Zn (y := bA true) (Z1s (t := true) rfl rfl rfl rfl) rfl) ?_
 refine qM ?_
 refine Z0j 2 (wT (d := true) rfl rfl rfl rfl) rfl rfl rfl rfl rfl (Z01 (Nat.le_of_ble_eq_true rfl)) ?_
 refine Z0j 1 (wT (d := true) rfl rfl rfl rfl) rfl rfl rfl rfl rfl (Z01 (Nat.le_of_ble_eq_true rfl)) ?_
 refine Z1a (wT (d := true) rfl rfl rfl rfl) rfl (Z8 [] rfl rfl rfl (Zc4 someP Z6k ro2 Z7c (l := ex2) Zex) List.nodup_nil) ?_
 refine Z1a (wT (d := true) rfl rfl rfl rfl) rfl (Zx rfl rfl rfl rfl) ?_
 refine Z1a (wT (d := true) rfl rfl rfl rfl) rfl (Zn (y := bA true) (eI) (congrArg bA (by decide +kernel))) ?_
 refine qe (Zn (y := bA true) (Z1s (t := true) rfl rfl rfl rfl) rfl) ?_
 refine qA (qN (qE ?_))
 exact Z0x rfl (Z6 rfl Z4) (gb rfl)
theorem Za5 (l : List Rule) (hl : small l.length) : ACalls Tryz.prog 10 [.lst (l.map Rule.cells)] [] (Gives (.lst ((fewR l).map Rule.cells))) := by
 simp only [small] at hl
 refine Zc (n := 41) Tryz.func10 rfl (by decide +kernel) rfl rfl ?_
 refine qS (qR (qA (qN (qS (qR ?_)))))
 refine Z02 (w0 rfl) rfl (fun id => Z2j id 63 5 (.inl rfl) rfl) (fun id1 => ?_)
 refine qN (qS (qS (qR (qA (qN (qB ?_))))))
 refine Zk (α := Nat × Nat) (fun x => ⟨[(4, iA x.2), (0, .lst (l.map Rule.cells)), (3, .own x.1 5 0 ((l.take x.2).filter fewB).length)], [(x.1, .rows 63 5 (((l.take x.2).filter fewB).map Rule.cells))], [], 41⟩) (fun x => x.2 ≤ 12 ∧ x.2 ≤ l.length) (fun x => l.length - x.2) (id1, 0) ⟨Nat.zero_le _, Nat.zero_le _⟩ ?_ ?_
 ·exact Zg [0] ⟨rfl, rfl, rfl, trivial⟩ rfl (by decide) rfl rfl
 rintro x hJ
 have hfl : ((l.take x.2).filter fewB).length ≤ 12 := Nat.le_trans (List.length_filter_le _ _) (by rw [List.length_take]; omega)
 refine qS (qS (qR (qM (qM ?_))))
 refine qe (Zx rfl rfl rfl rfl) ?_
 refine qe eI ?_
 refine qM (qTM ?_)
 refine Zv (wT rfl rfl rfl rfl) rfl (fun hg => (Zr rfl (Zd hg rfl) rfl rfl)) ?_
 refine qe (Zs rfl rfl rfl (fun h => h)) ?_
 refine qN ?_
 refine Z2 rfl ?_ ?_
 ·intro hc
  have hx : x.2 < l.length ∧ x.2 < 12 := ⟨by have := Z23 hc; simpa using this, by have := Z24 hc; simp at this; omega⟩
  have hi := hx.1
  refine qK (qS (qB (qS (qR (qM (qM ?_))))))
  refine qe (Zh rfl rfl rfl (Z09 (fun _ => rfl)) (by first | omega | (simp only [List.length_map]; omega) | (simp only [List.length_map, List.length_drop]; omega)) (by first | omega | (simp only [List.length_map]; omega) | (simp only [List.length_map, List.length_drop]; omega))) ?_
  refine qe (Z03 rfl rfl (Z0h (by first | assumption | omega | (simp only [List.length_drop]; omega))) (Z01 (Nat.le_of_ble_eq_true rfl))) ?_
  refine Z02 (w0 rfl) rfl (fun id => Z0e id rfl rfl rfl) (fun id2 => ?_)
  refine Z06 0 (w0 rfl) rfl rfl rfl rfl rfl rfl rfl rfl rfl ?_
  refine qN (qS (qR ?_))
  refine qe (Z1 rfl rfl rfl) ?_
  refine qL 0 Z9 ?_
  refine qe (Zx rfl rfl rfl rfl) ?_
  refine qe eI ?_
  refine qM ?_
  refine Zv (wT rfl rfl rfl rfl) rfl (fun hg => (Z1 rfl rfl rfl)) ?_
  refine Z00 0 (wT rfl rfl rfl rfl) rfl rfl (fun hg => (Zd hg rfl)) rfl rfl Z9 ?_
  refine Zv (wT rfl rfl rfl rfl) rfl (fun hg => (Zx rfl (Zd hg rfl) rfl rfl)) ?_
  refine Zv (wT rfl rfl rfl rfl) rfl (fun hg => (Zr rfl (Zd hg rfl) rfl rfl)) ?_
  refine qe (Zs rfl rfl rfl (fun h => h)) ?_
  refine qM ?_
  refine Zv (wT rfl rfl rfl rfl) rfl (fun hg => (Z1 rfl rfl rfl)) ?_
  refine Z00 0 (wT rfl rfl rfl rfl) rfl rfl (fun hg => (Zd hg rfl)) rfl rfl Z9 ?_
  refine Zv (wT rfl rfl rfl rfl) rfl (fun hg => (Zx rfl (Zd hg rfl) rfl rfl)) ?_
  refine Zv (wT rfl rfl rfl rfl) rfl (fun hg => (Zr rfl (Zd hg rfl) rfl rfl)) ?_
  refine qe (Zs rfl rfl rfl (fun h => h)) ?_
  refine qN ?_
  refine Z2 rfl ?_ ?_
  ·intro hc
   have hq : fewB l[x.2] = true := hc
   have ex : (l.take (x.2 + 1)).filter fewB = (l.take x.2).filter fewB ++ [l[x.2]] := by rw [Z12 hi, List.filter_append]; simp [hq]
   refine qR (qM ?_)
   refine qL 0 (Z01 (Nat.le_of_ble_eq_true rfl)) ?_
   refine Z02 (w0 rfl) rfl (fun id => Zw id (ps := [(0, .tmp 37)]) rfl rfl rfl rfl rfl rfl rfl rfl) (fun id3 => ?_)
   refine Z1c 2 (w0 rfl) rfl rfl rfl rfl (by simp) rfl ⟨rfl, _, _, List.mem_of_getElem? (i := 0) rfl, by simp, rfl⟩ (by first | omega | (simp; omega) | (simp [maxLen]; omega) | (simp; done) | (simp [maxLen]; done)) (by first | omega | (simp; omega) | (simp [maxLen]; omega) | (simp; done) | (simp [maxLen]; done)) (fun id4 => ?_)
   refine qA (qN (qR (qM ?_)))
   refine qe (Zb rfl rfl rfl (Zp (by first | omega | (simp only [List.length_map]; omega)))) ?_
   refine qA (qN ?_)
   refine ⟨(id4, x.2 + 1), ⟨by show x.2 + 1 ≤ 12; omega, by show x.2 + 1 ≤ l.length; omega⟩, (by show l.length - (x.2 + 1) < l.length - x.2; omega), ?_⟩
   exact Zg [2] ⟨rfl, rfl, (by show some (AV.own _ _ _ _) = some (AV.own _ _ _ _); rw [ex]; simp), trivial⟩ (by show some [(_, AObj.rows _ _ _)] = some [(_, AObj.rows _ _ _)]; rw [ex]; simp [cellsA]; rfl) (by decide) rfl rfl
  ·intro hc
   have hq : fewB l[x.2] = false := hc
   have ex : (l.take (x.2 + 1)).filter fewB = (l.take x.2).filter fewB := by rw [Z12 hi, List.filter_append]; simp [hq]
   refine qK (qR (qM ?_))
   refine qe (Zb rfl rfl rfl (Zp (by first | omega | (simp only [List.length_map]; omega)))) ?_
   refine qA (qN ?_)
   refine ⟨(x.1, x.2 + 1), ⟨by show x.2 + 1 ≤ 12; omega, by show x.2 + 1 ≤ l.length; omega⟩, (by show l.length - (x.2 + 1) < l.length - x.2; omega), ?_⟩
   exact Zg [1] ⟨rfl, rfl, (by show some (AV.own _ _ _ _) = some (AV.own _ _ _ _); rw [ex]), trivial⟩ (by show some [(_, AObj.rows _ _ _)] = some [(_, AObj.rows _ _ _)]; rw [ex]) (by decide) rfl rfl
 ·intro hc
  have hx : ¬ (x.2 < l.length ∧ x.2 < 12) := fun h => by have h1 : (x.2 : Int) < 12 := (by omega); simp [h.1, h1] at hc
  have et : (l.take x.2).filter fewB = fewR l := by unfold fewR; rcases Nat.lt_or_ge x.2 l.length with h | h; rw [show x.2 = 12 by omega]; rw [List.take_of_length_le h, List.take_of_length_le (by omega)]
  refine qX (qS (qR (qM (qA (qN (qE ?_))))))
  exact Z6j 0 rfl rfl rfl rfl (by simp) (by rw [et])
theorem Z3o {p : Prog} (hp : p.ok) (hgr : greatP p = false) (l : List Rule) : (rootsG (gaP textT p l)).ok := by
 have h := Z84 l hgr p.classes.length
 rw [Z69 p l (Nat.lt_irrefl _)] at h
 exact Zb7 hp h.cl h.fd h.md h.cn h.fn h.mn h.lk (by omega)
theorem Zcu (p : Prog) (l m : List Rule) : ((true && withinR (rootsG (gaP textT p l)) (rootsG (gaP textT p (l ++ m)))) && decide (rootsG (gaP textT p (l ++ m)) = rootsG (gaP textT p (m ++ l)))) = true := by
 rw [Zbg (Zez textT p fun r hr => List.mem_append_left _ hr), Zee textT p l m]; simp
theorem c_rootsMore (p : Prog) (hp : p.ok) (l m : List Rule) (hl : small l.length) (hm : small m.length) : ACalls Tryz.prog 4 [p.av, .lst (l.map Rule.cells), .lst (m.map Rule.cells)] [] (Gives (bA true)) := by
 have hfl := Z2y l
 have hfm := Z2y m
 refine Zc (n := 47) Tryz.func4 rfl (by decide +kernel) rfl rfl ?_
 refine qS (qR ?_)
 refine Z02 (w0 rfl) rfl (fun id => Z0b id rfl rfl rfl rfl rfl) (fun id1 => ?_)
 refine qA (qN (qS (qS (qR ?_))))
 refine qL 0 (Z01 (Nat.le_of_ble_eq_true rfl)) ?_
 refine qe (Z8 [] rfl rfl rfl (Zdq p hp) List.nodup_nil) ?_
 refine qN ?_
 refine Z2 rfl ?_ ?_
 ·intro hc
  refine qS (qR ?_)
  refine qe (Z8 [] rfl rfl rfl Z8p List.nodup_nil) ?_
  refine qA (qN (qE ?_))
  exact Z0x rfl (Z6 rfl Z4) (gb rfl)
 ·intro hc
  have hgr : greatP p = false := hc
  refine qK (qS (qR (qM ?_)))
  refine qe (Z8 [] rfl rfl rfl (Za5 l hl) List.nodup_nil) ?_
  refine qM ?_
  refine qe (Z8 [] rfl rfl rfl (Za5 m hm) List.nodup_nil) ?_
  refine qA (qA (qN (qS (qR ?_))))
  refine Z02 (w0 rfl) rfl (fun id => Z2j id 63 5 (.inl rfl) rfl) (fun id2 => ?_)
  refine Z02 (w0 rfl) rfl (fun id => Z2j id 63 5 (.inl rfl) rfl) (fun id3 => ?_)
  refine qN (qS (qR (qM (qM ?_))))
  refine Z1c 1 (w0 rfl) rfl rfl rfl rfl rfl rfl ⟨rfl, Z09 (fun _ => rfl)⟩ (by first | omega | (simp; omega) | (simp [maxLen]; omega) | (simp; done) | (simp [maxLen]; done)) (by first | omega | (simp; omega) | (simp [maxLen]; omega) | (simp; done) | (simp [maxLen]; done)) (fun id4 => ?_)
  refine qA (qN (qS (qR (qM (qM ?_)))))
  refine Z1c 1 (w0 rfl) rfl rfl rfl rfl (by simp) rfl ⟨rfl, Z09 (fun _ => rfl)⟩ (by first | omega | (simp; omega) | (simp [maxLen]; omega) | (simp; done) | (simp [maxLen]; done)) (by first | omega | (simp; omega) | (simp [maxLen]; omega) | (simp; done) | (simp [maxLen]; done)) (fun id5 => ?_)
  refine qA (qN (qS (qR (qM (qM ?_)))))
  refine Z1c 0 (w0 rfl) rfl rfl rfl rfl rfl rfl ⟨rfl, Z09 (fun _ => rfl)⟩ (by first | omega | (simp; omega) | (simp [maxLen]; omega) | (simp; done) | (simp [maxLen]; done)) (by first | omega | (simp; omega) | (simp [maxLen]; omega) | (simp; done) | (simp [maxLen]; done)) (fun id6 => ?_)
  refine qA (qN (qS (qR (qM (qM ?_)))))
  refine Z1c 0 (w0 rfl) rfl rfl rfl rfl (by simp) rfl ⟨rfl, Z09 (fun _ => rfl)⟩ (by first | omega | (simp; omega) | (simp [maxLen]; omega) | (simp; done) | (simp [maxLen]; done)) (by first | omega | (simp; omega) | (simp [maxLen]; omega) | (simp; done) | (simp [maxLen]; done)) (fun id7 => ?_)
  refine qA (qN (qS ?_))
  refine Z18 (Z6o 1 7 (T' := [(8, .own id7 5 0 _), (3, .ptr id1 5 0 0), (1, .lst ((fewR l).map Rule.cells)), (2, .lst ((fewR m).map Rule.cells))]) rfl rfl (by simp) ⟨rfl, rfl, rfl, rfl, trivial⟩) ?_
  refine Z18 (Z6o 0 8 (T' := [(7, .lst _), (3, .ptr id1 5 0 0), (1, .lst ((fewR l).map Rule.cells)), (2, .lst ((fewR m).map Rule.cells))]) rfl rfl (by simp) ⟨rfl, rfl, rfl, rfl, trivial⟩) ?_
  refine Z18 (s' := ⟨[(7, .lst ((fewR l ++ fewR m).map Rule.cells)), (8, .lst ((fewR m ++ fewR l).map Rule.cells)), (3, .ptr id1 5 0 0), (1, .lst ((fewR l).map Rule.cells)), (2, .lst ((fewR m).map Rule.cells))], [(id1, .rows 27 5 [p.cells])], [], 47⟩) (Zg [0] ⟨congrArg some (by simp), congrArg some (by simp), rfl, rfl, rfl, trivial⟩ rfl (by decide) rfl rfl) ?_
  refine qR ?_
  refine qL 0 (Z01 (Nat.le_of_ble_eq_true rfl)) ?_
  refine qM ?_
  refine qe (Z8 [] rfl rfl rfl (Z3y p hp hgr (fewR l ++ fewR m) (by have := Z2y l; have := Z2y m; unfold small; rw [List.length_append]; omega) (fun r hr => by rcases List.mem_append.1 hr with h | h; exact Z5c r h; exact Z5c r h)) List.nodup_nil) ?_
  refine Z02 (w0 rfl) rfl (fun id => Z0e id rfl rfl rfl) (fun id8 => ?_)
  refine Z06 0 (w0 rfl) rfl rfl rfl rfl rfl rfl rfl rfl rfl ?_
  refine qN (qS ?_)
  refine Zq [0, 1, 3, 3, 15, 3, 63, 127, 255, 511, 511, 511, 3583, 8191, 16383, 32767] 16 rfl (by kernel_rfl) ?_
  refine ce (Z8 [] rfl rfl rfl Z8p List.nodup_nil) ?_
  refine cM2 ?_
  refine Z15 1 (wT rfl rfl rfl rfl) rfl rfl (fun hg => rfl) rfl rfl (Z01 (Nat.le_of_ble_eq_true rfl)) ?_
  refine cTM ?_
  refine Z7 (wT rfl rfl rfl rfl) rfl (fun hg => (Z8 [] rfl rfl (Ze (Zd hg rfl) (Ze (Zd hg rfl) Z05)) (Z3y p hp hgr (fewR l) (by have := Z2y l; unfold small; omega) (fun r hr => Z5c r hr)) List.nodup_nil)) ?_
  refine Z15 0 (wT rfl rfl rfl rfl) rfl rfl (fun hg => rfl) rfl rfl (Z01 (Nat.le_of_ble_eq_true rfl)) ?_
  refine Z7 (wT rfl rfl rfl rfl) rfl (fun hg => (Z8 [] rfl rfl (Ze (Zd hg rfl) (Ze (Zd hg rfl) Z05)) (Z9j (rootsG (gaP textT p (fewR l))) (rootsG (gaP textT p (fewR l ++ fewR m))) (Z3o hp hgr _) (Z3o hp hgr _)) List.nodup_nil)) ?_
  refine ce (Zs rfl rfl rfl (fun h => h)) ?_
  refine cM2 ?_
  refine Z15 0 (wT rfl rfl rfl rfl) rfl rfl (fun hg => rfl) rfl rfl (Z01 (Nat.le_of_ble_eq_true rfl)) ?_
  refine Z15 1 (wT rfl rfl rfl rfl) rfl rfl (fun hg => rfl) rfl rfl (Z01 (Nat.le_of_ble_eq_true rfl)) ?_
  refine cTM ?_
  refine Z7 (wT rfl rfl rfl rfl) rfl (fun hg => (Z8 [] rfl rfl (Ze (Zd hg rfl) (Ze (Zd hg rfl) Z05)) (Z3y p hp hgr (fewR m ++ fewR l) (by have := Z2y l; have := Z2y m; unfold small; rw [List.length_append]; omega) (fun r hr => by rcases List.mem_append.1 hr with h | h; exact Z5c r h; exact Z5c r h)) List.nodup_nil)) ?_
  refine Z7 (wT rfl rfl rfl rfl) rfl (fun hg => (Z8 [] rfl rfl (Ze (Zd hg rfl) (Ze (Zd hg rfl) Z05)) (Zcg (rootsG (gaP textT p (fewR l ++ fewR m))) (rootsG (gaP textT p (fewR m ++ fewR l))) (Z3o hp hgr _) (Z3o hp hgr _)) List.nodup_nil)) ?_
  refine ce (Zs rfl rfl rfl (fun h => h)) ?_
  refine ce (Z0z rfl rfl) ?_
  refine .done (qN (qE ?_))
  exact Z0x rfl (Z6 rfl Z4) (gb (Zcu p (fewR l) (fewR m)))
end Go.Sx
