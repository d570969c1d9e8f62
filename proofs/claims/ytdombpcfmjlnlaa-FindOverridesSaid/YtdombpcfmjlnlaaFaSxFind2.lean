/- Layer 12's laws in plain words. -/
import Derived.Test.YtdombpcfmjlnlaaFaSxFind
set_option linter.unusedSimpArgs false
set_option linter.unusedVariables false
namespace Go.Sx
open Go

theorem supF_anc {p : Prog} {a : Str} : ∀ (n : Nat) (nm : Str) (out : List Str), (∀ x, x ∈ out → Anc p a x) → (∀ c, clsFind p nm = some c → Anc p a nm) → ∀ x, x ∈ supF p n nm out → Anc p a x
  | 0, _, out, h, _, x, hx => h x (by simpa [supF] using hx)
  | n + 1, nm, out, h, hn, x, hx => by
    unfold supF at hx
    cases hc : clsFind p nm with
    | none => rw [hc] at hx; exact h x hx
    | some c =>
      rw [hc] at hx
      simp only at hx
      have hnm := (clsFind_name hc).1
      have hout : ∀ y, y ∈ out ++ [c.name] → Anc p a y := by
        intro y hy
        rcases List.mem_append.1 hy with hy | hy
        · exact h y hy
        · rw [List.mem_singleton.1 hy, hnm]; exact hn c hc
      split at hx
      · exact h x hx
      · split at hx
        · exact hout x hx
        · rename_i hsup
          refine supF_anc n c.super _ hout (fun d hd => ?_) x hx
          exact (hn c hc).step hc (mem_upC.2 (.inl ⟨rfl, beqS_no.1 (by simpa using hsup)⟩)) hd
theorem supers_ancG {p : Prog} {a x : Str} (h : x ∈ supers p a) : Anc p a x := supF_anc _ a [] nofun (fun c hc => .base hc) x h
theorem supers_headG {p : Prog} {x : Str} (h : hasC p x = true) : ∃ r, supers p x = x :: r := by
  obtain ⟨c, hc⟩ := hasC_find h
  unfold supers supF
  rw [hc]
  simp only
  have hn := (clsFind_name hc).1
  rw [if_neg (by simp [inL])]
  split
  · exact ⟨[], by rw [hn]; rfl⟩
  · obtain ⟨suf, hs⟩ := supF_pre p p.classes.length c.super ([] ++ [c.name])
    exact ⟨suf, by rw [hs, hn]; rfl⟩
theorem ceqs_mref (a b : MRef) : ceqs a.cells b.cells = (beqS a.cls b.cls && (beqS a.name b.name && beqS a.desc b.desc)) := rfl
theorem ceqs_mself (a : MRef) : ceqs a.cells a.cells = true := by rw [ceqs_mref, beqS_refl, beqS_refl, beqS_refl]; rfl
theorem ceqs_qself (a : FRef) : ceqs a.cells a.cells = true := by
  show (beqS a.cls a.cls && beqS a.name a.name) = true
  rw [beqS_refl, beqS_refl]; rfl
theorem ceqs_fself (a : Fld) : ceqs a.cells a.cells = true := by
  show (beqS a.name a.name && (a.type.kind == a.type.kind && (beqS a.type.cls a.type.cls && a.static == a.static))) = true
  rw [beqS_refl, beqS_refl]; simp
theorem firstP_app {p : Prog} {l r : List Str} {m x : MRef} (h : firstP p l m = some x) : firstP p (l ++ r) m = some x := by
  unfold firstP at h ⊢
  rw [List.find?_append]
  cases hf : l.find? fun s => (getP p ⟨s, m.name, m.desc⟩).isSome with
  | none => rw [hf] at h; cases h
  | some s => rw [hf] at h; exact h
/-- What an object's class has for a method is what is found by the method's name. -/
theorem disp_virt {p : Prog} {m b : MRef} {l r : List Str} (h : declP p l m mayD = some b) : declP p (l ++ r) m mayV = some b := by
  obtain ⟨x, h1, h2, h3⟩ := declP_get h
  rw [declP_some (firstP_app h1) h2]
  have : mayV x = true := by
    unfold mayD at h3
    unfold mayV
    simp only [Bool.and_eq_true] at h3 ⊢
    exact ⟨h3.1.1, h3.2⟩
  rw [this]; rfl
theorem decl_sub {p : Prog} {m b : MRef} {may : Meth → Bool} (h : declP p (supers p m.cls) m may = some b) : subP p m.cls b.cls = true := by
  obtain ⟨x, h1, _, _⟩ := declP_get h
  obtain ⟨_, _, h2, _⟩ := firstP_get h1
  exact subP_iff.2 (supers_ancG h2)
theorem fieldW_get {p : Prog} {f a : FRef} (h : fieldW p f = some a) : (fldP p a).isSome = true ∧ subP p f.cls a.cls = true ∧ a.name = f.name := by
  unfold fieldW at h
  cases hf : (supers p f.cls).find? fun s => (fldP p ⟨s, f.name⟩).isSome with
  | none => rw [hf] at h; cases h
  | some s =>
    rw [hf] at h; cases h
    exact ⟨List.find?_some (p := fun s => (fldP p ⟨s, f.name⟩).isSome) hf, subP_iff.2 (supers_ancG (List.mem_of_find?_eq_some hf)), rfl⟩
/-- Its own, where it has one. -/
theorem disp_own {p : Prog} {m : MRef} {x : Meth} (hk : hasC p m.cls = true) (hx : getP p m = some x) (hn : m.name ≠ nInit) : declP p (supers p m.cls) m mayD = if !x.static && !x.abs then some m else none := by
  obtain ⟨r, hr⟩ := supers_headG hk
  have hf : firstP p (supers p m.cls) m = some m := by
    refine firstP_some (s := m.cls) ?_
    rw [hr, List.find?_cons]
    show (match (getP p m).isSome with | true => some m.cls | false => _) = some m.cls
    rw [hx]; rfl
  rw [declP_some hf hx]
  have h2 : mayD x = (!x.static && !x.abs) := by
    unfold mayD
    rw [(mthC_name hx).1, beqS_no.2 hn]; simp
  rw [h2]
/-- That of the class above it, where it has none. -/
theorem disp_up {p : Prog} {m : MRef} {c : Cls} (hs : SoundP p) (hc : clsFind p m.cls = some c) (hn : c.super ≠ zS) (hx : getP p m = none) (u : Str) : declP p (supers p m.cls) m mayD = declP p (supers p c.super) ⟨u, m.name, m.desc⟩ mayD := by
  have h1 : firstP p (supers p m.cls) m = firstP p (supers p c.super) ⟨u, m.name, m.desc⟩ := by
    unfold firstP
    rw [supers_cons hs hc, beqS_no.2 hn, if_neg (by simp), List.find?_cons]
    have h2 : (getP p ⟨m.cls, m.name, m.desc⟩).isSome = false := by
      show (getP p m).isSome = false
      rw [hx]; rfl
    rw [h2]
  unfold declP
  rw [h1]
theorem fldD {l : List Fld} {i : Nat} (h : i < l.length) : l.getD i default = l[i] := by simp [List.getD, h]
theorem askedP_z {p : Prog} {x y z : Int} (hq : p.classes.length = 0) : askedP p x y z = ⟨nA, ⟨#[109]⟩, nVd⟩ := by unfold askedP; rw [if_pos hq]
theorem askedP_m {p : Prog} {x y z : Int} {cX cY : Cls} {kZ : Meth} (hq : ¬ p.classes.length = 0) (hcX : cX = p.classes.getD (x.tmod p.classes.length).toNat default) (hcY : cY = p.classes.getD (y.tmod p.classes.length).toNat default)
    (hkZ : kZ = cY.methods.getD (z.tmod cY.methods.length).toNat default) (hm : 0 < cY.methods.length) : askedP p x y z = ⟨cX.name, kZ.name, kZ.desc⟩ := by
  unfold askedP
  rw [if_neg hq]
  simp only
  rw [← hcX, ← hcY, ← hkZ, if_neg (by omega), if_neg (by omega)]
theorem askedP_n {p : Prog} {x y z : Int} {cX cY : Cls} (hq : ¬ p.classes.length = 0) (hcX : cX = p.classes.getD (x.tmod p.classes.length).toNat default) (hcY : cY = p.classes.getD (y.tmod p.classes.length).toNat default)
    (hm : ¬ 0 < cY.methods.length) : askedP p x y z = ⟨cX.name, zS, zS⟩ := by
  unfold askedP
  rw [if_neg hq]
  simp only
  rw [← hcX, ← hcY, if_pos (by omega), if_pos (by omega)]
theorem fieldQ_z {p : Prog} {x y z : Int} (hq : p.classes.length = 0) : fieldQ p x y z = ⟨(askedP p x y z).cls, ⟨#[102]⟩⟩ := by unfold fieldQ; simp only; rw [if_pos hq]
theorem fieldQ_m {p : Prog} {x y z : Int} {cY : Cls} {fZ : Fld} (hq : ¬ p.classes.length = 0) (hcY : cY = p.classes.getD (y.tmod p.classes.length).toNat default) (hfZ : fZ = cY.fields.getD (z.tmod cY.fields.length).toNat default) (hm : 0 < cY.fields.length) : fieldQ p x y z = ⟨(askedP p x y z).cls, fZ.name⟩ := by
  unfold fieldQ
  simp only
  rw [if_neg hq, ← hcY, ← hfZ, if_neg (by omega)]
theorem fieldQ_n {p : Prog} {x y z : Int} {cY : Cls} (hq : ¬ p.classes.length = 0) (hcY : cY = p.classes.getD (y.tmod p.classes.length).toNat default) (hm : ¬ 0 < cY.fields.length) : fieldQ p x y z = ⟨(askedP p x y z).cls, ⟨#[102]⟩⟩ := by
  unfold fieldQ
  simp only
  rw [if_neg hq, ← hcY, if_pos (by omega)]
theorem declS_elim {G : Prop} (p : Prog) (l : List Str) (m : MRef) (may : Meth → Bool) (h0 : declP p l m may = none → G) (h1 : ∀ r x, declP p l m may = some r → getP p r = some x → may x = true → G) : G := by
  cases hd : declP p l m may with
  | none => exact h0 hd
  | some r =>
    obtain ⟨x, _, h2, h3⟩ := declP_get hd
    exact h1 r x hd h2 h3
theorem fieldW_elim {G : Prop} (p : Prog) (f : FRef) (h0 : fieldW p f = none → G) (h1 : ∀ a, fieldW p f = some a → (fldP p a).isSome = true → subP p f.cls a.cls = true → a.name = f.name → G) : G := by
  cases hd : fieldW p f with
  | none => exact h0 hd
  | some a => obtain ⟨a1, a2, a3⟩ := fieldW_get hd; exact h1 a hd a1 a2 a3
theorem own_elim {G : Prop} (p : Prog) (m : MRef) (hk : hasC p m.cls = true) (hn : m.name ≠ nInit) (h0 : getP p m = none → G) (h1 : ∀ x, getP p m = some x → (!x.static && !x.abs) = true → declP p (supers p m.cls) m mayD = some m → G)
    (h2 : ∀ x, getP p m = some x → (!x.static && !x.abs) = false → declP p (supers p m.cls) m mayD = none → G) : G := by
  cases hg : getP p m with
  | none => exact h0 hg
  | some x =>
    have hd := disp_own hk hg hn
    cases hb : !x.static && !x.abs with
    | true => rw [hb, if_pos rfl] at hd; exact h1 x hg hb hd
    | false => rw [hb, if_neg (by simp)] at hd; exact h2 x hg hb hd
theorem mayD_abs {x : Meth} (h : mayD x = true) : x.abs = false := by
  unfold mayD at h
  simp only [Bool.and_eq_true, Bool.not_eq_true'] at h
  exact h.1.2

/-! ### The fixed program of layer 12 -/
def nm1 : Str := ⟨#[109]⟩
def ns1 : Str := ⟨#[115]⟩
def nf1 : Str := ⟨#[102]⟩
def lfI : Instr := ⟨23, 0, 0, 0, 0, zS, zS, zS, []⟩
def lfM : Meth := ⟨nm1, nVd, false, false, 1, [lfI]⟩
def lfS : Meth := ⟨ns1, nVd, true, false, 0, [lfI]⟩
def lfF : Fld := ⟨nf1, ⟨2, zS⟩, false⟩
def lfA : Cls := ⟨nA, zS, false, false, [], [lfF], [lfM, lfS]⟩
def lfB : Cls := ⟨nB, nA, false, false, [], [], []⟩
def lfP : Prog := ⟨[lfA, lfB], [], ⟨zS, zS, zS⟩⟩
theorem lfI_ok : lfI.ok := ⟨by unfold i64; decide, by unfold i64; decide, by unfold i64; decide, by unfold i64; decide, by unfold i64; decide, by unfold small; decide, by unfold small; decide, by unfold small; decide, ⟨by unfold small; decide, nofun⟩⟩
theorem lf_code : small [lfI].length ∧ ∀ x, x ∈ [lfI] → x.ok := ⟨by unfold small; decide, fun x hx => by rw [List.mem_singleton.1 hx]; exact lfI_ok⟩
theorem lfM_ok : lfM.ok := ⟨by unfold small; decide, by unfold small; decide, by unfold i64; decide, lf_code⟩
theorem lfS_ok : lfS.ok := ⟨by unfold small; decide, by unfold small; decide, by unfold i64; decide, lf_code⟩
theorem lfF_ok : lfF.ok := ⟨by unfold small; decide, ⟨by unfold i64; decide, by unfold small; decide⟩⟩
theorem lfA_ok : lfA.ok := ⟨by unfold small; decide, by unfold small; decide, ⟨by unfold small; decide, nofun⟩, ⟨by unfold small; decide, fun x hx => by rw [List.mem_singleton.1 hx]; exact lfF_ok⟩,
  ⟨by unfold small; decide, fun x hx => by rcases List.mem_cons.1 hx with rfl | hx; exact lfM_ok; rw [List.mem_singleton.1 hx]; exact lfS_ok⟩⟩
theorem lfB_ok : lfB.ok := ⟨by unfold small; decide, by unfold small; decide, ⟨by unfold small; decide, nofun⟩, ⟨by unfold small; decide, nofun⟩, ⟨by unfold small; decide, nofun⟩⟩
theorem lfP_ok : lfP.ok := ⟨⟨by unfold small; decide, fun x hx => by rcases List.mem_cons.1 hx with rfl | hx; exact lfA_ok; rw [List.mem_singleton.1 hx]; exact lfB_ok⟩, ⟨by unfold small; decide, nofun⟩, ⟨by unfold small; decide, by unfold small; decide, by unfold small; decide⟩⟩
theorem cls_mem {p : Prog} {m : Int} {c : Cls} (h0 : 0 ≤ m) (h : c = p.classes.getD (m.tmod p.classes.length).toNat default) : c ∈ p.classes ∨ p.classes.length = 0 := by
  by_cases hq : p.classes.length = 0
  · exact .inr hq
  · refine .inl ?_
    have hl := near_lt (show 0 < p.classes.length by omega) h0
    rw [h, clsD hl]
    exact List.getElem_mem hl
theorem lfP_virt : declP lfP (supers lfP nB ++ ancL lfP nB) ⟨nB, nm1, nVd⟩ mayV = some ⟨nA, nm1, nVd⟩ := by
  refine disp_virt (l := supers lfP nB) (r := ancL lfP nB) ?_
  decide +kernel
end Go.Sx
