/- Layer 12's laws in plain words. -/
import Derived.Test.YtdombpcfmjlnlaaFbSxFind
set_option linter.unusedSimpArgs false
set_option linter.unusedVariables false
namespace Go.Sx
open Go

theorem ceqs_mref (a b : MRef) : ceqs a.cells b.cells = (beqS a.cls b.cls && (beqS a.name b.name && beqS a.desc b.desc)) := rfl
theorem ceqs_mself (a : MRef) : ceqs a.cells a.cells = true := by rw [ceqs_mref, beqS_refl, beqS_refl, beqS_refl]; rfl
theorem firstP_app {p : Prog} {l r : List Str} {m x : MRef} (h : firstP p l m = some x) : firstP p (l ++ r) m = some x := by
  unfold firstP at h ⊢
  rw [List.find?_append]
  cases hf : l.find? fun s => (getP p ⟨s, m.name, m.desc⟩).isSome with
  | none => rw [hf] at h; cases h
  | some s => rw [hf] at h; exact h
/-- What an object's class has for a method is what is found by the method's name. -/
theorem disp_virt {p : Prog} {m b : MRef} {l r : List Str} (h : declP p l m mayD = some b) : declP p (l ++ r) m mayV = some b := by
  obtain ⟨x, h1, h2, h3⟩ := declP_get h
  rw [declP_some (firstP_app h1) h2]
  have : mayV x = true := by
    unfold mayD at h3
    unfold mayV
    simp only [Bool.and_eq_true] at h3 ⊢
    exact ⟨h3.1.1, h3.2⟩
  rw [this]; rfl
theorem askedP_z {p : Prog} {x y z : Int} (hq : p.classes.length = 0) : askedP p x y z = ⟨nA, ⟨#[109]⟩, nVd⟩ := by unfold askedP; rw [if_pos hq]
theorem askedP_m {p : Prog} {x y z : Int} {cX cY : Cls} {kZ : Meth} (hq : ¬ p.classes.length = 0) (hcX : cX = p.classes.getD (x.tmod p.classes.length).toNat default) (hcY : cY = p.classes.getD (y.tmod p.classes.length).toNat default)
    (hkZ : kZ = cY.methods.getD (z.tmod cY.methods.length).toNat default) (hm : 0 < cY.methods.length) : askedP p x y z = ⟨cX.name, kZ.name, kZ.desc⟩ := by
  unfold askedP
  rw [if_neg hq]
  simp only
  rw [← hcX, ← hcY, ← hkZ, if_neg (by omega), if_neg (by omega)]
theorem askedP_n {p : Prog} {x y z : Int} {cX cY : Cls} (hq : ¬ p.classes.length = 0) (hcX : cX = p.classes.getD (x.tmod p.classes.length).toNat default) (hcY : cY = p.classes.getD (y.tmod p.classes.length).toNat default)
    (hm : ¬ 0 < cY.methods.length) : askedP p x y z = ⟨cX.name, zS, zS⟩ := by
  unfold askedP
  rw [if_neg hq]
  simp only
  rw [← hcX, ← hcY, if_pos (by omega), if_pos (by omega)]
theorem getP_small {p : Prog} (hp : p.ok) (m : MRef) : small ((getP p m).getD zMt).code.length ∧ ∀ x, x ∈ ((getP p m).getD zMt).code → small x.args.length := by
  cases h : getP p m with
  | none => exact ⟨by unfold small; decide, nofun⟩
  | some k =>
    have h1 := (mthC_name h).2.2
    unfold knownC at h1
    cases hc : clsFind p m.cls with
    | none => rw [hc] at h1; cases h1
    | some c =>
      rw [hc] at h1
      have hk := (hp.classes.2 c (clsFind_name hc).2).methods.2 k h1
      exact ⟨hk.code.1, fun x hx => (hk.code.2 x hx).args.1⟩
/-! ### The fixed program of layer 12 -/
def nm1 : Str := ⟨#[109]⟩
def ns1 : Str := ⟨#[115]⟩
def nf1 : Str := ⟨#[102]⟩
def lfI : Instr := ⟨23, 0, 0, 0, 0, zS, zS, zS, []⟩
def lfM : Meth := ⟨nm1, nVd, false, false, 1, [lfI]⟩
def lfS : Meth := ⟨ns1, nVd, true, false, 0, [lfI]⟩
def lfF : Fld := ⟨nf1, ⟨2, zS⟩, false⟩
def lfA : Cls := ⟨nA, zS, false, false, [], [lfF], [lfM, lfS]⟩
def lfB : Cls := ⟨nB, nA, false, false, [], [], []⟩
def lfP : Prog := ⟨[lfA, lfB], [], ⟨zS, zS, zS⟩⟩
theorem lfI_ok : lfI.ok := ⟨by unfold i64; decide, by unfold i64; decide, by unfold i64; decide, by unfold i64; decide, by unfold i64; decide, by unfold small; decide, by unfold small; decide, by unfold small; decide, ⟨by unfold small; decide, nofun⟩⟩
theorem lf_code : small [lfI].length ∧ ∀ x, x ∈ [lfI] → x.ok := ⟨by unfold small; decide, fun x hx => by rw [List.mem_singleton.1 hx]; exact lfI_ok⟩
theorem lfM_ok : lfM.ok := ⟨by unfold small; decide, by unfold small; decide, by unfold i64; decide, lf_code⟩
theorem lfS_ok : lfS.ok := ⟨by unfold small; decide, by unfold small; decide, by unfold i64; decide, lf_code⟩
theorem lfF_ok : lfF.ok := ⟨by unfold small; decide, ⟨by unfold i64; decide, by unfold small; decide⟩⟩
theorem lfA_ok : lfA.ok := ⟨by unfold small; decide, by unfold small; decide, ⟨by unfold small; decide, nofun⟩, ⟨by unfold small; decide, fun x hx => by rw [List.mem_singleton.1 hx]; exact lfF_ok⟩,
  ⟨by unfold small; decide, fun x hx => by rcases List.mem_cons.1 hx with rfl | hx; exact lfM_ok; rw [List.mem_singleton.1 hx]; exact lfS_ok⟩⟩
theorem lfB_ok : lfB.ok := ⟨by unfold small; decide, by unfold small; decide, ⟨by unfold small; decide, nofun⟩, ⟨by unfold small; decide, nofun⟩, ⟨by unfold small; decide, nofun⟩⟩
theorem lfP_ok : lfP.ok := ⟨⟨by unfold small; decide, fun x hx => by rcases List.mem_cons.1 hx with rfl | hx; exact lfA_ok; rw [List.mem_singleton.1 hx]; exact lfB_ok⟩, ⟨by unfold small; decide, nofun⟩, ⟨by unfold small; decide, by unfold small; decide, by unfold small; decide⟩⟩
theorem cls_mem {p : Prog} {m : Int} {c : Cls} (h0 : 0 ≤ m) (h : c = p.classes.getD (m.tmod p.classes.length).toNat default) : c ∈ p.classes ∨ p.classes.length = 0 := by
  by_cases hq : p.classes.length = 0
  · exact .inr hq
  · refine .inl ?_
    have hl := near_lt (show 0 < p.classes.length by omega) h0
    rw [h, clsD hl]
    exact List.getElem_mem hl
theorem lfP_virt : declP lfP (supers lfP nB ++ ancL lfP nB) ⟨nB, nm1, nVd⟩ mayV = some ⟨nA, nm1, nVd⟩ := by
  refine disp_virt (l := supers lfP nB) (r := ancL lfP nB) ?_
  decide +kernel
theorem mayD_no {x : Meth} {nm : Str} (hn : x.name = nm) (h : (((!true || x.static) || x.abs) || beqS nm nInit) = true) : mayD x = false := by
  subst hn
  unfold mayD
  cases hs : x.static <;> cases ha : x.abs <;> simp_all
theorem mayD_yes {x : Meth} {nm : Str} (hn : x.name = nm) (h : (((!true || x.static) || x.abs) || beqS nm nInit) = false) : mayD x = true := by
  subst hn
  unfold mayD
  cases hs : x.static <;> cases ha : x.abs <;> simp_all
theorem mayV_no {x : Meth} {nm : Str} (hn : x.name = nm) (h : ((!true || x.static) || beqS nm nInit) = true) : mayV x = false := by
  subst hn
  unfold mayV
  cases hs : x.static <;> simp_all
theorem mayV_yes {x : Meth} {nm : Str} (hn : x.name = nm) (h : ((!true || x.static) || beqS nm nInit) = false) : mayV x = true := by
  subst hn
  unfold mayV
  cases hs : x.static <;> simp_all
end Go.Sx
