/- An owned row's end, cut off and cleared. -/
import Derived.Test.YtaphgfiboidpbaaBaSxBytes
import Derived.Laws.CopyRow
set_option linter.unusedVariables false
set_option linter.unusedSimpArgs false
namespace Go.Sx
open Go
variable {P : Program} {ro : Option Nat} {Q : Exit → St → Prop} {s : St} {ops : Array Oper} {o : Oper} {rest : List Oper} {T : List (Nat × AV)}

theorem eff_sliceFrom_own {t e n : Nat} {b : Bool} {p q : Operand} {id off len : Nat} {kd : IntKind} {k : Int} [h : UD P t (.slice e)] [k1 : TK P e b n] (ho : o.op = .slice t p (some q) none none)
    (hp : ev T p = some (.own id n off len)) (hq : ev T q = some (.v (.int kd k))) (h0 : 0 ≤ k) (h1 : k < len) : Eff P o T [] (.own id n (off + k.toNat) (len - k.toNat)) [] :=
  eff_val (by intro c; rw [ho]; nofun) fun C H a w hw hn hv => by
    have h2 := hv p (by rw [ho]; simp [Op.operands]) _ hp
    have h3 := VR.val (hv q (by rw [ho]; simp [Op.operands]) _ hq)
    generalize hpv : a.eval p = u at h2
    cases h2 with
    | own _ _ _ _ bb N cap hid hu hcap hlen hml =>
      have hkc : k ≤ (len : Int) := by omega
      have hne : ¬ cap = k.toNat := by omega
      have hmul : (off + k.toNat) * n = off * n + k.toNat * n := Nat.add_mul ..
      have hv := VR.own (C := C) id n (off + k.toNat) (len - k.toNat) bb N (cap - k.toNat) hid hu (by rw [← hcap]; congr 1; omega) (by omega) (by omega)
      rw [hmul] at hv
      refine ⟨_, ?_, hv⟩
      simp [execOp, ho, hpv, h3, Instr.sliceAt, Instr.slice, Instr.sliceBounds, run_underlying (d := .slice e), run_sizeOf k1.tk, run_bound rfl h0 hkc, Sem.run_bind, Result.andThen, Sem.run_pure, Addr.add, hne]
    | ownNil => omega

end Go.Sx
