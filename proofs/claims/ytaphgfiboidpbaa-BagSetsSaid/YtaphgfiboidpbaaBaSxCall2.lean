/- A call that reads some owned things, and leaves them. -/
import Derived.Test.YtaphgfiboidpbaaBaSxMore
set_option linter.unusedVariables false
set_option linter.unusedSimpArgs false
namespace Go.Sx
open Go
variable {P : Program} {ro : Option Nat} {Q : Exit → St → Prop} {s : St} {ops : Array Oper} {o : Oper} {rest : List Oper} {T : List (Nat × AV)}
theorem aops_callG {fo : Operand} {args : Array Operand} {ats : Array TypeId} {f : Nat} {caps xs : List AV} {x : AV} (Hn Fr : AHeap) (hw : Wanted ops s.T o true) (hd : dok o.dst s.n = true)
    (ho : o.op = .call { callee := .value fo, args := args, argTypes := ats }) (hfo : ev s.T fo = some (.fn (.func f) caps)) (hxs : evs s.T args.toList = some xs) (hp : s.H.Perm (Hn ++ Fr))
    (hc : ACalls P f (xs ++ caps) Hn (GivesH x Hn)) (h : AOps P ro ops rest Q { s with T := put s.T o.dst x }) : AOps P ro ops (o :: rest) Q s := by
  refine aops_step hw ?_
  intro Z C0 H0 w0 C a w hx hs
  have hnd : (Hn.map Prod.fst).Nodup := by
    have h1 : ((Hn ++ Fr).map Prod.fst).Nodup := (hp.map Prod.fst).nodup_iff.1 hs.wr.nd
    rw [List.map_append, List.nodup_append] at h1
    exact h1.1
  refine eff_call Hn ho hfo hxs hc hnd Z C s.H a w hs.wr (fun p hm => hp.mem_iff.2 (List.mem_append_left _ hm)) (fun p _ y hy => hs.ev hy) nofun List.nodup_nil (fun _ _ => by simp) ro _ _ ?_
  intro v w1 C1 hv hw1 he1
  exact ⟨C1, _, h, hs.put he1.le hw1 (dok_spec hd) hv, hx.trans he1⟩
end Go.Sx
