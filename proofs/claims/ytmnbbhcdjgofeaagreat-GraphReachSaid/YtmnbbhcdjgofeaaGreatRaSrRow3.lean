/- GraphReach: of any edges and any method: what is reached along edges, what calls and is called, of the first forty edges; the law's call returns true; conditions: those of the given statement alone. -/
import Derived.Test.YtmnbbhcdjgofeaaGreatRows
import Derived.Test.YtmnbbhcdjgofeaaGreatRaB5
set_option linter.unusedVariables false
set_option linter.unusedSimpArgs false
set_option linter.unusedSectionVars false
set_option linter.unnecessarySimpa false
namespace Go.Proofs.YtmnbbhcdjgofeaaGreat
open Go.ChangeShapes Go.WideShapes Go.ChangeAt Go.RowKit Go.Sx
theorem graphReach_con (xs : List AV) (h : TXs Tryz.prog [22, 24] xs) : ACalls Tryz.prog 3 xs [] (fun e _ => e = .ret (.v (.bool true))) := by
 obtain ⟨es, xs, rfl, he, h⟩ := txs_one (f := fun l : List Edg => AV.lst (l.map Edg.cells)) (dec_list (e := 43) (by kernel_rfl) (by kernel_rfl) dec43) (by kernel_rfl) h
 obtain ⟨m, xs, rfl, hm, h⟩ := txs_agg dec24 (by kernel_rfl) h
 cases h
 exact (c_graphReach es he.1 m).mono fun e H h => h.1
set_option maxRecDepth 100000 in
theorem graphReach_lifted (os : Os) (started : os.Started) (H : Type) (enc : TypeId × Value → H) :
  ReturnsInHanded {} Tryz.checked os 3 .any (Rows.graphReachSpec.pre6 enc Tryz.prog Tryz.f3 Rows.graphReachRow.domain false) (Rows.graphReachSpec.post enc Tryz.prog Tryz.f3 false true false false) := by
 refine returnsInHanded_of_change_sized (C := Tryz.checked) own started (by kernel_rfl) Tryz.func3
  (ChangeSpec.witness6 (enc := enc) (C := Tryz.checked) false ⟨#[], #[.slice none 0 0, .agg #[.string ⟨#[]⟩, .string ⟨#[]⟩, .string ⟨#[]⟩]], []⟩ 8 (by kernel_rfl) (by kernel_rfl) (by kernel_rfl) (by kernel_rfl)) ?_
 intro W base args ds gs before hval hW hcnd hsz _
 exact law_post 12 [22, 24] (by kernel_rfl) (tb := 4) (by kernel_rfl) (by kernel_rfl) rfl laidOut (by kernel_rfl) (by kernel_rfl)
  (fun ds h => match ds, h with | [a, b], _ => ⟨rfl, rfl, rfl⟩) hval hW hsz graphReach_con
theorem k0 : (Rows.graphReachRow.wf (OpenSpec.ofChange Rows.graphReachSpec)) = true := by kernel_rfl
theorem k3 : (Tryz.f3.params.all (Tryz.prog.readableRec ·)) = true := by kernel_rfl
theorem k4 : (namedTie Tryz.prog Rows.graphReachRow.named Rows.graphReachSpec.vars) = true := by kernel_rfl
theorem k5 : ((Rows.graphReachRow.stops == [])) = true := by kernel_rfl
theorem k7 : ((Rows.graphReachRow.knobs == [])) = true := by kernel_rfl
theorem k9 : ((Rows.graphReachRow.inPlace == Tryz.prog.inPlace 3)) = true := by kernel_rfl
theorem k10 : ((Rows.graphReachRow.unfollowed == Tryz.prog.unfollowed 3)) = true := by kernel_rfl
theorem k11 : ((Rows.graphReachRow.recurses == Tryz.prog.recurses 3)) = true := by kernel_rfl
theorem k12 : ((Rows.graphReachRow.named == Tryz.prog.varsNamed 3)) = true := by kernel_rfl
theorem k13 : ((Rows.graphReachRow.maps == (Tryz.f3.params.toList ++ Rows.graphReachSpec.plain.varTypes Tryz.prog).any (Tryz.prog.mapsRec ·))) = true := by kernel_rfl
theorem k14 : ((Rows.graphReachRow.ifaces == (Tryz.f3.params.toList ++ Rows.graphReachSpec.plain.varTypes Tryz.prog).any (Tryz.prog.ifacesRec ·))) = true := by kernel_rfl
theorem k15 : ((Rows.graphReachRow.mapsOut == Tryz.prog.mapsAmong Tryz.f3.resultTypes.toList)) = true := by kernel_rfl
theorem k16 : ((Rows.graphReachRow.loops == (Tryz.f3.params.toList ++ Rows.graphReachSpec.plain.varTypes Tryz.prog).any (Tryz.prog.loopsFrom ·))) = true := by kernel_rfl
theorem k17 : ((Rows.graphReachRow.wideKeys == (Tryz.f3.params.toList ++ Rows.graphReachSpec.plain.varTypes Tryz.prog ++ Tryz.f3.resultTypes.toList).any (Tryz.prog.wideKeysFrom ·))) = true := by kernel_rfl
theorem k18 : (Rows.graphReachSpec.vars.all (Tryz.prog.varReadable ·)) = true := by kernel_rfl
theorem k19 : (Tryz.f3.resultTypes.all (fun t => Tryz.prog.readableRec t && decide (t < Tryz.prog.types.size))) = true := by kernel_rfl
theorem k20 : ((Rows.graphReachRow.ifacesOut == Tryz.f3.resultTypes.toList.any (Tryz.prog.ifacesRec ·))) = true := by kernel_rfl
theorem k21 : ((Rows.graphReachRow.loopsOut == Tryz.f3.resultTypes.toList.any (Tryz.prog.loopsFrom ·))) = true := by kernel_rfl
theorem k22 : ((Rows.graphReachRow.plainKeys == Tryz.prog.plainKeys)) = true := by kernel_rfl
theorem k23 : (Rows.graphReachRow.shortTexts.isNone) = true := by kernel_rfl
theorem k26 : ((Rows.graphReachRow.lifted == Tryz.prog.liftsFinal)) = true := by kernel_rfl
theorem k27 : ((Tryz.prog.make == some Rows.graphReachRow.make)) = true := by kernel_rfl
theorem k28 : ((Rows.graphReachRow.kinds == (if Rows.graphReachRow.domain.isEmpty then [] else Tryz.f3.params.toList.map fun t => match Tryz.prog.underlying t with | some (.int k) => some k | _ => none))) = true := by kernel_rfl
theorem k29 : ((Rows.graphReachRow.pinned == Rows.graphReachRow.pinnedBy)) = true := by kernel_rfl
theorem k30 : ((Rows.graphReachRow.veiled == (Tryz.f3.params.toList ++ Rows.graphReachSpec.plain.varTypes Tryz.prog ++ Tryz.f3.resultTypes.toList).any (Tryz.prog.veiledRec ·))) = true := by kernel_rfl
theorem k31 : (Rows.graphReachRow.veiledFits Tryz.prog Tryz.f3.params.toList (Tryz.f3.params.toList ++ Rows.graphReachSpec.plain.varTypes Tryz.prog ++ Tryz.f3.resultTypes.toList)) = true := by kernel_rfl
set_option maxRecDepth 100000 in
theorem joined : joinedFacts Tryz.prog 3 Tryz.f3 Rows.graphReachSpec Rows.graphReachRow = true := and2 (and2 (and2 (and2 (and2 (and2 (and2 (and2 (and2 (and2 (and2 (and2 (and2 (and2 (and2 (and2 (and2 (and2 (and2 (and2 (and2 (and2 (and2 (and2 (and2 (and2 (and2 (and2 (and2 (and2 (and2 (k0) laidOut) pMaps) k3) k4) k5) pStops) k7) pKnobs) k9) k10) k11) k12) k13) k14) k15) k16) k17) k18) k19) k20) k21) k22) k23) pHeard) pEnter) k26) k27) k28) k29) k30) k31
theorem named : Tryz.prog.funcNamed Rows.graphReachRow.func = some 3 := by kernel_rfl
theorem inst : Tryz.f3.isInstance Tryz.prog Rows.graphReachRow.origin Rows.graphReachRow.targs := of_decide_eq_true (by kernel_rfl)
theorem wrap : Tryz.f3.isWrapper Tryz.prog Rows.graphReachRow.wrapper Rows.graphReachRow.mainSum := by unfold Func.isWrapper; first | (rw [if_pos (by decide +kernel)]; kernel_rfl) | (rw [if_neg (by decide +kernel)]; exact ⟨rfl, rfl⟩)
theorem graphReach_holds : Rows.GraphReachSaid :=
 OpenClaim.holds_of_wide 3 Tryz.f3 rfl rfl rfl rfl rfl rfl rfl ⟨rfl, rfl, rfl, rfl, rfl⟩ rfl rfl rfl rfl rfl named Tryz.func3 joined inst wrap
  (fun os started H enc _ => graphReach_lifted os started H enc)
#print axioms graphReach_holds
end Go.Proofs.YtmnbbhcdjgofeaaGreat
