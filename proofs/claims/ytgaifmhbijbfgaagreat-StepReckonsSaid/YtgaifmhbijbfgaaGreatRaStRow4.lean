/- StepReckons: of any three numbers: what they come to is what the reference says; the law's call returns true; conditions: those of the given statement alone. -/
import Derived.Test.YtgaifmhbijbfgaaGreatRows
import Derived.Test.YtgaifmhbijbfgaaGreatRaB5
set_option linter.unusedVariables false
set_option linter.unusedSimpArgs false
set_option linter.unusedSectionVars false
set_option linter.unnecessarySimpa false
namespace Go.Proofs.YtgaifmhbijbfgaaGreat
open Go.ChangeShapes Go.WideShapes Go.ChangeAt Go.RowKit Go.Sx
theorem stepReckons_con (xs : List AV) (h : TXs Tryz.prog [2, 2, 2] xs) : ACalls Tryz.prog 4 xs [] (fun e _ => e = .ret (.v (.bool true))) := by
 obtain ⟨o, xs, rfl, ho, h⟩ := txs_one (f := fun n : Int => iA n) (dec_int (by kernel_rfl)) (by kernel_rfl) h
 obtain ⟨a, xs, rfl, ha, h⟩ := txs_one (f := fun n : Int => iA n) (dec_int (by kernel_rfl)) (by kernel_rfl) h
 obtain ⟨b, xs, rfl, hb, h⟩ := txs_one (f := fun n : Int => iA n) (dec_int (by kernel_rfl)) (by kernel_rfl) h
 cases h
 exact (c_stepReckons o a b).mono fun e H h => h.1
set_option maxRecDepth 100000 in
theorem stepReckons_lifted (os : Os) (started : os.Started) (H : Type) (enc : TypeId × Value → H) :
  ReturnsInHanded {} Tryz.checked os 4 .any (Rows.stepReckonsSpec.pre6 enc Tryz.prog Tryz.f4 Rows.stepReckonsRow.domain false) (Rows.stepReckonsSpec.post enc Tryz.prog Tryz.f4 false true false false) := by
 refine returnsInHanded_of_change_sized (C := Tryz.checked) own started (by kernel_rfl) Tryz.func4
  (ChangeSpec.witness6 (enc := enc) (C := Tryz.checked) false ⟨#[], #[.int .i64 0, .int .i64 0, .int .i64 0], []⟩ 8 (by kernel_rfl) (by kernel_rfl) (by kernel_rfl) (by kernel_rfl)) ?_
 intro W base args ds gs before hval hW hcnd hsz _
 exact law_post 12 [2, 2, 2] (by kernel_rfl) (tb := 4) (by kernel_rfl) (by kernel_rfl) rfl laidOut (by kernel_rfl) (by kernel_rfl)
  (fun ds h => match ds, h with | [a, b, c], _ => ⟨rfl, rfl, rfl⟩) hval hW hsz stepReckons_con
theorem k0 : (Rows.stepReckonsRow.wf (OpenSpec.ofChange Rows.stepReckonsSpec)) = true := by kernel_rfl
theorem k3 : (Tryz.f4.params.all (Tryz.prog.readableRec ·)) = true := by kernel_rfl
theorem k4 : (namedTie Tryz.prog Rows.stepReckonsRow.named Rows.stepReckonsSpec.vars) = true := by kernel_rfl
theorem k5 : ((Rows.stepReckonsRow.stops == [])) = true := by kernel_rfl
theorem k7 : ((Rows.stepReckonsRow.knobs == [])) = true := by kernel_rfl
theorem k9 : ((Rows.stepReckonsRow.inPlace == Tryz.prog.inPlace 4)) = true := by kernel_rfl
theorem k10 : ((Rows.stepReckonsRow.unfollowed == Tryz.prog.unfollowed 4)) = true := by kernel_rfl
theorem k11 : ((Rows.stepReckonsRow.recurses == Tryz.prog.recurses 4)) = true := by kernel_rfl
theorem k12 : ((Rows.stepReckonsRow.named == Tryz.prog.varsNamed 4)) = true := by kernel_rfl
theorem k13 : ((Rows.stepReckonsRow.maps == (Tryz.f4.params.toList ++ Rows.stepReckonsSpec.plain.varTypes Tryz.prog).any (Tryz.prog.mapsRec ·))) = true := by kernel_rfl
theorem k14 : ((Rows.stepReckonsRow.ifaces == (Tryz.f4.params.toList ++ Rows.stepReckonsSpec.plain.varTypes Tryz.prog).any (Tryz.prog.ifacesRec ·))) = true := by kernel_rfl
theorem k15 : ((Rows.stepReckonsRow.mapsOut == Tryz.prog.mapsAmong Tryz.f4.resultTypes.toList)) = true := by kernel_rfl
theorem k16 : ((Rows.stepReckonsRow.loops == (Tryz.f4.params.toList ++ Rows.stepReckonsSpec.plain.varTypes Tryz.prog).any (Tryz.prog.loopsFrom ·))) = true := by kernel_rfl
theorem k17 : ((Rows.stepReckonsRow.wideKeys == (Tryz.f4.params.toList ++ Rows.stepReckonsSpec.plain.varTypes Tryz.prog ++ Tryz.f4.resultTypes.toList).any (Tryz.prog.wideKeysFrom ·))) = true := by kernel_rfl
theorem k18 : (Rows.stepReckonsSpec.vars.all (Tryz.prog.varReadable ·)) = true := by kernel_rfl
theorem k19 : (Tryz.f4.resultTypes.all (fun t => Tryz.prog.readableRec t && decide (t < Tryz.prog.types.size))) = true := by kernel_rfl
theorem k20 : ((Rows.stepReckonsRow.ifacesOut == Tryz.f4.resultTypes.toList.any (Tryz.prog.ifacesRec ·))) = true := by kernel_rfl
theorem k21 : ((Rows.stepReckonsRow.loopsOut == Tryz.f4.resultTypes.toList.any (Tryz.prog.loopsFrom ·))) = true := by kernel_rfl
theorem k22 : ((Rows.stepReckonsRow.plainKeys == Tryz.prog.plainKeys)) = true := by kernel_rfl
theorem k23 : (Rows.stepReckonsRow.shortTexts.isNone) = true := by kernel_rfl
theorem k26 : ((Rows.stepReckonsRow.lifted == Tryz.prog.liftsFinal)) = true := by kernel_rfl
theorem k27 : ((Tryz.prog.make == some Rows.stepReckonsRow.make)) = true := by kernel_rfl
theorem k28 : ((Rows.stepReckonsRow.kinds == (if Rows.stepReckonsRow.domain.isEmpty then [] else Tryz.f4.params.toList.map fun t => match Tryz.prog.underlying t with | some (.int k) => some k | _ => none))) = true := by kernel_rfl
theorem k29 : ((Rows.stepReckonsRow.pinned == Rows.stepReckonsRow.pinnedBy)) = true := by kernel_rfl
theorem k30 : ((Rows.stepReckonsRow.veiled == (Tryz.f4.params.toList ++ Rows.stepReckonsSpec.plain.varTypes Tryz.prog ++ Tryz.f4.resultTypes.toList).any (Tryz.prog.veiledRec ·))) = true := by kernel_rfl
theorem k31 : (Rows.stepReckonsRow.veiledFits Tryz.prog Tryz.f4.params.toList (Tryz.f4.params.toList ++ Rows.stepReckonsSpec.plain.varTypes Tryz.prog ++ Tryz.f4.resultTypes.toList)) = true := by kernel_rfl
set_option maxRecDepth 100000 in
theorem joined : joinedFacts Tryz.prog 4 Tryz.f4 Rows.stepReckonsSpec Rows.stepReckonsRow = true := and2 (and2 (and2 (and2 (and2 (and2 (and2 (and2 (and2 (and2 (and2 (and2 (and2 (and2 (and2 (and2 (and2 (and2 (and2 (and2 (and2 (and2 (and2 (and2 (and2 (and2 (and2 (and2 (and2 (and2 (and2 (k0) laidOut) pMaps) k3) k4) k5) pStops) k7) pKnobs) k9) k10) k11) k12) k13) k14) k15) k16) k17) k18) k19) k20) k21) k22) k23) pHeard) pEnter) k26) k27) k28) k29) k30) k31
theorem named : Tryz.prog.funcNamed Rows.stepReckonsRow.func = some 4 := by kernel_rfl
theorem inst : Tryz.f4.isInstance Tryz.prog Rows.stepReckonsRow.origin Rows.stepReckonsRow.targs := of_decide_eq_true (by kernel_rfl)
theorem wrap : Tryz.f4.isWrapper Tryz.prog Rows.stepReckonsRow.wrapper Rows.stepReckonsRow.mainSum := by unfold Func.isWrapper; first | (rw [if_pos (by decide +kernel)]; kernel_rfl) | (rw [if_neg (by decide +kernel)]; exact ⟨rfl, rfl⟩)
theorem stepReckons_holds : Rows.StepReckonsSaid :=
 OpenClaim.holds_of_wide 4 Tryz.f4 rfl rfl rfl rfl rfl rfl rfl ⟨rfl, rfl, rfl, rfl, rfl⟩ rfl rfl rfl rfl rfl named Tryz.func4 joined inst wrap
  (fun os started H enc _ => stepReckons_lifted os started H enc)
#print axioms stepReckons_holds
end Go.Proofs.YtgaifmhbijbfgaaGreat
