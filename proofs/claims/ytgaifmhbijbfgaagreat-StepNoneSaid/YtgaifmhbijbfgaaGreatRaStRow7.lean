/- StepNone: of any pairs, and any input: no machine does nothing; a program without an entry is wrong at once; the law's call returns true; conditions: those of the given statement alone. -/
import Derived.Test.YtgaifmhbijbfgaaGreatRows
import Derived.Test.YtgaifmhbijbfgaaGreatRaB5
set_option linter.unusedVariables false
set_option linter.unusedSimpArgs false
set_option linter.unusedSectionVars false
set_option linter.unnecessarySimpa false
namespace Go.Proofs.YtgaifmhbijbfgaaGreat
open Go.ChangeShapes Go.WideShapes Go.ChangeAt Go.RowKit Go.Sx
theorem stepNone_con (xs : List AV) (h : TXs Tryz.prog [46, 28] xs) : ACalls Tryz.prog 7 xs [] (fun e _ => e = .ret (.v (.bool true))) := by
 obtain ⟨l, xs, rfl, _, h⟩ := txs_one (f := fun l : List FRef => .lst (l.map FRef.cells)) (dec_list (e := 116) (by kernel_rfl) (by kernel_rfl) (dec_FRef (s := 9) (by kernel_rfl) (by kernel_rfl))) (by kernel_rfl) h
 obtain ⟨m, xs, rfl, _, h⟩ := txs_one (f := fun l : List Int => .lst (l.map fun n => [iA n])) (dec_list (e := 2) (by kernel_rfl) (by kernel_rfl) (dec_int (by kernel_rfl))) (by kernel_rfl) h
 cases h
 exact (c_stepNone _ _ (fun e he => by obtain ⟨_, _, rfl⟩ := List.mem_map.1 he; rfl) (fun e he => by obtain ⟨_, _, rfl⟩ := List.mem_map.1 he; rfl)).mono fun e H h => h.1
set_option maxRecDepth 100000 in
theorem stepNone_lifted (os : Os) (started : os.Started) (H : Type) (enc : TypeId × Value → H) :
  ReturnsInHanded {} Tryz.checked os 7 .any (Rows.stepNoneSpec.pre6 enc Tryz.prog Tryz.f7 Rows.stepNoneRow.domain false) (Rows.stepNoneSpec.post enc Tryz.prog Tryz.f7 false true false false) := by
 refine returnsInHanded_of_change_sized (C := Tryz.checked) own started (by kernel_rfl) Tryz.func7
  (ChangeSpec.witness6 (enc := enc) (C := Tryz.checked) false ⟨#[], #[.slice none 0 0, .slice none 0 0], []⟩ 8 (by kernel_rfl) (by kernel_rfl) (by kernel_rfl) (by kernel_rfl)) ?_
 intro W base args ds gs before hval hW hcnd hsz _
 exact law_post 12 [46, 28] (by kernel_rfl) (tb := 4) (by kernel_rfl) (by kernel_rfl) rfl laidOut (by kernel_rfl) (by kernel_rfl)
  (fun ds h => match ds, h with | [a, b], _ => ⟨rfl, rfl, rfl⟩) hval hW hsz stepNone_con
theorem k0 : (Rows.stepNoneRow.wf (OpenSpec.ofChange Rows.stepNoneSpec)) = true := by kernel_rfl
theorem k3 : (Tryz.f7.params.all (Tryz.prog.readableRec ·)) = true := by kernel_rfl
theorem k4 : (namedTie Tryz.prog Rows.stepNoneRow.named Rows.stepNoneSpec.vars) = true := by kernel_rfl
theorem k5 : ((Rows.stepNoneRow.stops == [])) = true := by kernel_rfl
theorem k7 : ((Rows.stepNoneRow.knobs == [])) = true := by kernel_rfl
theorem k9 : ((Rows.stepNoneRow.inPlace == Tryz.prog.inPlace 7)) = true := by kernel_rfl
theorem k10 : ((Rows.stepNoneRow.unfollowed == Tryz.prog.unfollowed 7)) = true := by kernel_rfl
theorem k11 : ((Rows.stepNoneRow.recurses == Tryz.prog.recurses 7)) = true := by kernel_rfl
theorem k12 : ((Rows.stepNoneRow.named == Tryz.prog.varsNamed 7)) = true := by kernel_rfl
theorem k13 : ((Rows.stepNoneRow.maps == (Tryz.f7.params.toList ++ Rows.stepNoneSpec.plain.varTypes Tryz.prog).any (Tryz.prog.mapsRec ·))) = true := by kernel_rfl
theorem k14 : ((Rows.stepNoneRow.ifaces == (Tryz.f7.params.toList ++ Rows.stepNoneSpec.plain.varTypes Tryz.prog).any (Tryz.prog.ifacesRec ·))) = true := by kernel_rfl
theorem k15 : ((Rows.stepNoneRow.mapsOut == Tryz.prog.mapsAmong Tryz.f7.resultTypes.toList)) = true := by kernel_rfl
theorem k16 : ((Rows.stepNoneRow.loops == (Tryz.f7.params.toList ++ Rows.stepNoneSpec.plain.varTypes Tryz.prog).any (Tryz.prog.loopsFrom ·))) = true := by kernel_rfl
theorem k17 : ((Rows.stepNoneRow.wideKeys == (Tryz.f7.params.toList ++ Rows.stepNoneSpec.plain.varTypes Tryz.prog ++ Tryz.f7.resultTypes.toList).any (Tryz.prog.wideKeysFrom ·))) = true := by kernel_rfl
theorem k18 : (Rows.stepNoneSpec.vars.all (Tryz.prog.varReadable ·)) = true := by kernel_rfl
theorem k19 : (Tryz.f7.resultTypes.all (fun t => Tryz.prog.readableRec t && decide (t < Tryz.prog.types.size))) = true := by kernel_rfl
theorem k20 : ((Rows.stepNoneRow.ifacesOut == Tryz.f7.resultTypes.toList.any (Tryz.prog.ifacesRec ·))) = true := by kernel_rfl
theorem k21 : ((Rows.stepNoneRow.loopsOut == Tryz.f7.resultTypes.toList.any (Tryz.prog.loopsFrom ·))) = true := by kernel_rfl
theorem k22 : ((Rows.stepNoneRow.plainKeys == Tryz.prog.plainKeys)) = true := by kernel_rfl
theorem k23 : (Rows.stepNoneRow.shortTexts.isNone) = true := by kernel_rfl
theorem k26 : ((Rows.stepNoneRow.lifted == Tryz.prog.liftsFinal)) = true := by kernel_rfl
theorem k27 : ((Tryz.prog.make == some Rows.stepNoneRow.make)) = true := by kernel_rfl
theorem k28 : ((Rows.stepNoneRow.kinds == (if Rows.stepNoneRow.domain.isEmpty then [] else Tryz.f7.params.toList.map fun t => match Tryz.prog.underlying t with | some (.int k) => some k | _ => none))) = true := by kernel_rfl
theorem k29 : ((Rows.stepNoneRow.pinned == Rows.stepNoneRow.pinnedBy)) = true := by kernel_rfl
theorem k30 : ((Rows.stepNoneRow.veiled == (Tryz.f7.params.toList ++ Rows.stepNoneSpec.plain.varTypes Tryz.prog ++ Tryz.f7.resultTypes.toList).any (Tryz.prog.veiledRec ·))) = true := by kernel_rfl
theorem k31 : (Rows.stepNoneRow.veiledFits Tryz.prog Tryz.f7.params.toList (Tryz.f7.params.toList ++ Rows.stepNoneSpec.plain.varTypes Tryz.prog ++ Tryz.f7.resultTypes.toList)) = true := by kernel_rfl
set_option maxRecDepth 100000 in
theorem joined : joinedFacts Tryz.prog 7 Tryz.f7 Rows.stepNoneSpec Rows.stepNoneRow = true := and2 (and2 (and2 (and2 (and2 (and2 (and2 (and2 (and2 (and2 (and2 (and2 (and2 (and2 (and2 (and2 (and2 (and2 (and2 (and2 (and2 (and2 (and2 (and2 (and2 (and2 (and2 (and2 (and2 (and2 (and2 (k0) laidOut) pMaps) k3) k4) k5) pStops) k7) pKnobs) k9) k10) k11) k12) k13) k14) k15) k16) k17) k18) k19) k20) k21) k22) k23) pHeard) pEnter) k26) k27) k28) k29) k30) k31
theorem named : Tryz.prog.funcNamed Rows.stepNoneRow.func = some 7 := by kernel_rfl
theorem inst : Tryz.f7.isInstance Tryz.prog Rows.stepNoneRow.origin Rows.stepNoneRow.targs := of_decide_eq_true (by kernel_rfl)
theorem wrap : Tryz.f7.isWrapper Tryz.prog Rows.stepNoneRow.wrapper Rows.stepNoneRow.mainSum := by unfold Func.isWrapper; first | (rw [if_pos (by decide +kernel)]; kernel_rfl) | (rw [if_neg (by decide +kernel)]; exact ⟨rfl, rfl⟩)
theorem stepNone_holds : Rows.StepNoneSaid :=
 OpenClaim.holds_of_wide 7 Tryz.f7 rfl rfl rfl rfl rfl rfl rfl ⟨rfl, rfl, rfl, rfl, rfl⟩ rfl rfl rfl rfl rfl named Tryz.func7 joined inst wrap
  (fun os started H enc _ => stepNone_lifted os started H enc)
#print axioms stepNone_holds
end Go.Proofs.YtgaifmhbijbfgaaGreat
