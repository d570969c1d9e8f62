/- RunAlike: of any three results: which runs look the same from outside, from both sides, and on to a third one; which find a name that is none of some; the law's call returns true; conditions: those of the given statement alone. -/
import Derived.Test.YtgaifmhbijbfgaaGreatRows
import Derived.Test.YtgaifmhbijbfgaaGreatRaB5
set_option linter.unusedVariables false
set_option linter.unusedSimpArgs false
set_option linter.unusedSectionVars false
set_option linter.unnecessarySimpa false
namespace Go.Proofs.YtgaifmhbijbfgaaGreat
open Go.ChangeShapes Go.WideShapes Go.ChangeAt Go.RowKit Go.Sx
theorem runAlike_con (xs : List AV) (h : TXs Tryz.prog [41, 41, 41] xs) : ACalls Tryz.prog 12 xs [] (fun e _ => e = .ret (.v (.bool true))) := by
 obtain ⟨a, xs, rfl, _, h⟩ := txs_agg decRs (by kernel_rfl) h
 obtain ⟨b, xs, rfl, _, h⟩ := txs_agg decRs (by kernel_rfl) h
 obtain ⟨c, xs, rfl, _, h⟩ := txs_agg decRs (by kernel_rfl) h
 cases h
 exact (c_runAlike a b c).mono fun e H h => h.1
set_option maxRecDepth 100000 in
theorem runAlike_lifted (os : Os) (started : os.Started) (H : Type) (enc : TypeId × Value → H) :
  ReturnsInHanded {} Tryz.checked os 12 .any (Rows.runAlikeSpec.pre6 enc Tryz.prog Tryz.f12 Rows.runAlikeRow.domain false) (Rows.runAlikeSpec.post enc Tryz.prog Tryz.f12 false true false false) := by
 refine returnsInHanded_of_change_sized (C := Tryz.checked) own started (by kernel_rfl) Tryz.func12
  (ChangeSpec.witness6 (enc := enc) (C := Tryz.checked) false ⟨#[], #[.agg #[.int .i64 0, .int .i64 0, .int .i64 0, .int .i64 0, .slice none 0 0, .slice none 0 0, .slice none 0 0, .slice none 0 0, .slice none 0 0, .slice none 0 0, .slice none 0 0], .agg #[.int .i64 0, .int .i64 0, .int .i64 0, .int .i64 0, .slice none 0 0, .slice none 0 0, .slice none 0 0, .slice none 0 0, .slice none 0 0, .slice none 0 0, .slice none 0 0], .agg #[.int .i64 0, .int .i64 0, .int .i64 0, .int .i64 0, .slice none 0 0, .slice none 0 0, .slice none 0 0, .slice none 0 0, .slice none 0 0, .slice none 0 0, .slice none 0 0]], []⟩ 8 (by kernel_rfl) (by kernel_rfl) (by kernel_rfl) (by kernel_rfl)) ?_
 intro W base args ds gs before hval hW hcnd hsz _
 exact law_post 12 [41, 41, 41] (by kernel_rfl) (tb := 4) (by kernel_rfl) (by kernel_rfl) rfl laidOut (by kernel_rfl) (by kernel_rfl)
  (fun ds h => match ds, h with | [a, b, c], _ => ⟨rfl, rfl, rfl⟩) hval hW hsz runAlike_con
theorem k0 : (Rows.runAlikeRow.wf (OpenSpec.ofChange Rows.runAlikeSpec)) = true := by kernel_rfl
theorem k3 : (Tryz.f12.params.all (Tryz.prog.readableRec ·)) = true := by kernel_rfl
theorem k4 : (namedTie Tryz.prog Rows.runAlikeRow.named Rows.runAlikeSpec.vars) = true := by kernel_rfl
theorem k5 : ((Rows.runAlikeRow.stops == [])) = true := by kernel_rfl
theorem k7 : ((Rows.runAlikeRow.knobs == [])) = true := by kernel_rfl
theorem k9 : ((Rows.runAlikeRow.inPlace == Tryz.prog.inPlace 12)) = true := by kernel_rfl
theorem k10 : ((Rows.runAlikeRow.unfollowed == Tryz.prog.unfollowed 12)) = true := by kernel_rfl
theorem k11 : ((Rows.runAlikeRow.recurses == Tryz.prog.recurses 12)) = true := by kernel_rfl
theorem k12 : ((Rows.runAlikeRow.named == Tryz.prog.varsNamed 12)) = true := by kernel_rfl
theorem k13 : ((Rows.runAlikeRow.maps == (Tryz.f12.params.toList ++ Rows.runAlikeSpec.plain.varTypes Tryz.prog).any (Tryz.prog.mapsRec ·))) = true := by kernel_rfl
theorem k14 : ((Rows.runAlikeRow.ifaces == (Tryz.f12.params.toList ++ Rows.runAlikeSpec.plain.varTypes Tryz.prog).any (Tryz.prog.ifacesRec ·))) = true := by kernel_rfl
theorem k15 : ((Rows.runAlikeRow.mapsOut == Tryz.prog.mapsAmong Tryz.f12.resultTypes.toList)) = true := by kernel_rfl
theorem k16 : ((Rows.runAlikeRow.loops == (Tryz.f12.params.toList ++ Rows.runAlikeSpec.plain.varTypes Tryz.prog).any (Tryz.prog.loopsFrom ·))) = true := by kernel_rfl
theorem k17 : ((Rows.runAlikeRow.wideKeys == (Tryz.f12.params.toList ++ Rows.runAlikeSpec.plain.varTypes Tryz.prog ++ Tryz.f12.resultTypes.toList).any (Tryz.prog.wideKeysFrom ·))) = true := by kernel_rfl
theorem k18 : (Rows.runAlikeSpec.vars.all (Tryz.prog.varReadable ·)) = true := by kernel_rfl
theorem k19 : (Tryz.f12.resultTypes.all (fun t => Tryz.prog.readableRec t && decide (t < Tryz.prog.types.size))) = true := by kernel_rfl
theorem k20 : ((Rows.runAlikeRow.ifacesOut == Tryz.f12.resultTypes.toList.any (Tryz.prog.ifacesRec ·))) = true := by kernel_rfl
theorem k21 : ((Rows.runAlikeRow.loopsOut == Tryz.f12.resultTypes.toList.any (Tryz.prog.loopsFrom ·))) = true := by kernel_rfl
theorem k22 : ((Rows.runAlikeRow.plainKeys == Tryz.prog.plainKeys)) = true := by kernel_rfl
theorem k23 : (Rows.runAlikeRow.shortTexts.isNone) = true := by kernel_rfl
theorem k26 : ((Rows.runAlikeRow.lifted == Tryz.prog.liftsFinal)) = true := by kernel_rfl
theorem k27 : ((Tryz.prog.make == some Rows.runAlikeRow.make)) = true := by kernel_rfl
theorem k28 : ((Rows.runAlikeRow.kinds == (if Rows.runAlikeRow.domain.isEmpty then [] else Tryz.f12.params.toList.map fun t => match Tryz.prog.underlying t with | some (.int k) => some k | _ => none))) = true := by kernel_rfl
theorem k29 : ((Rows.runAlikeRow.pinned == Rows.runAlikeRow.pinnedBy)) = true := by kernel_rfl
theorem k30 : ((Rows.runAlikeRow.veiled == (Tryz.f12.params.toList ++ Rows.runAlikeSpec.plain.varTypes Tryz.prog ++ Tryz.f12.resultTypes.toList).any (Tryz.prog.veiledRec ·))) = true := by kernel_rfl
theorem k31 : (Rows.runAlikeRow.veiledFits Tryz.prog Tryz.f12.params.toList (Tryz.f12.params.toList ++ Rows.runAlikeSpec.plain.varTypes Tryz.prog ++ Tryz.f12.resultTypes.toList)) = true := by kernel_rfl
set_option maxRecDepth 100000 in
theorem joined : joinedFacts Tryz.prog 12 Tryz.f12 Rows.runAlikeSpec Rows.runAlikeRow = true := and2 (and2 (and2 (and2 (and2 (and2 (and2 (and2 (and2 (and2 (and2 (and2 (and2 (and2 (and2 (and2 (and2 (and2 (and2 (and2 (and2 (and2 (and2 (and2 (and2 (and2 (and2 (and2 (and2 (and2 (and2 (k0) laidOut) pMaps) k3) k4) k5) pStops) k7) pKnobs) k9) k10) k11) k12) k13) k14) k15) k16) k17) k18) k19) k20) k21) k22) k23) pHeard) pEnter) k26) k27) k28) k29) k30) k31
theorem named : Tryz.prog.funcNamed Rows.runAlikeRow.func = some 12 := by kernel_rfl
theorem inst : Tryz.f12.isInstance Tryz.prog Rows.runAlikeRow.origin Rows.runAlikeRow.targs := of_decide_eq_true (by kernel_rfl)
theorem wrap : Tryz.f12.isWrapper Tryz.prog Rows.runAlikeRow.wrapper Rows.runAlikeRow.mainSum := by unfold Func.isWrapper; first | (rw [if_pos (by decide +kernel)]; kernel_rfl) | (rw [if_neg (by decide +kernel)]; exact ⟨rfl, rfl⟩)
theorem runAlike_holds : Rows.RunAlikeSaid :=
 OpenClaim.holds_of_wide 12 Tryz.f12 rfl rfl rfl rfl rfl rfl rfl ⟨rfl, rfl, rfl, rfl, rfl⟩ rfl rfl rfl rfl rfl named Tryz.func12 joined inst wrap
  (fun os started H enc _ => runAlike_lifted os started H enc)
#print axioms runAlike_holds
end Go.Proofs.YtgaifmhbijbfgaaGreat
