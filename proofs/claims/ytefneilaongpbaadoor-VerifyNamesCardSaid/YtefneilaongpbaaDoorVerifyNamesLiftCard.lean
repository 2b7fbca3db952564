/-
  The card of VerifyNames: the row's closed facts, each by itself, and the row's join.
-/
import Derived.Test.YtefneilaongpbaaDoorVerifyNamesLift
import Derived.Test.YtefneilaongpbaaDoorFront
set_option linter.unusedVariables false
set_option maxRecDepth 100000
namespace Go.Proofs.YtefneilaongpbaaDoor
open Go Go.Bd Go.RowKit Go.ChangeShapes Go.WideShapes Go.ChangeAt

theorem verifyNames_k1 : (Rows.verifyNamesRow.wf (OpenSpec.ofChange Rows.verifyNamesSpec)) = true := by kernel_rfl
theorem verifyNames_k2 : (laidOutB Tryd.prog) = true := prog_laidOut
theorem verifyNames_k3 : (mapsRowed Tryd.prog) = true := prog_maps
theorem verifyNames_k4 : (Tryd.f5.params.all (Tryd.prog.readableRec ·)) = true := by kernel_rfl
theorem verifyNames_k5 : (namedTie Tryd.prog Rows.verifyNamesRow.named Rows.verifyNamesSpec.vars) = true := by kernel_rfl
theorem verifyNames_k6 : ((Rows.verifyNamesRow.stops == [])) = true := by kernel_rfl
theorem verifyNames_k7 : ((Tryd.prog.stops == [])) = true := prog_stops
theorem verifyNames_k8 : ((Rows.verifyNamesRow.knobs == [])) = true := by kernel_rfl
theorem verifyNames_k9 : ((Tryd.prog.stopKnobs == [])) = true := prog_knobs
theorem verifyNames_k10 : ((Rows.verifyNamesRow.inPlace == Tryd.prog.inPlace 5)) = true := by kernel_rfl
theorem verifyNames_k11 : ((Rows.verifyNamesRow.unfollowed == Tryd.prog.unfollowed 5)) = true := by kernel_rfl
theorem verifyNames_k12 : ((Rows.verifyNamesRow.recurses == Tryd.prog.recurses 5)) = true := by kernel_rfl
theorem verifyNames_k13 : ((Rows.verifyNamesRow.named == Tryd.prog.varsNamed 5)) = true := by kernel_rfl
theorem verifyNames_k14 : ((Rows.verifyNamesRow.maps == (Tryd.f5.params.toList ++ Rows.verifyNamesSpec.plain.varTypes Tryd.prog).any (Tryd.prog.mapsRec ·))) = true := by kernel_rfl
theorem verifyNames_k15 : ((Rows.verifyNamesRow.ifaces == (Tryd.f5.params.toList ++ Rows.verifyNamesSpec.plain.varTypes Tryd.prog).any (Tryd.prog.ifacesRec ·))) = true := by kernel_rfl
theorem verifyNames_k16 : ((Rows.verifyNamesRow.mapsOut == Tryd.prog.mapsAmong Tryd.f5.resultTypes.toList)) = true := by kernel_rfl
theorem verifyNames_k17 : ((Rows.verifyNamesRow.loops == (Tryd.f5.params.toList ++ Rows.verifyNamesSpec.plain.varTypes Tryd.prog).any (Tryd.prog.loopsFrom ·))) = true := by kernel_rfl
theorem verifyNames_k18 : ((Rows.verifyNamesRow.wideKeys == (Tryd.f5.params.toList ++ Rows.verifyNamesSpec.plain.varTypes Tryd.prog ++ Tryd.f5.resultTypes.toList).any (Tryd.prog.wideKeysFrom ·))) = true := by kernel_rfl
theorem verifyNames_k19 : (Rows.verifyNamesSpec.vars.all (Tryd.prog.varReadable ·)) = true := by kernel_rfl
theorem verifyNames_k20 : (Tryd.f5.resultTypes.all (fun t => Tryd.prog.readableRec t && decide (t < Tryd.prog.types.size))) = true := by kernel_rfl
theorem verifyNames_k21 : ((Rows.verifyNamesRow.ifacesOut == Tryd.f5.resultTypes.toList.any (Tryd.prog.ifacesRec ·))) = true := by kernel_rfl
theorem verifyNames_k22 : ((Rows.verifyNamesRow.loopsOut == Tryd.f5.resultTypes.toList.any (Tryd.prog.loopsFrom ·))) = true := by kernel_rfl
theorem verifyNames_k23 : ((Rows.verifyNamesRow.plainKeys == Tryd.prog.plainKeys)) = true := by rw [prog_plainKeys]; kernel_rfl
theorem verifyNames_k24 : (Rows.verifyNamesRow.shortTexts.isNone) = true := by kernel_rfl
theorem verifyNames_k25 : (Tryd.prog.stopsHeard) = true := prog_heard
theorem verifyNames_k26 : (Tryd.prog.mayEnter) = true := start_enter
theorem verifyNames_k27 : ((Rows.verifyNamesRow.lifted == Tryd.prog.liftsFinal)) = true := by rw [start_final]; kernel_rfl
theorem verifyNames_k28 : ((Tryd.prog.make == some Rows.verifyNamesRow.make)) = true := by rw [start_make]; kernel_rfl
theorem verifyNames_k29 : ((Rows.verifyNamesRow.kinds == (if Rows.verifyNamesRow.domain.isEmpty then [] else Tryd.f5.params.toList.map fun t => match Tryd.prog.underlying t with | some (.int k) => some k | _ => none))) = true := by kernel_rfl
theorem verifyNames_k30 : ((Rows.verifyNamesRow.pinned == Rows.verifyNamesRow.pinnedBy)) = true := by kernel_rfl
theorem verifyNames_k31 : ((Rows.verifyNamesRow.veiled == (Tryd.f5.params.toList ++ Rows.verifyNamesSpec.plain.varTypes Tryd.prog ++ Tryd.f5.resultTypes.toList).any (Tryd.prog.veiledRec ·))) = true := by kernel_rfl
theorem verifyNames_k32 : (Rows.verifyNamesRow.veiledFits Tryd.prog Tryd.f5.params.toList (Tryd.f5.params.toList ++ Rows.verifyNamesSpec.plain.varTypes Tryd.prog ++ Tryd.f5.resultTypes.toList)) = true := by kernel_rfl
theorem verifyNames_closed : joinedFacts Tryd.prog 5 Tryd.f5 Rows.verifyNamesSpec Rows.verifyNamesRow = true := by
  unfold joinedFacts
  simp only [Bool.and_eq_true]
  exact ⟨⟨⟨⟨⟨⟨⟨⟨⟨⟨⟨⟨⟨⟨⟨⟨⟨⟨⟨⟨⟨⟨⟨⟨⟨⟨⟨⟨⟨⟨⟨verifyNames_k1, verifyNames_k2⟩, verifyNames_k3⟩, verifyNames_k4⟩, verifyNames_k5⟩, verifyNames_k6⟩, verifyNames_k7⟩, verifyNames_k8⟩, verifyNames_k9⟩, verifyNames_k10⟩, verifyNames_k11⟩, verifyNames_k12⟩, verifyNames_k13⟩, verifyNames_k14⟩, verifyNames_k15⟩, verifyNames_k16⟩, verifyNames_k17⟩, verifyNames_k18⟩, verifyNames_k19⟩, verifyNames_k20⟩, verifyNames_k21⟩, verifyNames_k22⟩, verifyNames_k23⟩, verifyNames_k24⟩, verifyNames_k25⟩, verifyNames_k26⟩, verifyNames_k27⟩, verifyNames_k28⟩, verifyNames_k29⟩, verifyNames_k30⟩, verifyNames_k31⟩, verifyNames_k32⟩

theorem verifyNames_named : Tryd.prog.funcNamed "beadroll/beadrolllaw08.VerifyNames" = some 5 := by kernel_rfl
theorem verifyNames_inst : Tryd.f5.isInstance Tryd.prog Rows.verifyNamesRow.origin Rows.verifyNamesRow.targs := of_decide_eq_true (by kernel_rfl)
theorem verifyNames_wrap : Tryd.f5.isWrapper Tryd.prog Rows.verifyNamesRow.wrapper Rows.verifyNamesRow.mainSum := by
  unfold Func.isWrapper
  first | (rw [if_pos (by decide +kernel)]; exact start_main) | (rw [if_neg (by decide +kernel)]; exact ⟨rfl, rfl⟩)
theorem verifyNames_holds : Rows.VerifyNamesSaid :=
  OpenClaim.holds_of_wide 5 Tryd.f5 rfl rfl rfl rfl rfl rfl rfl ⟨rfl, rfl, rfl, rfl, rfl⟩ rfl rfl rfl rfl rfl verifyNames_named Tryd.func5 verifyNames_closed verifyNames_inst verifyNames_wrap
    (fun os started H enc _ => verifyNames_lifted os started H enc)
theorem verifyNames_text : Rows.verifyNamesRow.wfByText (OpenSpec.ofChange Rows.verifyNamesSpec) = true := by kernel_rfl
theorem verifyNames_goes : false = Rows.verifyNamesRow.goesBy Tryd.prog := by kernel_rfl
theorem verifyNames_looks : false = Tryd.prog.looks [] := by kernel_rfl
theorem verifyNames_proved : Rows.VerifyNamesCardSaid :=
  Claim7.holds_tied_plain_at .later [] [.data] true (true, "1bb79c65fc6028ee2f60cf83e41a291b7d90db1594457a275564aeb75b0c78ef") false
    verifyNames_holds (fun _ h => by cases h) verifyNames_text (fun _ h => by cases h) verifyNames_row_tie rfl ⟨rfl, rfl⟩ (start_main.trans (by kernel_rfl)) rfl
    (fun f fn hf hfn => by
      obtain rfl : f = 5 := Option.some.inj (verifyNames_named.symm.trans hf) |>.symm
      obtain rfl : fn = Tryd.f5 := (Option.some.inj (Tryd.func5.symm.trans hfn)).symm
      refine ⟨verifyNames_looks, fun j t ht => ?_⟩
      rw [Tryd.params5] at ht
      exact absurd ht (by simp))
    verifyNames_goes
#print axioms verifyNames_proved
end Go.Proofs.YtefneilaongpbaaDoor
