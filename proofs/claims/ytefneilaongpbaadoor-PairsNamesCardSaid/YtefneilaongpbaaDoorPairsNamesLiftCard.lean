/-
  The card of PairsNames: the row's closed facts, each by itself, and the row's join.
-/
import Derived.Test.YtefneilaongpbaaDoorPairsNamesLift
import Derived.Test.YtefneilaongpbaaDoorFront
set_option linter.unusedVariables false
set_option maxRecDepth 100000
namespace Go.Proofs.YtefneilaongpbaaDoor
open Go Go.Bd Go.RowKit Go.ChangeShapes Go.WideShapes Go.ChangeAt

theorem pairsNames_k1 : (Rows.pairsNamesRow.wf (OpenSpec.ofChange Rows.pairsNamesSpec)) = true := by kernel_rfl
theorem pairsNames_k2 : (laidOutB Tryd.prog) = true := prog_laidOut
theorem pairsNames_k3 : (mapsRowed Tryd.prog) = true := prog_maps
theorem pairsNames_k4 : (Tryd.f14.params.all (Tryd.prog.readableRec ·)) = true := by kernel_rfl
theorem pairsNames_k5 : (namedTie Tryd.prog Rows.pairsNamesRow.named Rows.pairsNamesSpec.vars) = true := by kernel_rfl
theorem pairsNames_k6 : ((Rows.pairsNamesRow.stops == [])) = true := by kernel_rfl
theorem pairsNames_k7 : ((Tryd.prog.stops == [])) = true := prog_stops
theorem pairsNames_k8 : ((Rows.pairsNamesRow.knobs == [])) = true := by kernel_rfl
theorem pairsNames_k9 : ((Tryd.prog.stopKnobs == [])) = true := prog_knobs
theorem pairsNames_k10 : ((Rows.pairsNamesRow.inPlace == Tryd.prog.inPlace 14)) = true := by kernel_rfl
theorem pairsNames_k11 : ((Rows.pairsNamesRow.unfollowed == Tryd.prog.unfollowed 14)) = true := by kernel_rfl
theorem pairsNames_k12 : ((Rows.pairsNamesRow.recurses == Tryd.prog.recurses 14)) = true := by kernel_rfl
theorem pairsNames_k13 : ((Rows.pairsNamesRow.named == Tryd.prog.varsNamed 14)) = true := by kernel_rfl
theorem pairsNames_k14 : ((Rows.pairsNamesRow.maps == (Tryd.f14.params.toList ++ Rows.pairsNamesSpec.plain.varTypes Tryd.prog).any (Tryd.prog.mapsRec ·))) = true := by kernel_rfl
theorem pairsNames_k15 : ((Rows.pairsNamesRow.ifaces == (Tryd.f14.params.toList ++ Rows.pairsNamesSpec.plain.varTypes Tryd.prog).any (Tryd.prog.ifacesRec ·))) = true := by kernel_rfl
theorem pairsNames_k16 : ((Rows.pairsNamesRow.mapsOut == Tryd.prog.mapsAmong Tryd.f14.resultTypes.toList)) = true := by kernel_rfl
theorem pairsNames_k17 : ((Rows.pairsNamesRow.loops == (Tryd.f14.params.toList ++ Rows.pairsNamesSpec.plain.varTypes Tryd.prog).any (Tryd.prog.loopsFrom ·))) = true := by kernel_rfl
theorem pairsNames_k18 : ((Rows.pairsNamesRow.wideKeys == (Tryd.f14.params.toList ++ Rows.pairsNamesSpec.plain.varTypes Tryd.prog ++ Tryd.f14.resultTypes.toList).any (Tryd.prog.wideKeysFrom ·))) = true := by kernel_rfl
theorem pairsNames_k19 : (Rows.pairsNamesSpec.vars.all (Tryd.prog.varReadable ·)) = true := by kernel_rfl
theorem pairsNames_k20 : (Tryd.f14.resultTypes.all (fun t => Tryd.prog.readableRec t && decide (t < Tryd.prog.types.size))) = true := by kernel_rfl
theorem pairsNames_k21 : ((Rows.pairsNamesRow.ifacesOut == Tryd.f14.resultTypes.toList.any (Tryd.prog.ifacesRec ·))) = true := by kernel_rfl
theorem pairsNames_k22 : ((Rows.pairsNamesRow.loopsOut == Tryd.f14.resultTypes.toList.any (Tryd.prog.loopsFrom ·))) = true := by kernel_rfl
theorem pairsNames_k23 : ((Rows.pairsNamesRow.plainKeys == Tryd.prog.plainKeys)) = true := by rw [prog_plainKeys]; kernel_rfl
theorem pairsNames_k24 : (Rows.pairsNamesRow.shortTexts.isNone) = true := by kernel_rfl
theorem pairsNames_k25 : (Tryd.prog.stopsHeard) = true := prog_heard
theorem pairsNames_k26 : (Tryd.prog.mayEnter) = true := start_enter
theorem pairsNames_k27 : ((Rows.pairsNamesRow.lifted == Tryd.prog.liftsFinal)) = true := by rw [start_final]; kernel_rfl
theorem pairsNames_k28 : ((Tryd.prog.make == some Rows.pairsNamesRow.make)) = true := by rw [start_make]; kernel_rfl
theorem pairsNames_k29 : ((Rows.pairsNamesRow.kinds == (if Rows.pairsNamesRow.domain.isEmpty then [] else Tryd.f14.params.toList.map fun t => match Tryd.prog.underlying t with | some (.int k) => some k | _ => none))) = true := by kernel_rfl
theorem pairsNames_k30 : ((Rows.pairsNamesRow.pinned == Rows.pairsNamesRow.pinnedBy)) = true := by kernel_rfl
theorem pairsNames_k31 : ((Rows.pairsNamesRow.veiled == (Tryd.f14.params.toList ++ Rows.pairsNamesSpec.plain.varTypes Tryd.prog ++ Tryd.f14.resultTypes.toList).any (Tryd.prog.veiledRec ·))) = true := by kernel_rfl
theorem pairsNames_k32 : (Rows.pairsNamesRow.veiledFits Tryd.prog Tryd.f14.params.toList (Tryd.f14.params.toList ++ Rows.pairsNamesSpec.plain.varTypes Tryd.prog ++ Tryd.f14.resultTypes.toList)) = true := by kernel_rfl
theorem pairsNames_closed : joinedFacts Tryd.prog 14 Tryd.f14 Rows.pairsNamesSpec Rows.pairsNamesRow = true := by
  unfold joinedFacts
  simp only [Bool.and_eq_true]
  exact ⟨⟨⟨⟨⟨⟨⟨⟨⟨⟨⟨⟨⟨⟨⟨⟨⟨⟨⟨⟨⟨⟨⟨⟨⟨⟨⟨⟨⟨⟨⟨pairsNames_k1, pairsNames_k2⟩, pairsNames_k3⟩, pairsNames_k4⟩, pairsNames_k5⟩, pairsNames_k6⟩, pairsNames_k7⟩, pairsNames_k8⟩, pairsNames_k9⟩, pairsNames_k10⟩, pairsNames_k11⟩, pairsNames_k12⟩, pairsNames_k13⟩, pairsNames_k14⟩, pairsNames_k15⟩, pairsNames_k16⟩, pairsNames_k17⟩, pairsNames_k18⟩, pairsNames_k19⟩, pairsNames_k20⟩, pairsNames_k21⟩, pairsNames_k22⟩, pairsNames_k23⟩, pairsNames_k24⟩, pairsNames_k25⟩, pairsNames_k26⟩, pairsNames_k27⟩, pairsNames_k28⟩, pairsNames_k29⟩, pairsNames_k30⟩, pairsNames_k31⟩, pairsNames_k32⟩

theorem pairsNames_named : Tryd.prog.funcNamed "beadroll/beadrolllaw05.PairsNames" = some 14 := by kernel_rfl
theorem pairsNames_inst : Tryd.f14.isInstance Tryd.prog Rows.pairsNamesRow.origin Rows.pairsNamesRow.targs := of_decide_eq_true (by kernel_rfl)
theorem pairsNames_wrap : Tryd.f14.isWrapper Tryd.prog Rows.pairsNamesRow.wrapper Rows.pairsNamesRow.mainSum := by
  unfold Func.isWrapper
  first | (rw [if_pos (by decide +kernel)]; exact start_main) | (rw [if_neg (by decide +kernel)]; exact ⟨rfl, rfl⟩)
theorem pairsNames_holds : Rows.PairsNamesSaid :=
  OpenClaim.holds_of_wide 14 Tryd.f14 rfl rfl rfl rfl rfl rfl rfl ⟨rfl, rfl, rfl, rfl, rfl⟩ rfl rfl rfl rfl rfl pairsNames_named Tryd.func14 pairsNames_closed pairsNames_inst pairsNames_wrap
    (fun os started H enc _ => pairsNames_lifted os started H enc)
theorem pairsNames_text : Rows.pairsNamesRow.wfByText (OpenSpec.ofChange Rows.pairsNamesSpec) = true := by kernel_rfl
theorem pairsNames_goes : false = Rows.pairsNamesRow.goesBy Tryd.prog := by kernel_rfl
theorem pairsNames_looks : false = Tryd.prog.looks [] := by kernel_rfl
theorem pairsNames_proved : Rows.PairsNamesCardSaid :=
  Claim7.holds_tied_plain_at .later [] [.data] true (true, "1bb79c65fc6028ee2f60cf83e41a291b7d90db1594457a275564aeb75b0c78ef") false
    pairsNames_holds (fun _ h => by cases h) pairsNames_text (fun _ h => by cases h) pairsNames_row_tie rfl ⟨rfl, rfl⟩ (start_main.trans (by kernel_rfl)) rfl
    (fun f fn hf hfn => by
      obtain rfl : f = 14 := Option.some.inj (pairsNames_named.symm.trans hf) |>.symm
      obtain rfl : fn = Tryd.f14 := (Option.some.inj (Tryd.func14.symm.trans hfn)).symm
      refine ⟨pairsNames_looks, fun j t ht => ?_⟩
      rw [Tryd.params14] at ht
      exact absurd ht (by simp))
    pairsNames_goes
#print axioms pairsNames_proved
end Go.Proofs.YtefneilaongpbaaDoor
