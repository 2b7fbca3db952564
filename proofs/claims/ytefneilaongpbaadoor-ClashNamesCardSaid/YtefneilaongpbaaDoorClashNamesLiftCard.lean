/-
  The card of ClashNames: the row's closed facts, each by itself, and the row's join.
-/
import Derived.Test.YtefneilaongpbaaDoorClashNamesLift
import Derived.Test.YtefneilaongpbaaDoorFront
set_option linter.unusedVariables false
set_option maxRecDepth 100000
namespace Go.Proofs.YtefneilaongpbaaDoor
open Go Go.Bd Go.RowKit Go.ChangeShapes Go.WideShapes Go.ChangeAt

theorem clashNames_k1 : (Rows.clashNamesRow.wf (OpenSpec.ofChange Rows.clashNamesSpec)) = true := by kernel_rfl
theorem clashNames_k2 : (laidOutB Tryd.prog) = true := prog_laidOut
theorem clashNames_k3 : (mapsRowed Tryd.prog) = true := prog_maps
theorem clashNames_k4 : (Tryd.f21.params.all (Tryd.prog.readableRec ·)) = true := by kernel_rfl
theorem clashNames_k5 : (namedTie Tryd.prog Rows.clashNamesRow.named Rows.clashNamesSpec.vars) = true := by kernel_rfl
theorem clashNames_k6 : ((Rows.clashNamesRow.stops == [])) = true := by kernel_rfl
theorem clashNames_k7 : ((Tryd.prog.stops == [])) = true := prog_stops
theorem clashNames_k8 : ((Rows.clashNamesRow.knobs == [])) = true := by kernel_rfl
theorem clashNames_k9 : ((Tryd.prog.stopKnobs == [])) = true := prog_knobs
theorem clashNames_k10 : ((Rows.clashNamesRow.inPlace == Tryd.prog.inPlace 21)) = true := by kernel_rfl
theorem clashNames_k11 : ((Rows.clashNamesRow.unfollowed == Tryd.prog.unfollowed 21)) = true := by kernel_rfl
theorem clashNames_k12 : ((Rows.clashNamesRow.recurses == Tryd.prog.recurses 21)) = true := by kernel_rfl
theorem clashNames_k13 : ((Rows.clashNamesRow.named == Tryd.prog.varsNamed 21)) = true := by kernel_rfl
theorem clashNames_k14 : ((Rows.clashNamesRow.maps == (Tryd.f21.params.toList ++ Rows.clashNamesSpec.plain.varTypes Tryd.prog).any (Tryd.prog.mapsRec ·))) = true := by kernel_rfl
theorem clashNames_k15 : ((Rows.clashNamesRow.ifaces == (Tryd.f21.params.toList ++ Rows.clashNamesSpec.plain.varTypes Tryd.prog).any (Tryd.prog.ifacesRec ·))) = true := by kernel_rfl
theorem clashNames_k16 : ((Rows.clashNamesRow.mapsOut == Tryd.prog.mapsAmong Tryd.f21.resultTypes.toList)) = true := by kernel_rfl
theorem clashNames_k17 : ((Rows.clashNamesRow.loops == (Tryd.f21.params.toList ++ Rows.clashNamesSpec.plain.varTypes Tryd.prog).any (Tryd.prog.loopsFrom ·))) = true := by kernel_rfl
theorem clashNames_k18 : ((Rows.clashNamesRow.wideKeys == (Tryd.f21.params.toList ++ Rows.clashNamesSpec.plain.varTypes Tryd.prog ++ Tryd.f21.resultTypes.toList).any (Tryd.prog.wideKeysFrom ·))) = true := by kernel_rfl
theorem clashNames_k19 : (Rows.clashNamesSpec.vars.all (Tryd.prog.varReadable ·)) = true := by kernel_rfl
theorem clashNames_k20 : (Tryd.f21.resultTypes.all (fun t => Tryd.prog.readableRec t && decide (t < Tryd.prog.types.size))) = true := by kernel_rfl
theorem clashNames_k21 : ((Rows.clashNamesRow.ifacesOut == Tryd.f21.resultTypes.toList.any (Tryd.prog.ifacesRec ·))) = true := by kernel_rfl
theorem clashNames_k22 : ((Rows.clashNamesRow.loopsOut == Tryd.f21.resultTypes.toList.any (Tryd.prog.loopsFrom ·))) = true := by kernel_rfl
theorem clashNames_k23 : ((Rows.clashNamesRow.plainKeys == Tryd.prog.plainKeys)) = true := by rw [prog_plainKeys]; kernel_rfl
theorem clashNames_k24 : (Rows.clashNamesRow.shortTexts.isNone) = true := by kernel_rfl
theorem clashNames_k25 : (Tryd.prog.stopsHeard) = true := prog_heard
theorem clashNames_k26 : (Tryd.prog.mayEnter) = true := start_enter
theorem clashNames_k27 : ((Rows.clashNamesRow.lifted == Tryd.prog.liftsFinal)) = true := by rw [start_final]; kernel_rfl
theorem clashNames_k28 : ((Tryd.prog.make == some Rows.clashNamesRow.make)) = true := by rw [start_make]; kernel_rfl
theorem clashNames_k29 : ((Rows.clashNamesRow.kinds == (if Rows.clashNamesRow.domain.isEmpty then [] else Tryd.f21.params.toList.map fun t => match Tryd.prog.underlying t with | some (.int k) => some k | _ => none))) = true := by kernel_rfl
theorem clashNames_k30 : ((Rows.clashNamesRow.pinned == Rows.clashNamesRow.pinnedBy)) = true := by kernel_rfl
theorem clashNames_k31 : ((Rows.clashNamesRow.veiled == (Tryd.f21.params.toList ++ Rows.clashNamesSpec.plain.varTypes Tryd.prog ++ Tryd.f21.resultTypes.toList).any (Tryd.prog.veiledRec ·))) = true := by kernel_rfl
theorem clashNames_k32 : (Rows.clashNamesRow.veiledFits Tryd.prog Tryd.f21.params.toList (Tryd.f21.params.toList ++ Rows.clashNamesSpec.plain.varTypes Tryd.prog ++ Tryd.f21.resultTypes.toList)) = true := by kernel_rfl
theorem clashNames_closed : joinedFacts Tryd.prog 21 Tryd.f21 Rows.clashNamesSpec Rows.clashNamesRow = true := by
  unfold joinedFacts
  simp only [Bool.and_eq_true]
  exact ⟨⟨⟨⟨⟨⟨⟨⟨⟨⟨⟨⟨⟨⟨⟨⟨⟨⟨⟨⟨⟨⟨⟨⟨⟨⟨⟨⟨⟨⟨⟨clashNames_k1, clashNames_k2⟩, clashNames_k3⟩, clashNames_k4⟩, clashNames_k5⟩, clashNames_k6⟩, clashNames_k7⟩, clashNames_k8⟩, clashNames_k9⟩, clashNames_k10⟩, clashNames_k11⟩, clashNames_k12⟩, clashNames_k13⟩, clashNames_k14⟩, clashNames_k15⟩, clashNames_k16⟩, clashNames_k17⟩, clashNames_k18⟩, clashNames_k19⟩, clashNames_k20⟩, clashNames_k21⟩, clashNames_k22⟩, clashNames_k23⟩, clashNames_k24⟩, clashNames_k25⟩, clashNames_k26⟩, clashNames_k27⟩, clashNames_k28⟩, clashNames_k29⟩, clashNames_k30⟩, clashNames_k31⟩, clashNames_k32⟩

theorem clashNames_named : Tryd.prog.funcNamed "beadroll/beadrolllaw09.ClashNames" = some 21 := by kernel_rfl
theorem clashNames_inst : Tryd.f21.isInstance Tryd.prog Rows.clashNamesRow.origin Rows.clashNamesRow.targs := of_decide_eq_true (by kernel_rfl)
theorem clashNames_wrap : Tryd.f21.isWrapper Tryd.prog Rows.clashNamesRow.wrapper Rows.clashNamesRow.mainSum := by
  unfold Func.isWrapper
  first | (rw [if_pos (by decide +kernel)]; exact start_main) | (rw [if_neg (by decide +kernel)]; exact ⟨rfl, rfl⟩)
theorem clashNames_holds : Rows.ClashNamesSaid :=
  OpenClaim.holds_of_wide 21 Tryd.f21 rfl rfl rfl rfl rfl rfl rfl ⟨rfl, rfl, rfl, rfl, rfl⟩ rfl rfl rfl rfl rfl clashNames_named Tryd.func21 clashNames_closed clashNames_inst clashNames_wrap
    (fun os started H enc _ => clashNames_lifted os started H enc)
theorem clashNames_text : Rows.clashNamesRow.wfByText (OpenSpec.ofChange Rows.clashNamesSpec) = true := by kernel_rfl
theorem clashNames_goes : false = Rows.clashNamesRow.goesBy Tryd.prog := by kernel_rfl
theorem clashNames_looks : false = Tryd.prog.looks [] := by kernel_rfl
theorem clashNames_proved : Rows.ClashNamesCardSaid :=
  Claim7.holds_tied_plain_at .later [] [.data] true (true, "1bb79c65fc6028ee2f60cf83e41a291b7d90db1594457a275564aeb75b0c78ef") false
    clashNames_holds (fun _ h => by cases h) clashNames_text (fun _ h => by cases h) clashNames_row_tie rfl ⟨rfl, rfl⟩ (start_main.trans (by kernel_rfl)) rfl
    (fun f fn hf hfn => by
      obtain rfl : f = 21 := Option.some.inj (clashNames_named.symm.trans hf) |>.symm
      obtain rfl : fn = Tryd.f21 := (Option.some.inj (Tryd.func21.symm.trans hfn)).symm
      refine ⟨clashNames_looks, fun j t ht => ?_⟩
      rw [Tryd.params21] at ht
      exact absurd ht (by simp))
    clashNames_goes
#print axioms clashNames_proved
end Go.Proofs.YtefneilaongpbaaDoor
