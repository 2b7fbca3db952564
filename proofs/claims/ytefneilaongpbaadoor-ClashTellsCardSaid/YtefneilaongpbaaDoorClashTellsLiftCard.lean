/-
  The card of ClashTells: the row's closed facts, each by itself, and the row's join.
-/
import Derived.Test.YtefneilaongpbaaDoorClashTellsLift
import Derived.Test.YtefneilaongpbaaDoorFront
set_option linter.unusedVariables false
set_option maxRecDepth 100000
namespace Go.Proofs.YtefneilaongpbaaDoor
open Go Go.Bd Go.RowKit Go.ChangeShapes Go.WideShapes Go.ChangeAt

theorem clashTells_k1 : (Rows.clashTellsRow.wf (OpenSpec.ofChange Rows.clashTellsSpec)) = true := by kernel_rfl
theorem clashTells_k2 : (laidOutB Tryd.prog) = true := prog_laidOut
theorem clashTells_k3 : (mapsRowed Tryd.prog) = true := prog_maps
theorem clashTells_k4 : (Tryd.f19.params.all (Tryd.prog.readableRec ·)) = true := by kernel_rfl
theorem clashTells_k5 : (namedTie Tryd.prog Rows.clashTellsRow.named Rows.clashTellsSpec.vars) = true := by kernel_rfl
theorem clashTells_k6 : ((Rows.clashTellsRow.stops == [])) = true := by kernel_rfl
theorem clashTells_k7 : ((Tryd.prog.stops == [])) = true := prog_stops
theorem clashTells_k8 : ((Rows.clashTellsRow.knobs == [])) = true := by kernel_rfl
theorem clashTells_k9 : ((Tryd.prog.stopKnobs == [])) = true := prog_knobs
theorem clashTells_k10 : ((Rows.clashTellsRow.inPlace == Tryd.prog.inPlace 19)) = true := by kernel_rfl
theorem clashTells_k11 : ((Rows.clashTellsRow.unfollowed == Tryd.prog.unfollowed 19)) = true := by kernel_rfl
theorem clashTells_k12 : ((Rows.clashTellsRow.recurses == Tryd.prog.recurses 19)) = true := by kernel_rfl
theorem clashTells_k13 : ((Rows.clashTellsRow.named == Tryd.prog.varsNamed 19)) = true := by kernel_rfl
theorem clashTells_k14 : ((Rows.clashTellsRow.maps == (Tryd.f19.params.toList ++ Rows.clashTellsSpec.plain.varTypes Tryd.prog).any (Tryd.prog.mapsRec ·))) = true := by kernel_rfl
theorem clashTells_k15 : ((Rows.clashTellsRow.ifaces == (Tryd.f19.params.toList ++ Rows.clashTellsSpec.plain.varTypes Tryd.prog).any (Tryd.prog.ifacesRec ·))) = true := by kernel_rfl
theorem clashTells_k16 : ((Rows.clashTellsRow.mapsOut == Tryd.prog.mapsAmong Tryd.f19.resultTypes.toList)) = true := by kernel_rfl
theorem clashTells_k17 : ((Rows.clashTellsRow.loops == (Tryd.f19.params.toList ++ Rows.clashTellsSpec.plain.varTypes Tryd.prog).any (Tryd.prog.loopsFrom ·))) = true := by kernel_rfl
theorem clashTells_k18 : ((Rows.clashTellsRow.wideKeys == (Tryd.f19.params.toList ++ Rows.clashTellsSpec.plain.varTypes Tryd.prog ++ Tryd.f19.resultTypes.toList).any (Tryd.prog.wideKeysFrom ·))) = true := by kernel_rfl
theorem clashTells_k19 : (Rows.clashTellsSpec.vars.all (Tryd.prog.varReadable ·)) = true := by kernel_rfl
theorem clashTells_k20 : (Tryd.f19.resultTypes.all (fun t => Tryd.prog.readableRec t && decide (t < Tryd.prog.types.size))) = true := by kernel_rfl
theorem clashTells_k21 : ((Rows.clashTellsRow.ifacesOut == Tryd.f19.resultTypes.toList.any (Tryd.prog.ifacesRec ·))) = true := by kernel_rfl
theorem clashTells_k22 : ((Rows.clashTellsRow.loopsOut == Tryd.f19.resultTypes.toList.any (Tryd.prog.loopsFrom ·))) = true := by kernel_rfl
theorem clashTells_k23 : ((Rows.clashTellsRow.plainKeys == Tryd.prog.plainKeys)) = true := by rw [prog_plainKeys]; kernel_rfl
theorem clashTells_k24 : (Rows.clashTellsRow.shortTexts.isNone) = true := by kernel_rfl
theorem clashTells_k25 : (Tryd.prog.stopsHeard) = true := prog_heard
theorem clashTells_k26 : (Tryd.prog.mayEnter) = true := start_enter
theorem clashTells_k27 : ((Rows.clashTellsRow.lifted == Tryd.prog.liftsFinal)) = true := by rw [start_final]; kernel_rfl
theorem clashTells_k28 : ((Tryd.prog.make == some Rows.clashTellsRow.make)) = true := by rw [start_make]; kernel_rfl
theorem clashTells_k29 : ((Rows.clashTellsRow.kinds == (if Rows.clashTellsRow.domain.isEmpty then [] else Tryd.f19.params.toList.map fun t => match Tryd.prog.underlying t with | some (.int k) => some k | _ => none))) = true := by kernel_rfl
theorem clashTells_k30 : ((Rows.clashTellsRow.pinned == Rows.clashTellsRow.pinnedBy)) = true := by kernel_rfl
theorem clashTells_k31 : ((Rows.clashTellsRow.veiled == (Tryd.f19.params.toList ++ Rows.clashTellsSpec.plain.varTypes Tryd.prog ++ Tryd.f19.resultTypes.toList).any (Tryd.prog.veiledRec ·))) = true := by kernel_rfl
theorem clashTells_k32 : (Rows.clashTellsRow.veiledFits Tryd.prog Tryd.f19.params.toList (Tryd.f19.params.toList ++ Rows.clashTellsSpec.plain.varTypes Tryd.prog ++ Tryd.f19.resultTypes.toList)) = true := by kernel_rfl
theorem clashTells_closed : joinedFacts Tryd.prog 19 Tryd.f19 Rows.clashTellsSpec Rows.clashTellsRow = true := by
  unfold joinedFacts
  simp only [Bool.and_eq_true]
  exact ⟨⟨⟨⟨⟨⟨⟨⟨⟨⟨⟨⟨⟨⟨⟨⟨⟨⟨⟨⟨⟨⟨⟨⟨⟨⟨⟨⟨⟨⟨⟨clashTells_k1, clashTells_k2⟩, clashTells_k3⟩, clashTells_k4⟩, clashTells_k5⟩, clashTells_k6⟩, clashTells_k7⟩, clashTells_k8⟩, clashTells_k9⟩, clashTells_k10⟩, clashTells_k11⟩, clashTells_k12⟩, clashTells_k13⟩, clashTells_k14⟩, clashTells_k15⟩, clashTells_k16⟩, clashTells_k17⟩, clashTells_k18⟩, clashTells_k19⟩, clashTells_k20⟩, clashTells_k21⟩, clashTells_k22⟩, clashTells_k23⟩, clashTells_k24⟩, clashTells_k25⟩, clashTells_k26⟩, clashTells_k27⟩, clashTells_k28⟩, clashTells_k29⟩, clashTells_k30⟩, clashTells_k31⟩, clashTells_k32⟩

theorem clashTells_named : Tryd.prog.funcNamed "beadroll/beadrolllaw09.ClashTells" = some 19 := by kernel_rfl
theorem clashTells_inst : Tryd.f19.isInstance Tryd.prog Rows.clashTellsRow.origin Rows.clashTellsRow.targs := of_decide_eq_true (by kernel_rfl)
theorem clashTells_wrap : Tryd.f19.isWrapper Tryd.prog Rows.clashTellsRow.wrapper Rows.clashTellsRow.mainSum := by
  unfold Func.isWrapper
  first | (rw [if_pos (by decide +kernel)]; exact start_main) | (rw [if_neg (by decide +kernel)]; exact ⟨rfl, rfl⟩)
theorem clashTells_holds : Rows.ClashTellsSaid :=
  OpenClaim.holds_of_wide 19 Tryd.f19 rfl rfl rfl rfl rfl rfl rfl ⟨rfl, rfl, rfl, rfl, rfl⟩ rfl rfl rfl rfl rfl clashTells_named Tryd.func19 clashTells_closed clashTells_inst clashTells_wrap
    (fun os started H enc _ => clashTells_lifted os started H enc)
theorem clashTells_text : Rows.clashTellsRow.wfByText (OpenSpec.ofChange Rows.clashTellsSpec) = true := by kernel_rfl
theorem clashTells_goes : false = Rows.clashTellsRow.goesBy Tryd.prog := by kernel_rfl
theorem clashTells_looks : false = Tryd.prog.looks [] := by kernel_rfl
theorem clashTells_proved : Rows.ClashTellsCardSaid :=
  Claim7.holds_tied_plain_at .later [] [.data] true (true, "1bb79c65fc6028ee2f60cf83e41a291b7d90db1594457a275564aeb75b0c78ef") false
    clashTells_holds (fun _ h => by cases h) clashTells_text (fun _ h => by cases h) clashTells_row_tie rfl ⟨rfl, rfl⟩ (start_main.trans (by kernel_rfl)) rfl
    (fun f fn hf hfn => by
      obtain rfl : f = 19 := Option.some.inj (clashTells_named.symm.trans hf) |>.symm
      obtain rfl : fn = Tryd.f19 := (Option.some.inj (Tryd.func19.symm.trans hfn)).symm
      refine ⟨clashTells_looks, fun j t ht => ?_⟩
      rw [Tryd.params19] at ht
      have h3 : ∀ t ∈ [52, 35, 35], Tryd.prog.wantsStandIn t = false := by decide +kernel
      exact h3 t (List.mem_of_getElem? (by simpa using ht)))
    clashTells_goes
#print axioms clashTells_proved
end Go.Proofs.YtefneilaongpbaaDoor
