/-
  The card of VerifyTells: the row's closed facts, each by itself, and the row's join.
-/
import Derived.Test.YtefneilaongpbaaDoorVerifyTellsLift
import Derived.Test.YtefneilaongpbaaDoorFront
set_option linter.unusedVariables false
set_option maxRecDepth 100000
namespace Go.Proofs.YtefneilaongpbaaDoor
open Go Go.Bd Go.RowKit Go.ChangeShapes Go.WideShapes Go.ChangeAt

theorem verifyTells_k1 : (Rows.verifyTellsRow.wf (OpenSpec.ofChange Rows.verifyTellsSpec)) = true := by kernel_rfl
theorem verifyTells_k2 : (laidOutB Tryd.prog) = true := prog_laidOut
theorem verifyTells_k3 : (mapsRowed Tryd.prog) = true := prog_maps
theorem verifyTells_k4 : (Tryd.f4.params.all (Tryd.prog.readableRec ·)) = true := by kernel_rfl
theorem verifyTells_k5 : (namedTie Tryd.prog Rows.verifyTellsRow.named Rows.verifyTellsSpec.vars) = true := by kernel_rfl
theorem verifyTells_k6 : ((Rows.verifyTellsRow.stops == [])) = true := by kernel_rfl
theorem verifyTells_k7 : ((Tryd.prog.stops == [])) = true := prog_stops
theorem verifyTells_k8 : ((Rows.verifyTellsRow.knobs == [])) = true := by kernel_rfl
theorem verifyTells_k9 : ((Tryd.prog.stopKnobs == [])) = true := prog_knobs
theorem verifyTells_k10 : ((Rows.verifyTellsRow.inPlace == Tryd.prog.inPlace 4)) = true := by kernel_rfl
theorem verifyTells_k11 : ((Rows.verifyTellsRow.unfollowed == Tryd.prog.unfollowed 4)) = true := by kernel_rfl
theorem verifyTells_k12 : ((Rows.verifyTellsRow.recurses == Tryd.prog.recurses 4)) = true := by kernel_rfl
theorem verifyTells_k13 : ((Rows.verifyTellsRow.named == Tryd.prog.varsNamed 4)) = true := by kernel_rfl
theorem verifyTells_k14 : ((Rows.verifyTellsRow.maps == (Tryd.f4.params.toList ++ Rows.verifyTellsSpec.plain.varTypes Tryd.prog).any (Tryd.prog.mapsRec ·))) = true := by kernel_rfl
theorem verifyTells_k15 : ((Rows.verifyTellsRow.ifaces == (Tryd.f4.params.toList ++ Rows.verifyTellsSpec.plain.varTypes Tryd.prog).any (Tryd.prog.ifacesRec ·))) = true := by kernel_rfl
theorem verifyTells_k16 : ((Rows.verifyTellsRow.mapsOut == Tryd.prog.mapsAmong Tryd.f4.resultTypes.toList)) = true := by kernel_rfl
theorem verifyTells_k17 : ((Rows.verifyTellsRow.loops == (Tryd.f4.params.toList ++ Rows.verifyTellsSpec.plain.varTypes Tryd.prog).any (Tryd.prog.loopsFrom ·))) = true := by kernel_rfl
theorem verifyTells_k18 : ((Rows.verifyTellsRow.wideKeys == (Tryd.f4.params.toList ++ Rows.verifyTellsSpec.plain.varTypes Tryd.prog ++ Tryd.f4.resultTypes.toList).any (Tryd.prog.wideKeysFrom ·))) = true := by kernel_rfl
theorem verifyTells_k19 : (Rows.verifyTellsSpec.vars.all (Tryd.prog.varReadable ·)) = true := by kernel_rfl
theorem verifyTells_k20 : (Tryd.f4.resultTypes.all (fun t => Tryd.prog.readableRec t && decide (t < Tryd.prog.types.size))) = true := by kernel_rfl
theorem verifyTells_k21 : ((Rows.verifyTellsRow.ifacesOut == Tryd.f4.resultTypes.toList.any (Tryd.prog.ifacesRec ·))) = true := by kernel_rfl
theorem verifyTells_k22 : ((Rows.verifyTellsRow.loopsOut == Tryd.f4.resultTypes.toList.any (Tryd.prog.loopsFrom ·))) = true := by kernel_rfl
theorem verifyTells_k23 : ((Rows.verifyTellsRow.plainKeys == Tryd.prog.plainKeys)) = true := by rw [prog_plainKeys]; kernel_rfl
theorem verifyTells_k24 : (Rows.verifyTellsRow.shortTexts.isNone) = true := by kernel_rfl
theorem verifyTells_k25 : (Tryd.prog.stopsHeard) = true := prog_heard
theorem verifyTells_k26 : (Tryd.prog.mayEnter) = true := start_enter
theorem verifyTells_k27 : ((Rows.verifyTellsRow.lifted == Tryd.prog.liftsFinal)) = true := by rw [start_final]; kernel_rfl
theorem verifyTells_k28 : ((Tryd.prog.make == some Rows.verifyTellsRow.make)) = true := by rw [start_make]; kernel_rfl
theorem verifyTells_k29 : ((Rows.verifyTellsRow.kinds == (if Rows.verifyTellsRow.domain.isEmpty then [] else Tryd.f4.params.toList.map fun t => match Tryd.prog.underlying t with | some (.int k) => some k | _ => none))) = true := by kernel_rfl
theorem verifyTells_k30 : ((Rows.verifyTellsRow.pinned == Rows.verifyTellsRow.pinnedBy)) = true := by kernel_rfl
theorem verifyTells_k31 : ((Rows.verifyTellsRow.veiled == (Tryd.f4.params.toList ++ Rows.verifyTellsSpec.plain.varTypes Tryd.prog ++ Tryd.f4.resultTypes.toList).any (Tryd.prog.veiledRec ·))) = true := by kernel_rfl
theorem verifyTells_k32 : (Rows.verifyTellsRow.veiledFits Tryd.prog Tryd.f4.params.toList (Tryd.f4.params.toList ++ Rows.verifyTellsSpec.plain.varTypes Tryd.prog ++ Tryd.f4.resultTypes.toList)) = true := by kernel_rfl
theorem verifyTells_closed : joinedFacts Tryd.prog 4 Tryd.f4 Rows.verifyTellsSpec Rows.verifyTellsRow = true := by
  unfold joinedFacts
  simp only [Bool.and_eq_true]
  exact ⟨⟨⟨⟨⟨⟨⟨⟨⟨⟨⟨⟨⟨⟨⟨⟨⟨⟨⟨⟨⟨⟨⟨⟨⟨⟨⟨⟨⟨⟨⟨verifyTells_k1, verifyTells_k2⟩, verifyTells_k3⟩, verifyTells_k4⟩, verifyTells_k5⟩, verifyTells_k6⟩, verifyTells_k7⟩, verifyTells_k8⟩, verifyTells_k9⟩, verifyTells_k10⟩, verifyTells_k11⟩, verifyTells_k12⟩, verifyTells_k13⟩, verifyTells_k14⟩, verifyTells_k15⟩, verifyTells_k16⟩, verifyTells_k17⟩, verifyTells_k18⟩, verifyTells_k19⟩, verifyTells_k20⟩, verifyTells_k21⟩, verifyTells_k22⟩, verifyTells_k23⟩, verifyTells_k24⟩, verifyTells_k25⟩, verifyTells_k26⟩, verifyTells_k27⟩, verifyTells_k28⟩, verifyTells_k29⟩, verifyTells_k30⟩, verifyTells_k31⟩, verifyTells_k32⟩

theorem verifyTells_named : Tryd.prog.funcNamed "beadroll/beadrolllaw08.VerifyTells" = some 4 := by kernel_rfl
theorem verifyTells_inst : Tryd.f4.isInstance Tryd.prog Rows.verifyTellsRow.origin Rows.verifyTellsRow.targs := of_decide_eq_true (by kernel_rfl)
theorem verifyTells_wrap : Tryd.f4.isWrapper Tryd.prog Rows.verifyTellsRow.wrapper Rows.verifyTellsRow.mainSum := by
  unfold Func.isWrapper
  first | (rw [if_pos (by decide +kernel)]; exact start_main) | (rw [if_neg (by decide +kernel)]; exact ⟨rfl, rfl⟩)
theorem verifyTells_holds : Rows.VerifyTellsSaid :=
  OpenClaim.holds_of_wide 4 Tryd.f4 rfl rfl rfl rfl rfl rfl rfl ⟨rfl, rfl, rfl, rfl, rfl⟩ rfl rfl rfl rfl rfl verifyTells_named Tryd.func4 verifyTells_closed verifyTells_inst verifyTells_wrap
    (fun os started H enc _ => verifyTells_lifted os started H enc)
theorem verifyTells_text : Rows.verifyTellsRow.wfByText (OpenSpec.ofChange Rows.verifyTellsSpec) = true := by kernel_rfl
theorem verifyTells_goes : false = Rows.verifyTellsRow.goesBy Tryd.prog := by kernel_rfl
theorem verifyTells_looks : false = Tryd.prog.looks [] := by kernel_rfl
theorem verifyTells_proved : Rows.VerifyTellsCardSaid :=
  Claim7.holds_tied_plain_at .later [] [.data] true (true, "1bb79c65fc6028ee2f60cf83e41a291b7d90db1594457a275564aeb75b0c78ef") false
    verifyTells_holds (fun _ h => by cases h) verifyTells_text (fun _ h => by cases h) verifyTells_row_tie rfl ⟨rfl, rfl⟩ (start_main.trans (by kernel_rfl)) rfl
    (fun f fn hf hfn => by
      obtain rfl : f = 4 := Option.some.inj (verifyTells_named.symm.trans hf) |>.symm
      obtain rfl : fn = Tryd.f4 := (Option.some.inj (Tryd.func4.symm.trans hfn)).symm
      refine ⟨verifyTells_looks, fun j t ht => ?_⟩
      rw [Tryd.params4] at ht
      have h3 : ∀ t ∈ [35, 25], Tryd.prog.wantsStandIn t = false := by decide +kernel
      exact h3 t (List.mem_of_getElem? (by simpa using ht)))
    verifyTells_goes
#print axioms verifyTells_proved
end Go.Proofs.YtefneilaongpbaaDoor
