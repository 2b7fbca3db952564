/-
  The card of ClashShows: the row's closed facts, each by itself, and the row's join.
-/
import Derived.Test.YtefneilaongpbaaDoorClashShowsLift
import Derived.Test.YtefneilaongpbaaDoorFront
set_option linter.unusedVariables false
set_option maxRecDepth 100000
namespace Go.Proofs.YtefneilaongpbaaDoor
open Go Go.Bd Go.RowKit Go.ChangeShapes Go.WideShapes Go.ChangeAt

theorem clashShows_k1 : (Rows.clashShowsRow.wf (OpenSpec.ofChange Rows.clashShowsSpec)) = true := by kernel_rfl
theorem clashShows_k2 : (laidOutB Tryd.prog) = true := prog_laidOut
theorem clashShows_k3 : (mapsRowed Tryd.prog) = true := prog_maps
theorem clashShows_k4 : (Tryd.f20.params.all (Tryd.prog.readableRec ·)) = true := by kernel_rfl
theorem clashShows_k5 : (namedTie Tryd.prog Rows.clashShowsRow.named Rows.clashShowsSpec.vars) = true := by kernel_rfl
theorem clashShows_k6 : ((Rows.clashShowsRow.stops == [])) = true := by kernel_rfl
theorem clashShows_k7 : ((Tryd.prog.stops == [])) = true := prog_stops
theorem clashShows_k8 : ((Rows.clashShowsRow.knobs == [])) = true := by kernel_rfl
theorem clashShows_k9 : ((Tryd.prog.stopKnobs == [])) = true := prog_knobs
theorem clashShows_k10 : ((Rows.clashShowsRow.inPlace == Tryd.prog.inPlace 20)) = true := by kernel_rfl
theorem clashShows_k11 : ((Rows.clashShowsRow.unfollowed == Tryd.prog.unfollowed 20)) = true := by kernel_rfl
theorem clashShows_k12 : ((Rows.clashShowsRow.recurses == Tryd.prog.recurses 20)) = true := by kernel_rfl
theorem clashShows_k13 : ((Rows.clashShowsRow.named == Tryd.prog.varsNamed 20)) = true := by kernel_rfl
theorem clashShows_k14 : ((Rows.clashShowsRow.maps == (Tryd.f20.params.toList ++ Rows.clashShowsSpec.plain.varTypes Tryd.prog).any (Tryd.prog.mapsRec ·))) = true := by kernel_rfl
theorem clashShows_k15 : ((Rows.clashShowsRow.ifaces == (Tryd.f20.params.toList ++ Rows.clashShowsSpec.plain.varTypes Tryd.prog).any (Tryd.prog.ifacesRec ·))) = true := by kernel_rfl
theorem clashShows_k16 : ((Rows.clashShowsRow.mapsOut == Tryd.prog.mapsAmong Tryd.f20.resultTypes.toList)) = true := by kernel_rfl
theorem clashShows_k17 : ((Rows.clashShowsRow.loops == (Tryd.f20.params.toList ++ Rows.clashShowsSpec.plain.varTypes Tryd.prog).any (Tryd.prog.loopsFrom ·))) = true := by kernel_rfl
theorem clashShows_k18 : ((Rows.clashShowsRow.wideKeys == (Tryd.f20.params.toList ++ Rows.clashShowsSpec.plain.varTypes Tryd.prog ++ Tryd.f20.resultTypes.toList).any (Tryd.prog.wideKeysFrom ·))) = true := by kernel_rfl
theorem clashShows_k19 : (Rows.clashShowsSpec.vars.all (Tryd.prog.varReadable ·)) = true := by kernel_rfl
theorem clashShows_k20 : (Tryd.f20.resultTypes.all (fun t => Tryd.prog.readableRec t && decide (t < Tryd.prog.types.size))) = true := by kernel_rfl
theorem clashShows_k21 : ((Rows.clashShowsRow.ifacesOut == Tryd.f20.resultTypes.toList.any (Tryd.prog.ifacesRec ·))) = true := by kernel_rfl
theorem clashShows_k22 : ((Rows.clashShowsRow.loopsOut == Tryd.f20.resultTypes.toList.any (Tryd.prog.loopsFrom ·))) = true := by kernel_rfl
theorem clashShows_k23 : ((Rows.clashShowsRow.plainKeys == Tryd.prog.plainKeys)) = true := by rw [prog_plainKeys]; kernel_rfl
theorem clashShows_k24 : (Rows.clashShowsRow.shortTexts.isNone) = true := by kernel_rfl
theorem clashShows_k25 : (Tryd.prog.stopsHeard) = true := prog_heard
theorem clashShows_k26 : (Tryd.prog.mayEnter) = true := start_enter
theorem clashShows_k27 : ((Rows.clashShowsRow.lifted == Tryd.prog.liftsFinal)) = true := by rw [start_final]; kernel_rfl
theorem clashShows_k28 : ((Tryd.prog.make == some Rows.clashShowsRow.make)) = true := by rw [start_make]; kernel_rfl
theorem clashShows_k29 : ((Rows.clashShowsRow.kinds == (if Rows.clashShowsRow.domain.isEmpty then [] else Tryd.f20.params.toList.map fun t => match Tryd.prog.underlying t with | some (.int k) => some k | _ => none))) = true := by kernel_rfl
theorem clashShows_k30 : ((Rows.clashShowsRow.pinned == Rows.clashShowsRow.pinnedBy)) = true := by kernel_rfl
theorem clashShows_k31 : ((Rows.clashShowsRow.veiled == (Tryd.f20.params.toList ++ Rows.clashShowsSpec.plain.varTypes Tryd.prog ++ Tryd.f20.resultTypes.toList).any (Tryd.prog.veiledRec ·))) = true := by kernel_rfl
theorem clashShows_k32 : (Rows.clashShowsRow.veiledFits Tryd.prog Tryd.f20.params.toList (Tryd.f20.params.toList ++ Rows.clashShowsSpec.plain.varTypes Tryd.prog ++ Tryd.f20.resultTypes.toList)) = true := by kernel_rfl
theorem clashShows_closed : joinedFacts Tryd.prog 20 Tryd.f20 Rows.clashShowsSpec Rows.clashShowsRow = true := by
  unfold joinedFacts
  simp only [Bool.and_eq_true]
  exact ⟨⟨⟨⟨⟨⟨⟨⟨⟨⟨⟨⟨⟨⟨⟨⟨⟨⟨⟨⟨⟨⟨⟨⟨⟨⟨⟨⟨⟨⟨⟨clashShows_k1, clashShows_k2⟩, clashShows_k3⟩, clashShows_k4⟩, clashShows_k5⟩, clashShows_k6⟩, clashShows_k7⟩, clashShows_k8⟩, clashShows_k9⟩, clashShows_k10⟩, clashShows_k11⟩, clashShows_k12⟩, clashShows_k13⟩, clashShows_k14⟩, clashShows_k15⟩, clashShows_k16⟩, clashShows_k17⟩, clashShows_k18⟩, clashShows_k19⟩, clashShows_k20⟩, clashShows_k21⟩, clashShows_k22⟩, clashShows_k23⟩, clashShows_k24⟩, clashShows_k25⟩, clashShows_k26⟩, clashShows_k27⟩, clashShows_k28⟩, clashShows_k29⟩, clashShows_k30⟩, clashShows_k31⟩, clashShows_k32⟩

theorem clashShows_named : Tryd.prog.funcNamed "beadroll/beadrolllaw09.ClashShows" = some 20 := by kernel_rfl
theorem clashShows_inst : Tryd.f20.isInstance Tryd.prog Rows.clashShowsRow.origin Rows.clashShowsRow.targs := of_decide_eq_true (by kernel_rfl)
theorem clashShows_wrap : Tryd.f20.isWrapper Tryd.prog Rows.clashShowsRow.wrapper Rows.clashShowsRow.mainSum := by
  unfold Func.isWrapper
  first | (rw [if_pos (by decide +kernel)]; exact start_main) | (rw [if_neg (by decide +kernel)]; exact ⟨rfl, rfl⟩)
theorem clashShows_holds : Rows.ClashShowsSaid :=
  OpenClaim.holds_of_wide 20 Tryd.f20 rfl rfl rfl rfl rfl rfl rfl ⟨rfl, rfl, rfl, rfl, rfl⟩ rfl rfl rfl rfl rfl clashShows_named Tryd.func20 clashShows_closed clashShows_inst clashShows_wrap
    (fun os started H enc _ => clashShows_lifted os started H enc)
theorem clashShows_text : Rows.clashShowsRow.wfByText (OpenSpec.ofChange Rows.clashShowsSpec) = true := by kernel_rfl
theorem clashShows_goes : false = Rows.clashShowsRow.goesBy Tryd.prog := by kernel_rfl
theorem clashShows_looks : false = Tryd.prog.looks [] := by kernel_rfl
theorem clashShows_proved : Rows.ClashShowsCardSaid :=
  Claim7.holds_tied_plain_at .later [] [.data] true (true, "1bb79c65fc6028ee2f60cf83e41a291b7d90db1594457a275564aeb75b0c78ef") false
    clashShows_holds (fun _ h => by cases h) clashShows_text (fun _ h => by cases h) clashShows_row_tie rfl ⟨rfl, rfl⟩ (start_main.trans (by kernel_rfl)) rfl
    (fun f fn hf hfn => by
      obtain rfl : f = 20 := Option.some.inj (clashShows_named.symm.trans hf) |>.symm
      obtain rfl : fn = Tryd.f20 := (Option.some.inj (Tryd.func20.symm.trans hfn)).symm
      refine ⟨clashShows_looks, fun j t ht => ?_⟩
      rw [Tryd.params20] at ht
      have h3 : ∀ t ∈ [52, 35], Tryd.prog.wantsStandIn t = false := by decide +kernel
      exact h3 t (List.mem_of_getElem? (by simpa using ht)))
    clashShows_goes
#print axioms clashShows_proved
end Go.Proofs.YtefneilaongpbaaDoor
