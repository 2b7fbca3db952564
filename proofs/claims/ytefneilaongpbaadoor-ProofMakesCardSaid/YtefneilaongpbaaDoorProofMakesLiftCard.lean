/-
  The card of ProofMakes: the row's closed facts, each by itself, and the row's join.
-/
import Derived.Test.YtefneilaongpbaaDoorProofMakesLift
import Derived.Test.YtefneilaongpbaaDoorFront
set_option linter.unusedVariables false
set_option maxRecDepth 100000
namespace Go.Proofs.YtefneilaongpbaaDoor
open Go Go.Bd Go.RowKit Go.ChangeShapes Go.WideShapes Go.ChangeAt

theorem proofMakes_k1 : (Rows.proofMakesRow.wf (OpenSpec.ofChange Rows.proofMakesSpec)) = true := by kernel_rfl
theorem proofMakes_k2 : (laidOutB Tryd.prog) = true := prog_laidOut
theorem proofMakes_k3 : (mapsRowed Tryd.prog) = true := prog_maps
theorem proofMakes_k4 : (Tryd.f9.params.all (Tryd.prog.readableRec ·)) = true := by kernel_rfl
theorem proofMakes_k5 : (namedTie Tryd.prog Rows.proofMakesRow.named Rows.proofMakesSpec.vars) = true := by kernel_rfl
theorem proofMakes_k6 : ((Rows.proofMakesRow.stops == [])) = true := by kernel_rfl
theorem proofMakes_k7 : ((Tryd.prog.stops == [])) = true := prog_stops
theorem proofMakes_k8 : ((Rows.proofMakesRow.knobs == [])) = true := by kernel_rfl
theorem proofMakes_k9 : ((Tryd.prog.stopKnobs == [])) = true := prog_knobs
theorem proofMakes_k10 : ((Rows.proofMakesRow.inPlace == Tryd.prog.inPlace 9)) = true := by kernel_rfl
theorem proofMakes_k11 : ((Rows.proofMakesRow.unfollowed == Tryd.prog.unfollowed 9)) = true := by kernel_rfl
theorem proofMakes_k12 : ((Rows.proofMakesRow.recurses == Tryd.prog.recurses 9)) = true := by kernel_rfl
theorem proofMakes_k13 : ((Rows.proofMakesRow.named == Tryd.prog.varsNamed 9)) = true := by kernel_rfl
theorem proofMakes_k14 : ((Rows.proofMakesRow.maps == (Tryd.f9.params.toList ++ Rows.proofMakesSpec.plain.varTypes Tryd.prog).any (Tryd.prog.mapsRec ·))) = true := by kernel_rfl
theorem proofMakes_k15 : ((Rows.proofMakesRow.ifaces == (Tryd.f9.params.toList ++ Rows.proofMakesSpec.plain.varTypes Tryd.prog).any (Tryd.prog.ifacesRec ·))) = true := by kernel_rfl
theorem proofMakes_k16 : ((Rows.proofMakesRow.mapsOut == Tryd.prog.mapsAmong Tryd.f9.resultTypes.toList)) = true := by kernel_rfl
theorem proofMakes_k17 : ((Rows.proofMakesRow.loops == (Tryd.f9.params.toList ++ Rows.proofMakesSpec.plain.varTypes Tryd.prog).any (Tryd.prog.loopsFrom ·))) = true := by kernel_rfl
theorem proofMakes_k18 : ((Rows.proofMakesRow.wideKeys == (Tryd.f9.params.toList ++ Rows.proofMakesSpec.plain.varTypes Tryd.prog ++ Tryd.f9.resultTypes.toList).any (Tryd.prog.wideKeysFrom ·))) = true := by kernel_rfl
theorem proofMakes_k19 : (Rows.proofMakesSpec.vars.all (Tryd.prog.varReadable ·)) = true := by kernel_rfl
theorem proofMakes_k20 : (Tryd.f9.resultTypes.all (fun t => Tryd.prog.readableRec t && decide (t < Tryd.prog.types.size))) = true := by kernel_rfl
theorem proofMakes_k21 : ((Rows.proofMakesRow.ifacesOut == Tryd.f9.resultTypes.toList.any (Tryd.prog.ifacesRec ·))) = true := by kernel_rfl
theorem proofMakes_k22 : ((Rows.proofMakesRow.loopsOut == Tryd.f9.resultTypes.toList.any (Tryd.prog.loopsFrom ·))) = true := by kernel_rfl
theorem proofMakes_k23 : ((Rows.proofMakesRow.plainKeys == Tryd.prog.plainKeys)) = true := by rw [prog_plainKeys]; kernel_rfl
theorem proofMakes_k24 : (Rows.proofMakesRow.shortTexts.isNone) = true := by kernel_rfl
theorem proofMakes_k25 : (Tryd.prog.stopsHeard) = true := prog_heard
theorem proofMakes_k26 : (Tryd.prog.mayEnter) = true := start_enter
theorem proofMakes_k27 : ((Rows.proofMakesRow.lifted == Tryd.prog.liftsFinal)) = true := by rw [start_final]; kernel_rfl
theorem proofMakes_k28 : ((Tryd.prog.make == some Rows.proofMakesRow.make)) = true := by rw [start_make]; kernel_rfl
theorem proofMakes_k29 : ((Rows.proofMakesRow.kinds == (if Rows.proofMakesRow.domain.isEmpty then [] else Tryd.f9.params.toList.map fun t => match Tryd.prog.underlying t with | some (.int k) => some k | _ => none))) = true := by kernel_rfl
theorem proofMakes_k30 : ((Rows.proofMakesRow.pinned == Rows.proofMakesRow.pinnedBy)) = true := by kernel_rfl
theorem proofMakes_k31 : ((Rows.proofMakesRow.veiled == (Tryd.f9.params.toList ++ Rows.proofMakesSpec.plain.varTypes Tryd.prog ++ Tryd.f9.resultTypes.toList).any (Tryd.prog.veiledRec ·))) = true := by kernel_rfl
theorem proofMakes_k32 : (Rows.proofMakesRow.veiledFits Tryd.prog Tryd.f9.params.toList (Tryd.f9.params.toList ++ Rows.proofMakesSpec.plain.varTypes Tryd.prog ++ Tryd.f9.resultTypes.toList)) = true := by kernel_rfl
theorem proofMakes_closed : joinedFacts Tryd.prog 9 Tryd.f9 Rows.proofMakesSpec Rows.proofMakesRow = true := by
  unfold joinedFacts
  simp only [Bool.and_eq_true]
  exact ⟨⟨⟨⟨⟨⟨⟨⟨⟨⟨⟨⟨⟨⟨⟨⟨⟨⟨⟨⟨⟨⟨⟨⟨⟨⟨⟨⟨⟨⟨⟨proofMakes_k1, proofMakes_k2⟩, proofMakes_k3⟩, proofMakes_k4⟩, proofMakes_k5⟩, proofMakes_k6⟩, proofMakes_k7⟩, proofMakes_k8⟩, proofMakes_k9⟩, proofMakes_k10⟩, proofMakes_k11⟩, proofMakes_k12⟩, proofMakes_k13⟩, proofMakes_k14⟩, proofMakes_k15⟩, proofMakes_k16⟩, proofMakes_k17⟩, proofMakes_k18⟩, proofMakes_k19⟩, proofMakes_k20⟩, proofMakes_k21⟩, proofMakes_k22⟩, proofMakes_k23⟩, proofMakes_k24⟩, proofMakes_k25⟩, proofMakes_k26⟩, proofMakes_k27⟩, proofMakes_k28⟩, proofMakes_k29⟩, proofMakes_k30⟩, proofMakes_k31⟩, proofMakes_k32⟩

theorem proofMakes_named : Tryd.prog.funcNamed "beadroll/beadrolllaw07.ProofMakes" = some 9 := by kernel_rfl
theorem proofMakes_inst : Tryd.f9.isInstance Tryd.prog Rows.proofMakesRow.origin Rows.proofMakesRow.targs := of_decide_eq_true (by kernel_rfl)
theorem proofMakes_wrap : Tryd.f9.isWrapper Tryd.prog Rows.proofMakesRow.wrapper Rows.proofMakesRow.mainSum := by
  unfold Func.isWrapper
  first | (rw [if_pos (by decide +kernel)]; exact start_main) | (rw [if_neg (by decide +kernel)]; exact ⟨rfl, rfl⟩)
theorem proofMakes_holds : Rows.ProofMakesSaid :=
  OpenClaim.holds_of_wide 9 Tryd.f9 rfl rfl rfl rfl rfl rfl rfl ⟨rfl, rfl, rfl, rfl, rfl⟩ rfl rfl rfl rfl rfl proofMakes_named Tryd.func9 proofMakes_closed proofMakes_inst proofMakes_wrap
    (fun os started H enc _ => proofMakes_lifted os started H enc)
theorem proofMakes_text : Rows.proofMakesRow.wfByText (OpenSpec.ofChange Rows.proofMakesSpec) = true := by kernel_rfl
theorem proofMakes_goes : false = Rows.proofMakesRow.goesBy Tryd.prog := by kernel_rfl
theorem proofMakes_looks : false = Tryd.prog.looks [] := by kernel_rfl
theorem proofMakes_proved : Rows.ProofMakesCardSaid :=
  Claim7.holds_tied_plain_at .later [] [.data] true (true, "1bb79c65fc6028ee2f60cf83e41a291b7d90db1594457a275564aeb75b0c78ef") false
    proofMakes_holds (fun _ h => by cases h) proofMakes_text (fun _ h => by cases h) proofMakes_row_tie rfl ⟨rfl, rfl⟩ (start_main.trans (by kernel_rfl)) rfl
    (fun f fn hf hfn => by
      obtain rfl : f = 9 := Option.some.inj (proofMakes_named.symm.trans hf) |>.symm
      obtain rfl : fn = Tryd.f9 := (Option.some.inj (Tryd.func9.symm.trans hfn)).symm
      refine ⟨proofMakes_looks, fun j t ht => ?_⟩
      rw [Tryd.params9] at ht
      have h3 : ∀ t ∈ [52, 25], Tryd.prog.wantsStandIn t = false := by decide +kernel
      exact h3 t (List.mem_of_getElem? (by simpa using ht)))
    proofMakes_goes
#print axioms proofMakes_proved
end Go.Proofs.YtefneilaongpbaaDoor
