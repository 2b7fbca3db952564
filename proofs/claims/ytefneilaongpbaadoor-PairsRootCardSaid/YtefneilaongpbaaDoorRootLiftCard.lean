/-
  The card of PairsRoot: the row's closed facts, each by itself, and the row's join.
-/
import Derived.Test.YtefneilaongpbaaDoorRootLift
import Derived.Test.YtefneilaongpbaaDoorFront
set_option linter.unusedVariables false
set_option maxRecDepth 100000
namespace Go.Proofs.YtefneilaongpbaaDoor
open Go Go.Bd Go.RowKit Go.ChangeShapes Go.WideShapes Go.ChangeAt

theorem pairsRoot_k1 : (Rows.pairsRootRow.wf (OpenSpec.ofChange Rows.pairsRootSpec)) = true := by kernel_rfl
theorem pairsRoot_k2 : (laidOutB Tryd.prog) = true := prog_laidOut
theorem pairsRoot_k3 : (mapsRowed Tryd.prog) = true := prog_maps
theorem pairsRoot_k4 : (Tryd.f3.params.all (Tryd.prog.readableRec ·)) = true := by kernel_rfl
theorem pairsRoot_k5 : (namedTie Tryd.prog Rows.pairsRootRow.named Rows.pairsRootSpec.vars) = true := by kernel_rfl
theorem pairsRoot_k6 : ((Rows.pairsRootRow.stops == [])) = true := by kernel_rfl
theorem pairsRoot_k7 : ((Tryd.prog.stops == [])) = true := prog_stops
theorem pairsRoot_k8 : ((Rows.pairsRootRow.knobs == [])) = true := by kernel_rfl
theorem pairsRoot_k9 : ((Tryd.prog.stopKnobs == [])) = true := prog_knobs
theorem pairsRoot_k10 : ((Rows.pairsRootRow.inPlace == Tryd.prog.inPlace 3)) = true := by kernel_rfl
theorem pairsRoot_k11 : ((Rows.pairsRootRow.unfollowed == Tryd.prog.unfollowed 3)) = true := by kernel_rfl
theorem pairsRoot_k12 : ((Rows.pairsRootRow.recurses == Tryd.prog.recurses 3)) = true := by kernel_rfl
theorem pairsRoot_k13 : ((Rows.pairsRootRow.named == Tryd.prog.varsNamed 3)) = true := by kernel_rfl
theorem pairsRoot_k14 : ((Rows.pairsRootRow.maps == (Tryd.f3.params.toList ++ Rows.pairsRootSpec.plain.varTypes Tryd.prog).any (Tryd.prog.mapsRec ·))) = true := by kernel_rfl
theorem pairsRoot_k15 : ((Rows.pairsRootRow.ifaces == (Tryd.f3.params.toList ++ Rows.pairsRootSpec.plain.varTypes Tryd.prog).any (Tryd.prog.ifacesRec ·))) = true := by kernel_rfl
theorem pairsRoot_k16 : ((Rows.pairsRootRow.mapsOut == Tryd.prog.mapsAmong Tryd.f3.resultTypes.toList)) = true := by kernel_rfl
theorem pairsRoot_k17 : ((Rows.pairsRootRow.loops == (Tryd.f3.params.toList ++ Rows.pairsRootSpec.plain.varTypes Tryd.prog).any (Tryd.prog.loopsFrom ·))) = true := by kernel_rfl
theorem pairsRoot_k18 : ((Rows.pairsRootRow.wideKeys == (Tryd.f3.params.toList ++ Rows.pairsRootSpec.plain.varTypes Tryd.prog ++ Tryd.f3.resultTypes.toList).any (Tryd.prog.wideKeysFrom ·))) = true := by kernel_rfl
theorem pairsRoot_k19 : (Rows.pairsRootSpec.vars.all (Tryd.prog.varReadable ·)) = true := by kernel_rfl
theorem pairsRoot_k20 : (Tryd.f3.resultTypes.all (fun t => Tryd.prog.readableRec t && decide (t < Tryd.prog.types.size))) = true := by kernel_rfl
theorem pairsRoot_k21 : ((Rows.pairsRootRow.ifacesOut == Tryd.f3.resultTypes.toList.any (Tryd.prog.ifacesRec ·))) = true := by kernel_rfl
theorem pairsRoot_k22 : ((Rows.pairsRootRow.loopsOut == Tryd.f3.resultTypes.toList.any (Tryd.prog.loopsFrom ·))) = true := by kernel_rfl
theorem pairsRoot_k23 : ((Rows.pairsRootRow.plainKeys == Tryd.prog.plainKeys)) = true := by rw [prog_plainKeys]; kernel_rfl
theorem pairsRoot_k24 : (Rows.pairsRootRow.shortTexts.isNone) = true := by kernel_rfl
theorem pairsRoot_k25 : (Tryd.prog.stopsHeard) = true := prog_heard
theorem pairsRoot_k26 : (Tryd.prog.mayEnter) = true := start_enter
theorem pairsRoot_k27 : ((Rows.pairsRootRow.lifted == Tryd.prog.liftsFinal)) = true := by rw [start_final]; kernel_rfl
theorem pairsRoot_k28 : ((Tryd.prog.make == some Rows.pairsRootRow.make)) = true := by rw [start_make]; kernel_rfl
theorem pairsRoot_k29 : ((Rows.pairsRootRow.kinds == (if Rows.pairsRootRow.domain.isEmpty then [] else Tryd.f3.params.toList.map fun t => match Tryd.prog.underlying t with | some (.int k) => some k | _ => none))) = true := by kernel_rfl
theorem pairsRoot_k30 : ((Rows.pairsRootRow.pinned == Rows.pairsRootRow.pinnedBy)) = true := by kernel_rfl
theorem pairsRoot_k31 : ((Rows.pairsRootRow.veiled == (Tryd.f3.params.toList ++ Rows.pairsRootSpec.plain.varTypes Tryd.prog ++ Tryd.f3.resultTypes.toList).any (Tryd.prog.veiledRec ·))) = true := by kernel_rfl
theorem pairsRoot_k32 : (Rows.pairsRootRow.veiledFits Tryd.prog Tryd.f3.params.toList (Tryd.f3.params.toList ++ Rows.pairsRootSpec.plain.varTypes Tryd.prog ++ Tryd.f3.resultTypes.toList)) = true := by kernel_rfl
theorem pairsRoot_closed : joinedFacts Tryd.prog 3 Tryd.f3 Rows.pairsRootSpec Rows.pairsRootRow = true := by
  unfold joinedFacts
  simp only [Bool.and_eq_true]
  exact ⟨⟨⟨⟨⟨⟨⟨⟨⟨⟨⟨⟨⟨⟨⟨⟨⟨⟨⟨⟨⟨⟨⟨⟨⟨⟨⟨⟨⟨⟨⟨pairsRoot_k1, pairsRoot_k2⟩, pairsRoot_k3⟩, pairsRoot_k4⟩, pairsRoot_k5⟩, pairsRoot_k6⟩, pairsRoot_k7⟩, pairsRoot_k8⟩, pairsRoot_k9⟩, pairsRoot_k10⟩, pairsRoot_k11⟩, pairsRoot_k12⟩, pairsRoot_k13⟩, pairsRoot_k14⟩, pairsRoot_k15⟩, pairsRoot_k16⟩, pairsRoot_k17⟩, pairsRoot_k18⟩, pairsRoot_k19⟩, pairsRoot_k20⟩, pairsRoot_k21⟩, pairsRoot_k22⟩, pairsRoot_k23⟩, pairsRoot_k24⟩, pairsRoot_k25⟩, pairsRoot_k26⟩, pairsRoot_k27⟩, pairsRoot_k28⟩, pairsRoot_k29⟩, pairsRoot_k30⟩, pairsRoot_k31⟩, pairsRoot_k32⟩

theorem pairsRoot_named : Tryd.prog.funcNamed "beadroll/beadrolllaw05.PairsRoot" = some 3 := by kernel_rfl
theorem pairsRoot_inst : Tryd.f3.isInstance Tryd.prog Rows.pairsRootRow.origin Rows.pairsRootRow.targs := of_decide_eq_true (by kernel_rfl)
theorem pairsRoot_wrap : Tryd.f3.isWrapper Tryd.prog Rows.pairsRootRow.wrapper Rows.pairsRootRow.mainSum := by
  unfold Func.isWrapper
  first | (rw [if_pos (by decide +kernel)]; exact start_main) | (rw [if_neg (by decide +kernel)]; exact ⟨rfl, rfl⟩)
theorem pairsRoot_holds : Rows.PairsRootSaid :=
  OpenClaim.holds_of_wide 3 Tryd.f3 rfl rfl rfl rfl rfl rfl rfl ⟨rfl, rfl, rfl, rfl, rfl⟩ rfl rfl rfl rfl rfl pairsRoot_named Tryd.func3 pairsRoot_closed pairsRoot_inst pairsRoot_wrap
    (fun os started H enc _ => pairsRoot_lifted os started H enc)
theorem pairsRoot_text : Rows.pairsRootRow.wfByText (OpenSpec.ofChange Rows.pairsRootSpec) = true := by kernel_rfl
theorem pairsRoot_goes : false = Rows.pairsRootRow.goesBy Tryd.prog := by kernel_rfl
theorem pairsRoot_looks : false = Tryd.prog.looks [] := by kernel_rfl
theorem pairsRoot_proved : Rows.PairsRootCardSaid :=
  Claim7.holds_tied_plain_at .later [] [.data] true (true, "1bb79c65fc6028ee2f60cf83e41a291b7d90db1594457a275564aeb75b0c78ef") false
    pairsRoot_holds (fun _ h => by cases h) pairsRoot_text (fun _ h => by cases h) pairsRoot_row_tie rfl ⟨rfl, rfl⟩ (start_main.trans (by kernel_rfl)) rfl
    (fun f fn hf hfn => by
      obtain rfl : f = 3 := Option.some.inj (pairsRoot_named.symm.trans hf) |>.symm
      obtain rfl : fn = Tryd.f3 := (Option.some.inj (Tryd.func3.symm.trans hfn)).symm
      refine ⟨pairsRoot_looks, fun j t ht => ?_⟩
      rw [Tryd.params3] at ht
      have h3 : ∀ t ∈ [22], Tryd.prog.wantsStandIn t = false := by decide +kernel
      exact h3 t (List.mem_of_getElem? (by simpa using ht)))
    pairsRoot_goes
#print axioms pairsRoot_proved
end Go.Proofs.YtefneilaongpbaaDoor
