/-
  The card of PairsWays: the row's closed facts, each by itself, and the row's join.
-/
import Derived.Test.YtefneilaongpbaaDoorPairsWaysLift
import Derived.Test.YtefneilaongpbaaDoorFront
set_option linter.unusedVariables false
set_option maxRecDepth 100000
namespace Go.Proofs.YtefneilaongpbaaDoor
open Go Go.Bd Go.RowKit Go.ChangeShapes Go.WideShapes Go.ChangeAt

theorem pairsWays_k1 : (Rows.pairsWaysRow.wf (OpenSpec.ofChange Rows.pairsWaysSpec)) = true := by kernel_rfl
theorem pairsWays_k2 : (laidOutB Tryd.prog) = true := prog_laidOut
theorem pairsWays_k3 : (mapsRowed Tryd.prog) = true := prog_maps
theorem pairsWays_k4 : (Tryd.f10.params.all (Tryd.prog.readableRec ·)) = true := by kernel_rfl
theorem pairsWays_k5 : (namedTie Tryd.prog Rows.pairsWaysRow.named Rows.pairsWaysSpec.vars) = true := by kernel_rfl
theorem pairsWays_k6 : ((Rows.pairsWaysRow.stops == [])) = true := by kernel_rfl
theorem pairsWays_k7 : ((Tryd.prog.stops == [])) = true := prog_stops
theorem pairsWays_k8 : ((Rows.pairsWaysRow.knobs == [])) = true := by kernel_rfl
theorem pairsWays_k9 : ((Tryd.prog.stopKnobs == [])) = true := prog_knobs
theorem pairsWays_k10 : ((Rows.pairsWaysRow.inPlace == Tryd.prog.inPlace 10)) = true := by kernel_rfl
theorem pairsWays_k11 : ((Rows.pairsWaysRow.unfollowed == Tryd.prog.unfollowed 10)) = true := by kernel_rfl
theorem pairsWays_k12 : ((Rows.pairsWaysRow.recurses == Tryd.prog.recurses 10)) = true := by kernel_rfl
theorem pairsWays_k13 : ((Rows.pairsWaysRow.named == Tryd.prog.varsNamed 10)) = true := by kernel_rfl
theorem pairsWays_k14 : ((Rows.pairsWaysRow.maps == (Tryd.f10.params.toList ++ Rows.pairsWaysSpec.plain.varTypes Tryd.prog).any (Tryd.prog.mapsRec ·))) = true := by kernel_rfl
theorem pairsWays_k15 : ((Rows.pairsWaysRow.ifaces == (Tryd.f10.params.toList ++ Rows.pairsWaysSpec.plain.varTypes Tryd.prog).any (Tryd.prog.ifacesRec ·))) = true := by kernel_rfl
theorem pairsWays_k16 : ((Rows.pairsWaysRow.mapsOut == Tryd.prog.mapsAmong Tryd.f10.resultTypes.toList)) = true := by kernel_rfl
theorem pairsWays_k17 : ((Rows.pairsWaysRow.loops == (Tryd.f10.params.toList ++ Rows.pairsWaysSpec.plain.varTypes Tryd.prog).any (Tryd.prog.loopsFrom ·))) = true := by kernel_rfl
theorem pairsWays_k18 : ((Rows.pairsWaysRow.wideKeys == (Tryd.f10.params.toList ++ Rows.pairsWaysSpec.plain.varTypes Tryd.prog ++ Tryd.f10.resultTypes.toList).any (Tryd.prog.wideKeysFrom ·))) = true := by kernel_rfl
theorem pairsWays_k19 : (Rows.pairsWaysSpec.vars.all (Tryd.prog.varReadable ·)) = true := by kernel_rfl
theorem pairsWays_k20 : (Tryd.f10.resultTypes.all (fun t => Tryd.prog.readableRec t && decide (t < Tryd.prog.types.size))) = true := by kernel_rfl
theorem pairsWays_k21 : ((Rows.pairsWaysRow.ifacesOut == Tryd.f10.resultTypes.toList.any (Tryd.prog.ifacesRec ·))) = true := by kernel_rfl
theorem pairsWays_k22 : ((Rows.pairsWaysRow.loopsOut == Tryd.f10.resultTypes.toList.any (Tryd.prog.loopsFrom ·))) = true := by kernel_rfl
theorem pairsWays_k23 : ((Rows.pairsWaysRow.plainKeys == Tryd.prog.plainKeys)) = true := by rw [prog_plainKeys]; kernel_rfl
theorem pairsWays_k24 : (Rows.pairsWaysRow.shortTexts.isNone) = true := by kernel_rfl
theorem pairsWays_k25 : (Tryd.prog.stopsHeard) = true := prog_heard
theorem pairsWays_k26 : (Tryd.prog.mayEnter) = true := start_enter
theorem pairsWays_k27 : ((Rows.pairsWaysRow.lifted == Tryd.prog.liftsFinal)) = true := by rw [start_final]; kernel_rfl
theorem pairsWays_k28 : ((Tryd.prog.make == some Rows.pairsWaysRow.make)) = true := by rw [start_make]; kernel_rfl
theorem pairsWays_k29 : ((Rows.pairsWaysRow.kinds == (if Rows.pairsWaysRow.domain.isEmpty then [] else Tryd.f10.params.toList.map fun t => match Tryd.prog.underlying t with | some (.int k) => some k | _ => none))) = true := by kernel_rfl
theorem pairsWays_k30 : ((Rows.pairsWaysRow.pinned == Rows.pairsWaysRow.pinnedBy)) = true := by kernel_rfl
theorem pairsWays_k31 : ((Rows.pairsWaysRow.veiled == (Tryd.f10.params.toList ++ Rows.pairsWaysSpec.plain.varTypes Tryd.prog ++ Tryd.f10.resultTypes.toList).any (Tryd.prog.veiledRec ·))) = true := by kernel_rfl
theorem pairsWays_k32 : (Rows.pairsWaysRow.veiledFits Tryd.prog Tryd.f10.params.toList (Tryd.f10.params.toList ++ Rows.pairsWaysSpec.plain.varTypes Tryd.prog ++ Tryd.f10.resultTypes.toList)) = true := by kernel_rfl
theorem pairsWays_closed : joinedFacts Tryd.prog 10 Tryd.f10 Rows.pairsWaysSpec Rows.pairsWaysRow = true := by
  unfold joinedFacts
  simp only [Bool.and_eq_true]
  exact ⟨⟨⟨⟨⟨⟨⟨⟨⟨⟨⟨⟨⟨⟨⟨⟨⟨⟨⟨⟨⟨⟨⟨⟨⟨⟨⟨⟨⟨⟨⟨pairsWays_k1, pairsWays_k2⟩, pairsWays_k3⟩, pairsWays_k4⟩, pairsWays_k5⟩, pairsWays_k6⟩, pairsWays_k7⟩, pairsWays_k8⟩, pairsWays_k9⟩, pairsWays_k10⟩, pairsWays_k11⟩, pairsWays_k12⟩, pairsWays_k13⟩, pairsWays_k14⟩, pairsWays_k15⟩, pairsWays_k16⟩, pairsWays_k17⟩, pairsWays_k18⟩, pairsWays_k19⟩, pairsWays_k20⟩, pairsWays_k21⟩, pairsWays_k22⟩, pairsWays_k23⟩, pairsWays_k24⟩, pairsWays_k25⟩, pairsWays_k26⟩, pairsWays_k27⟩, pairsWays_k28⟩, pairsWays_k29⟩, pairsWays_k30⟩, pairsWays_k31⟩, pairsWays_k32⟩

theorem pairsWays_named : Tryd.prog.funcNamed "beadroll/beadrolllaw05.PairsWays" = some 10 := by kernel_rfl
theorem pairsWays_inst : Tryd.f10.isInstance Tryd.prog Rows.pairsWaysRow.origin Rows.pairsWaysRow.targs := of_decide_eq_true (by kernel_rfl)
theorem pairsWays_wrap : Tryd.f10.isWrapper Tryd.prog Rows.pairsWaysRow.wrapper Rows.pairsWaysRow.mainSum := by
  unfold Func.isWrapper
  first | (rw [if_pos (by decide +kernel)]; exact start_main) | (rw [if_neg (by decide +kernel)]; exact ⟨rfl, rfl⟩)
theorem pairsWays_holds : Rows.PairsWaysSaid :=
  OpenClaim.holds_of_wide 10 Tryd.f10 rfl rfl rfl rfl rfl rfl rfl ⟨rfl, rfl, rfl, rfl, rfl⟩ rfl rfl rfl rfl rfl pairsWays_named Tryd.func10 pairsWays_closed pairsWays_inst pairsWays_wrap
    (fun os started H enc _ => pairsWays_lifted os started H enc)
theorem pairsWays_text : Rows.pairsWaysRow.wfByText (OpenSpec.ofChange Rows.pairsWaysSpec) = true := by kernel_rfl
theorem pairsWays_goes : false = Rows.pairsWaysRow.goesBy Tryd.prog := by kernel_rfl
theorem pairsWays_looks : false = Tryd.prog.looks [] := by kernel_rfl
theorem pairsWays_proved : Rows.PairsWaysCardSaid :=
  Claim7.holds_tied_plain_at .later [] [.data] true (true, "1bb79c65fc6028ee2f60cf83e41a291b7d90db1594457a275564aeb75b0c78ef") false
    pairsWays_holds (fun _ h => by cases h) pairsWays_text (fun _ h => by cases h) pairsWays_row_tie rfl ⟨rfl, rfl⟩ (start_main.trans (by kernel_rfl)) rfl
    (fun f fn hf hfn => by
      obtain rfl : f = 10 := Option.some.inj (pairsWays_named.symm.trans hf) |>.symm
      obtain rfl : fn = Tryd.f10 := (Option.some.inj (Tryd.func10.symm.trans hfn)).symm
      refine ⟨pairsWays_looks, fun j t ht => ?_⟩
      rw [Tryd.params10] at ht
      have h3 : ∀ t ∈ [22, 76, 76], Tryd.prog.wantsStandIn t = false := by decide +kernel
      exact h3 t (List.mem_of_getElem? (by simpa using ht)))
    pairsWays_goes
#print axioms pairsWays_proved
end Go.Proofs.YtefneilaongpbaaDoor
