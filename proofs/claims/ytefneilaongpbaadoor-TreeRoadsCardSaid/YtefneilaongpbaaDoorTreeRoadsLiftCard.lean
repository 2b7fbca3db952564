/-
  The card of TreeRoads: the row's closed facts, each by itself, and the row's join.
-/
import Derived.Test.YtefneilaongpbaaDoorTreeRoadsLift
import Derived.Test.YtefneilaongpbaaDoorFront
set_option linter.unusedVariables false
set_option maxRecDepth 100000
namespace Go.Proofs.YtefneilaongpbaaDoor
open Go Go.Bd Go.RowKit Go.ChangeShapes Go.WideShapes Go.ChangeAt

theorem treeRoads_k1 : (Rows.treeRoadsRow.wf (OpenSpec.ofChange Rows.treeRoadsSpec)) = true := by kernel_rfl
theorem treeRoads_k2 : (laidOutB Tryd.prog) = true := prog_laidOut
theorem treeRoads_k3 : (mapsRowed Tryd.prog) = true := prog_maps
theorem treeRoads_k4 : (Tryd.f6.params.all (Tryd.prog.readableRec ·)) = true := by kernel_rfl
theorem treeRoads_k5 : (namedTie Tryd.prog Rows.treeRoadsRow.named Rows.treeRoadsSpec.vars) = true := by kernel_rfl
theorem treeRoads_k6 : ((Rows.treeRoadsRow.stops == [])) = true := by kernel_rfl
theorem treeRoads_k7 : ((Tryd.prog.stops == [])) = true := prog_stops
theorem treeRoads_k8 : ((Rows.treeRoadsRow.knobs == [])) = true := by kernel_rfl
theorem treeRoads_k9 : ((Tryd.prog.stopKnobs == [])) = true := prog_knobs
theorem treeRoads_k10 : ((Rows.treeRoadsRow.inPlace == Tryd.prog.inPlace 6)) = true := by kernel_rfl
theorem treeRoads_k11 : ((Rows.treeRoadsRow.unfollowed == Tryd.prog.unfollowed 6)) = true := by kernel_rfl
theorem treeRoads_k12 : ((Rows.treeRoadsRow.recurses == Tryd.prog.recurses 6)) = true := by kernel_rfl
theorem treeRoads_k13 : ((Rows.treeRoadsRow.named == Tryd.prog.varsNamed 6)) = true := by kernel_rfl
theorem treeRoads_k14 : ((Rows.treeRoadsRow.maps == (Tryd.f6.params.toList ++ Rows.treeRoadsSpec.plain.varTypes Tryd.prog).any (Tryd.prog.mapsRec ·))) = true := by kernel_rfl
theorem treeRoads_k15 : ((Rows.treeRoadsRow.ifaces == (Tryd.f6.params.toList ++ Rows.treeRoadsSpec.plain.varTypes Tryd.prog).any (Tryd.prog.ifacesRec ·))) = true := by kernel_rfl
theorem treeRoads_k16 : ((Rows.treeRoadsRow.mapsOut == Tryd.prog.mapsAmong Tryd.f6.resultTypes.toList)) = true := by kernel_rfl
theorem treeRoads_k17 : ((Rows.treeRoadsRow.loops == (Tryd.f6.params.toList ++ Rows.treeRoadsSpec.plain.varTypes Tryd.prog).any (Tryd.prog.loopsFrom ·))) = true := by kernel_rfl
theorem treeRoads_k18 : ((Rows.treeRoadsRow.wideKeys == (Tryd.f6.params.toList ++ Rows.treeRoadsSpec.plain.varTypes Tryd.prog ++ Tryd.f6.resultTypes.toList).any (Tryd.prog.wideKeysFrom ·))) = true := by kernel_rfl
theorem treeRoads_k19 : (Rows.treeRoadsSpec.vars.all (Tryd.prog.varReadable ·)) = true := by kernel_rfl
theorem treeRoads_k20 : (Tryd.f6.resultTypes.all (fun t => Tryd.prog.readableRec t && decide (t < Tryd.prog.types.size))) = true := by kernel_rfl
theorem treeRoads_k21 : ((Rows.treeRoadsRow.ifacesOut == Tryd.f6.resultTypes.toList.any (Tryd.prog.ifacesRec ·))) = true := by kernel_rfl
theorem treeRoads_k22 : ((Rows.treeRoadsRow.loopsOut == Tryd.f6.resultTypes.toList.any (Tryd.prog.loopsFrom ·))) = true := by kernel_rfl
theorem treeRoads_k23 : ((Rows.treeRoadsRow.plainKeys == Tryd.prog.plainKeys)) = true := by rw [prog_plainKeys]; kernel_rfl
theorem treeRoads_k24 : (Rows.treeRoadsRow.shortTexts.isNone) = true := by kernel_rfl
theorem treeRoads_k25 : (Tryd.prog.stopsHeard) = true := prog_heard
theorem treeRoads_k26 : (Tryd.prog.mayEnter) = true := start_enter
theorem treeRoads_k27 : ((Rows.treeRoadsRow.lifted == Tryd.prog.liftsFinal)) = true := by rw [start_final]; kernel_rfl
theorem treeRoads_k28 : ((Tryd.prog.make == some Rows.treeRoadsRow.make)) = true := by rw [start_make]; kernel_rfl
theorem treeRoads_k29 : ((Rows.treeRoadsRow.kinds == (if Rows.treeRoadsRow.domain.isEmpty then [] else Tryd.f6.params.toList.map fun t => match Tryd.prog.underlying t with | some (.int k) => some k | _ => none))) = true := by kernel_rfl
theorem treeRoads_k30 : ((Rows.treeRoadsRow.pinned == Rows.treeRoadsRow.pinnedBy)) = true := by kernel_rfl
theorem treeRoads_k31 : ((Rows.treeRoadsRow.veiled == (Tryd.f6.params.toList ++ Rows.treeRoadsSpec.plain.varTypes Tryd.prog ++ Tryd.f6.resultTypes.toList).any (Tryd.prog.veiledRec ·))) = true := by kernel_rfl
theorem treeRoads_k32 : (Rows.treeRoadsRow.veiledFits Tryd.prog Tryd.f6.params.toList (Tryd.f6.params.toList ++ Rows.treeRoadsSpec.plain.varTypes Tryd.prog ++ Tryd.f6.resultTypes.toList)) = true := by kernel_rfl
theorem treeRoads_closed : joinedFacts Tryd.prog 6 Tryd.f6 Rows.treeRoadsSpec Rows.treeRoadsRow = true := by
  unfold joinedFacts
  simp only [Bool.and_eq_true]
  exact ⟨⟨⟨⟨⟨⟨⟨⟨⟨⟨⟨⟨⟨⟨⟨⟨⟨⟨⟨⟨⟨⟨⟨⟨⟨⟨⟨⟨⟨⟨⟨treeRoads_k1, treeRoads_k2⟩, treeRoads_k3⟩, treeRoads_k4⟩, treeRoads_k5⟩, treeRoads_k6⟩, treeRoads_k7⟩, treeRoads_k8⟩, treeRoads_k9⟩, treeRoads_k10⟩, treeRoads_k11⟩, treeRoads_k12⟩, treeRoads_k13⟩, treeRoads_k14⟩, treeRoads_k15⟩, treeRoads_k16⟩, treeRoads_k17⟩, treeRoads_k18⟩, treeRoads_k19⟩, treeRoads_k20⟩, treeRoads_k21⟩, treeRoads_k22⟩, treeRoads_k23⟩, treeRoads_k24⟩, treeRoads_k25⟩, treeRoads_k26⟩, treeRoads_k27⟩, treeRoads_k28⟩, treeRoads_k29⟩, treeRoads_k30⟩, treeRoads_k31⟩, treeRoads_k32⟩

theorem treeRoads_named : Tryd.prog.funcNamed "beadroll/beadrolllaw06.TreeRoads" = some 6 := by kernel_rfl
theorem treeRoads_inst : Tryd.f6.isInstance Tryd.prog Rows.treeRoadsRow.origin Rows.treeRoadsRow.targs := of_decide_eq_true (by kernel_rfl)
theorem treeRoads_wrap : Tryd.f6.isWrapper Tryd.prog Rows.treeRoadsRow.wrapper Rows.treeRoadsRow.mainSum := by
  unfold Func.isWrapper
  first | (rw [if_pos (by decide +kernel)]; exact start_main) | (rw [if_neg (by decide +kernel)]; exact ⟨rfl, rfl⟩)
theorem treeRoads_holds : Rows.TreeRoadsSaid :=
  OpenClaim.holds_of_wide 6 Tryd.f6 rfl rfl rfl rfl rfl rfl rfl ⟨rfl, rfl, rfl, rfl, rfl⟩ rfl rfl rfl rfl rfl treeRoads_named Tryd.func6 treeRoads_closed treeRoads_inst treeRoads_wrap
    (fun os started H enc _ => treeRoads_lifted os started H enc)
theorem treeRoads_text : Rows.treeRoadsRow.wfByText (OpenSpec.ofChange Rows.treeRoadsSpec) = true := by kernel_rfl
theorem treeRoads_goes : false = Rows.treeRoadsRow.goesBy Tryd.prog := by kernel_rfl
theorem treeRoads_looks : false = Tryd.prog.looks [] := by kernel_rfl
theorem treeRoads_proved : Rows.TreeRoadsCardSaid :=
  Claim7.holds_tied_plain_at .later [] [.data] true (true, "1bb79c65fc6028ee2f60cf83e41a291b7d90db1594457a275564aeb75b0c78ef") false
    treeRoads_holds (fun _ h => by cases h) treeRoads_text (fun _ h => by cases h) treeRoads_row_tie rfl ⟨rfl, rfl⟩ (start_main.trans (by kernel_rfl)) rfl
    (fun f fn hf hfn => by
      obtain rfl : f = 6 := Option.some.inj (treeRoads_named.symm.trans hf) |>.symm
      obtain rfl : fn = Tryd.f6 := (Option.some.inj (Tryd.func6.symm.trans hfn)).symm
      refine ⟨treeRoads_looks, fun j t ht => ?_⟩
      rw [Tryd.params6] at ht
      have h3 : ∀ t ∈ [52, 25], Tryd.prog.wantsStandIn t = false := by decide +kernel
      exact h3 t (List.mem_of_getElem? (by simpa using ht)))
    treeRoads_goes
#print axioms treeRoads_proved
end Go.Proofs.YtefneilaongpbaaDoor
