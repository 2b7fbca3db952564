/-
  The card of VerifyChain: the row's closed facts, each by itself, and the row's join.
-/
import Derived.Test.YtefneilaongpbaaDoorVerifyChainLift
import Derived.Test.YtefneilaongpbaaDoorFront
set_option linter.unusedVariables false
set_option maxRecDepth 100000
namespace Go.Proofs.YtefneilaongpbaaDoor
open Go Go.Bd Go.RowKit Go.ChangeShapes Go.WideShapes Go.ChangeAt

theorem verifyChain_k1 : (Rows.verifyChainRow.wf (OpenSpec.ofChange Rows.verifyChainSpec)) = true := by kernel_rfl
theorem verifyChain_k2 : (laidOutB Tryd.prog) = true := prog_laidOut
theorem verifyChain_k3 : (mapsRowed Tryd.prog) = true := prog_maps
theorem verifyChain_k4 : (Tryd.f8.params.all (Tryd.prog.readableRec ·)) = true := by kernel_rfl
theorem verifyChain_k5 : (namedTie Tryd.prog Rows.verifyChainRow.named Rows.verifyChainSpec.vars) = true := by kernel_rfl
theorem verifyChain_k6 : ((Rows.verifyChainRow.stops == [])) = true := by kernel_rfl
theorem verifyChain_k7 : ((Tryd.prog.stops == [])) = true := prog_stops
theorem verifyChain_k8 : ((Rows.verifyChainRow.knobs == [])) = true := by kernel_rfl
theorem verifyChain_k9 : ((Tryd.prog.stopKnobs == [])) = true := prog_knobs
theorem verifyChain_k10 : ((Rows.verifyChainRow.inPlace == Tryd.prog.inPlace 8)) = true := by kernel_rfl
theorem verifyChain_k11 : ((Rows.verifyChainRow.unfollowed == Tryd.prog.unfollowed 8)) = true := by kernel_rfl
theorem verifyChain_k12 : ((Rows.verifyChainRow.recurses == Tryd.prog.recurses 8)) = true := by kernel_rfl
theorem verifyChain_k13 : ((Rows.verifyChainRow.named == Tryd.prog.varsNamed 8)) = true := by kernel_rfl
theorem verifyChain_k14 : ((Rows.verifyChainRow.maps == (Tryd.f8.params.toList ++ Rows.verifyChainSpec.plain.varTypes Tryd.prog).any (Tryd.prog.mapsRec ·))) = true := by kernel_rfl
theorem verifyChain_k15 : ((Rows.verifyChainRow.ifaces == (Tryd.f8.params.toList ++ Rows.verifyChainSpec.plain.varTypes Tryd.prog).any (Tryd.prog.ifacesRec ·))) = true := by kernel_rfl
theorem verifyChain_k16 : ((Rows.verifyChainRow.mapsOut == Tryd.prog.mapsAmong Tryd.f8.resultTypes.toList)) = true := by kernel_rfl
theorem verifyChain_k17 : ((Rows.verifyChainRow.loops == (Tryd.f8.params.toList ++ Rows.verifyChainSpec.plain.varTypes Tryd.prog).any (Tryd.prog.loopsFrom ·))) = true := by kernel_rfl
theorem verifyChain_k18 : ((Rows.verifyChainRow.wideKeys == (Tryd.f8.params.toList ++ Rows.verifyChainSpec.plain.varTypes Tryd.prog ++ Tryd.f8.resultTypes.toList).any (Tryd.prog.wideKeysFrom ·))) = true := by kernel_rfl
theorem verifyChain_k19 : (Rows.verifyChainSpec.vars.all (Tryd.prog.varReadable ·)) = true := by kernel_rfl
theorem verifyChain_k20 : (Tryd.f8.resultTypes.all (fun t => Tryd.prog.readableRec t && decide (t < Tryd.prog.types.size))) = true := by kernel_rfl
theorem verifyChain_k21 : ((Rows.verifyChainRow.ifacesOut == Tryd.f8.resultTypes.toList.any (Tryd.prog.ifacesRec ·))) = true := by kernel_rfl
theorem verifyChain_k22 : ((Rows.verifyChainRow.loopsOut == Tryd.f8.resultTypes.toList.any (Tryd.prog.loopsFrom ·))) = true := by kernel_rfl
theorem verifyChain_k23 : ((Rows.verifyChainRow.plainKeys == Tryd.prog.plainKeys)) = true := by rw [prog_plainKeys]; kernel_rfl
theorem verifyChain_k24 : (Rows.verifyChainRow.shortTexts.isNone) = true := by kernel_rfl
theorem verifyChain_k25 : (Tryd.prog.stopsHeard) = true := prog_heard
theorem verifyChain_k26 : (Tryd.prog.mayEnter) = true := start_enter
theorem verifyChain_k27 : ((Rows.verifyChainRow.lifted == Tryd.prog.liftsFinal)) = true := by rw [start_final]; kernel_rfl
theorem verifyChain_k28 : ((Tryd.prog.make == some Rows.verifyChainRow.make)) = true := by rw [start_make]; kernel_rfl
theorem verifyChain_k29 : ((Rows.verifyChainRow.kinds == (if Rows.verifyChainRow.domain.isEmpty then [] else Tryd.f8.params.toList.map fun t => match Tryd.prog.underlying t with | some (.int k) => some k | _ => none))) = true := by kernel_rfl
theorem verifyChain_k30 : ((Rows.verifyChainRow.pinned == Rows.verifyChainRow.pinnedBy)) = true := by kernel_rfl
theorem verifyChain_k31 : ((Rows.verifyChainRow.veiled == (Tryd.f8.params.toList ++ Rows.verifyChainSpec.plain.varTypes Tryd.prog ++ Tryd.f8.resultTypes.toList).any (Tryd.prog.veiledRec ·))) = true := by kernel_rfl
theorem verifyChain_k32 : (Rows.verifyChainRow.veiledFits Tryd.prog Tryd.f8.params.toList (Tryd.f8.params.toList ++ Rows.verifyChainSpec.plain.varTypes Tryd.prog ++ Tryd.f8.resultTypes.toList)) = true := by kernel_rfl
theorem verifyChain_closed : joinedFacts Tryd.prog 8 Tryd.f8 Rows.verifyChainSpec Rows.verifyChainRow = true := by
  unfold joinedFacts
  simp only [Bool.and_eq_true]
  exact ⟨⟨⟨⟨⟨⟨⟨⟨⟨⟨⟨⟨⟨⟨⟨⟨⟨⟨⟨⟨⟨⟨⟨⟨⟨⟨⟨⟨⟨⟨⟨verifyChain_k1, verifyChain_k2⟩, verifyChain_k3⟩, verifyChain_k4⟩, verifyChain_k5⟩, verifyChain_k6⟩, verifyChain_k7⟩, verifyChain_k8⟩, verifyChain_k9⟩, verifyChain_k10⟩, verifyChain_k11⟩, verifyChain_k12⟩, verifyChain_k13⟩, verifyChain_k14⟩, verifyChain_k15⟩, verifyChain_k16⟩, verifyChain_k17⟩, verifyChain_k18⟩, verifyChain_k19⟩, verifyChain_k20⟩, verifyChain_k21⟩, verifyChain_k22⟩, verifyChain_k23⟩, verifyChain_k24⟩, verifyChain_k25⟩, verifyChain_k26⟩, verifyChain_k27⟩, verifyChain_k28⟩, verifyChain_k29⟩, verifyChain_k30⟩, verifyChain_k31⟩, verifyChain_k32⟩

theorem verifyChain_named : Tryd.prog.funcNamed "beadroll/beadrolllaw08.VerifyChain" = some 8 := by kernel_rfl
theorem verifyChain_inst : Tryd.f8.isInstance Tryd.prog Rows.verifyChainRow.origin Rows.verifyChainRow.targs := of_decide_eq_true (by kernel_rfl)
theorem verifyChain_wrap : Tryd.f8.isWrapper Tryd.prog Rows.verifyChainRow.wrapper Rows.verifyChainRow.mainSum := by
  unfold Func.isWrapper
  first | (rw [if_pos (by decide +kernel)]; exact start_main) | (rw [if_neg (by decide +kernel)]; exact ⟨rfl, rfl⟩)
theorem verifyChain_holds : Rows.VerifyChainSaid :=
  OpenClaim.holds_of_wide 8 Tryd.f8 rfl rfl rfl rfl rfl rfl rfl ⟨rfl, rfl, rfl, rfl, rfl⟩ rfl rfl rfl rfl rfl verifyChain_named Tryd.func8 verifyChain_closed verifyChain_inst verifyChain_wrap
    (fun os started H enc _ => verifyChain_lifted os started H enc)
theorem verifyChain_text : Rows.verifyChainRow.wfByText (OpenSpec.ofChange Rows.verifyChainSpec) = true := by kernel_rfl
theorem verifyChain_goes : false = Rows.verifyChainRow.goesBy Tryd.prog := by kernel_rfl
theorem verifyChain_looks : false = Tryd.prog.looks [] := by kernel_rfl
theorem verifyChain_proved : Rows.VerifyChainCardSaid :=
  Claim7.holds_tied_plain_at .later [] [.data] true (true, "1bb79c65fc6028ee2f60cf83e41a291b7d90db1594457a275564aeb75b0c78ef") false
    verifyChain_holds (fun _ h => by cases h) verifyChain_text (fun _ h => by cases h) verifyChain_row_tie rfl ⟨rfl, rfl⟩ (start_main.trans (by kernel_rfl)) rfl
    (fun f fn hf hfn => by
      obtain rfl : f = 8 := Option.some.inj (verifyChain_named.symm.trans hf) |>.symm
      obtain rfl : fn = Tryd.f8 := (Option.some.inj (Tryd.func8.symm.trans hfn)).symm
      refine ⟨verifyChain_looks, fun j t ht => ?_⟩
      rw [Tryd.params8] at ht
      have h3 : ∀ t ∈ [35], Tryd.prog.wantsStandIn t = false := by decide +kernel
      exact h3 t (List.mem_of_getElem? (by simpa using ht)))
    verifyChain_goes
#print axioms verifyChain_proved
end Go.Proofs.YtefneilaongpbaaDoor
