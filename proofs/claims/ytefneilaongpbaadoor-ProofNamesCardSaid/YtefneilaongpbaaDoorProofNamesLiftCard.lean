/-
  The card of ProofNames: the row's closed facts, each by itself, and the row's join.
-/
import Derived.Test.YtefneilaongpbaaDoorProofNamesLift
import Derived.Test.YtefneilaongpbaaDoorFront
set_option linter.unusedVariables false
set_option maxRecDepth 100000
namespace Go.Proofs.YtefneilaongpbaaDoor
open Go Go.Bd Go.RowKit Go.ChangeShapes Go.WideShapes Go.ChangeAt

theorem proofNames_k1 : (Rows.proofNamesRow.wf (OpenSpec.ofChange Rows.proofNamesSpec)) = true := by kernel_rfl
theorem proofNames_k2 : (laidOutB Tryd.prog) = true := prog_laidOut
theorem proofNames_k3 : (mapsRowed Tryd.prog) = true := prog_maps
theorem proofNames_k4 : (Tryd.f11.params.all (Tryd.prog.readableRec ·)) = true := by kernel_rfl
theorem proofNames_k5 : (namedTie Tryd.prog Rows.proofNamesRow.named Rows.proofNamesSpec.vars) = true := by kernel_rfl
theorem proofNames_k6 : ((Rows.proofNamesRow.stops == [])) = true := by kernel_rfl
theorem proofNames_k7 : ((Tryd.prog.stops == [])) = true := prog_stops
theorem proofNames_k8 : ((Rows.proofNamesRow.knobs == [])) = true := by kernel_rfl
theorem proofNames_k9 : ((Tryd.prog.stopKnobs == [])) = true := prog_knobs
theorem proofNames_k10 : ((Rows.proofNamesRow.inPlace == Tryd.prog.inPlace 11)) = true := by kernel_rfl
theorem proofNames_k11 : ((Rows.proofNamesRow.unfollowed == Tryd.prog.unfollowed 11)) = true := by kernel_rfl
theorem proofNames_k12 : ((Rows.proofNamesRow.recurses == Tryd.prog.recurses 11)) = true := by kernel_rfl
theorem proofNames_k13 : ((Rows.proofNamesRow.named == Tryd.prog.varsNamed 11)) = true := by kernel_rfl
theorem proofNames_k14 : ((Rows.proofNamesRow.maps == (Tryd.f11.params.toList ++ Rows.proofNamesSpec.plain.varTypes Tryd.prog).any (Tryd.prog.mapsRec ·))) = true := by kernel_rfl
theorem proofNames_k15 : ((Rows.proofNamesRow.ifaces == (Tryd.f11.params.toList ++ Rows.proofNamesSpec.plain.varTypes Tryd.prog).any (Tryd.prog.ifacesRec ·))) = true := by kernel_rfl
theorem proofNames_k16 : ((Rows.proofNamesRow.mapsOut == Tryd.prog.mapsAmong Tryd.f11.resultTypes.toList)) = true := by kernel_rfl
theorem proofNames_k17 : ((Rows.proofNamesRow.loops == (Tryd.f11.params.toList ++ Rows.proofNamesSpec.plain.varTypes Tryd.prog).any (Tryd.prog.loopsFrom ·))) = true := by kernel_rfl
theorem proofNames_k18 : ((Rows.proofNamesRow.wideKeys == (Tryd.f11.params.toList ++ Rows.proofNamesSpec.plain.varTypes Tryd.prog ++ Tryd.f11.resultTypes.toList).any (Tryd.prog.wideKeysFrom ·))) = true := by kernel_rfl
theorem proofNames_k19 : (Rows.proofNamesSpec.vars.all (Tryd.prog.varReadable ·)) = true := by kernel_rfl
theorem proofNames_k20 : (Tryd.f11.resultTypes.all (fun t => Tryd.prog.readableRec t && decide (t < Tryd.prog.types.size))) = true := by kernel_rfl
theorem proofNames_k21 : ((Rows.proofNamesRow.ifacesOut == Tryd.f11.resultTypes.toList.any (Tryd.prog.ifacesRec ·))) = true := by kernel_rfl
theorem proofNames_k22 : ((Rows.proofNamesRow.loopsOut == Tryd.f11.resultTypes.toList.any (Tryd.prog.loopsFrom ·))) = true := by kernel_rfl
theorem proofNames_k23 : ((Rows.proofNamesRow.plainKeys == Tryd.prog.plainKeys)) = true := by rw [prog_plainKeys]; kernel_rfl
theorem proofNames_k24 : (Rows.proofNamesRow.shortTexts.isNone) = true := by kernel_rfl
theorem proofNames_k25 : (Tryd.prog.stopsHeard) = true := prog_heard
theorem proofNames_k26 : (Tryd.prog.mayEnter) = true := start_enter
theorem proofNames_k27 : ((Rows.proofNamesRow.lifted == Tryd.prog.liftsFinal)) = true := by rw [start_final]; kernel_rfl
theorem proofNames_k28 : ((Tryd.prog.make == some Rows.proofNamesRow.make)) = true := by rw [start_make]; kernel_rfl
theorem proofNames_k29 : ((Rows.proofNamesRow.kinds == (if Rows.proofNamesRow.domain.isEmpty then [] else Tryd.f11.params.toList.map fun t => match Tryd.prog.underlying t with | some (.int k) => some k | _ => none))) = true := by kernel_rfl
theorem proofNames_k30 : ((Rows.proofNamesRow.pinned == Rows.proofNamesRow.pinnedBy)) = true := by kernel_rfl
theorem proofNames_k31 : ((Rows.proofNamesRow.veiled == (Tryd.f11.params.toList ++ Rows.proofNamesSpec.plain.varTypes Tryd.prog ++ Tryd.f11.resultTypes.toList).any (Tryd.prog.veiledRec ·))) = true := by kernel_rfl
theorem proofNames_k32 : (Rows.proofNamesRow.veiledFits Tryd.prog Tryd.f11.params.toList (Tryd.f11.params.toList ++ Rows.proofNamesSpec.plain.varTypes Tryd.prog ++ Tryd.f11.resultTypes.toList)) = true := by kernel_rfl
theorem proofNames_closed : joinedFacts Tryd.prog 11 Tryd.f11 Rows.proofNamesSpec Rows.proofNamesRow = true := by
  unfold joinedFacts
  simp only [Bool.and_eq_true]
  exact ⟨⟨⟨⟨⟨⟨⟨⟨⟨⟨⟨⟨⟨⟨⟨⟨⟨⟨⟨⟨⟨⟨⟨⟨⟨⟨⟨⟨⟨⟨⟨proofNames_k1, proofNames_k2⟩, proofNames_k3⟩, proofNames_k4⟩, proofNames_k5⟩, proofNames_k6⟩, proofNames_k7⟩, proofNames_k8⟩, proofNames_k9⟩, proofNames_k10⟩, proofNames_k11⟩, proofNames_k12⟩, proofNames_k13⟩, proofNames_k14⟩, proofNames_k15⟩, proofNames_k16⟩, proofNames_k17⟩, proofNames_k18⟩, proofNames_k19⟩, proofNames_k20⟩, proofNames_k21⟩, proofNames_k22⟩, proofNames_k23⟩, proofNames_k24⟩, proofNames_k25⟩, proofNames_k26⟩, proofNames_k27⟩, proofNames_k28⟩, proofNames_k29⟩, proofNames_k30⟩, proofNames_k31⟩, proofNames_k32⟩

theorem proofNames_named : Tryd.prog.funcNamed "beadroll/beadrolllaw07.ProofNames" = some 11 := by kernel_rfl
theorem proofNames_inst : Tryd.f11.isInstance Tryd.prog Rows.proofNamesRow.origin Rows.proofNamesRow.targs := of_decide_eq_true (by kernel_rfl)
theorem proofNames_wrap : Tryd.f11.isWrapper Tryd.prog Rows.proofNamesRow.wrapper Rows.proofNamesRow.mainSum := by
  unfold Func.isWrapper
  first | (rw [if_pos (by decide +kernel)]; exact start_main) | (rw [if_neg (by decide +kernel)]; exact ⟨rfl, rfl⟩)
theorem proofNames_holds : Rows.ProofNamesSaid :=
  OpenClaim.holds_of_wide 11 Tryd.f11 rfl rfl rfl rfl rfl rfl rfl ⟨rfl, rfl, rfl, rfl, rfl⟩ rfl rfl rfl rfl rfl proofNames_named Tryd.func11 proofNames_closed proofNames_inst proofNames_wrap
    (fun os started H enc _ => proofNames_lifted os started H enc)
theorem proofNames_text : Rows.proofNamesRow.wfByText (OpenSpec.ofChange Rows.proofNamesSpec) = true := by kernel_rfl
theorem proofNames_goes : false = Rows.proofNamesRow.goesBy Tryd.prog := by kernel_rfl
theorem proofNames_looks : false = Tryd.prog.looks [] := by kernel_rfl
theorem proofNames_proved : Rows.ProofNamesCardSaid :=
  Claim7.holds_tied_plain_at .later [] [.data] true (true, "1bb79c65fc6028ee2f60cf83e41a291b7d90db1594457a275564aeb75b0c78ef") false
    proofNames_holds (fun _ h => by cases h) proofNames_text (fun _ h => by cases h) proofNames_row_tie rfl ⟨rfl, rfl⟩ (start_main.trans (by kernel_rfl)) rfl
    (fun f fn hf hfn => by
      obtain rfl : f = 11 := Option.some.inj (proofNames_named.symm.trans hf) |>.symm
      obtain rfl : fn = Tryd.f11 := (Option.some.inj (Tryd.func11.symm.trans hfn)).symm
      refine ⟨proofNames_looks, fun j t ht => ?_⟩
      rw [Tryd.params11] at ht
      exact absurd ht (by simp))
    proofNames_goes
#print axioms proofNames_proved
end Go.Proofs.YtefneilaongpbaaDoor
