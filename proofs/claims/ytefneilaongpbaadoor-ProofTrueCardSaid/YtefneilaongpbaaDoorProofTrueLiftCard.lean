/-
  The card of ProofTrue: the row's closed facts, each by itself, and the row's join.
-/
import Derived.Test.YtefneilaongpbaaDoorProofTrueLift
import Derived.Test.YtefneilaongpbaaDoorFront
set_option linter.unusedVariables false
set_option maxRecDepth 100000
namespace Go.Proofs.YtefneilaongpbaaDoor
open Go Go.Bd Go.RowKit Go.ChangeShapes Go.WideShapes Go.ChangeAt

theorem proofTrue_k1 : (Rows.proofTrueRow.wf (OpenSpec.ofChange Rows.proofTrueSpec)) = true := by kernel_rfl
theorem proofTrue_k2 : (laidOutB Tryd.prog) = true := prog_laidOut
theorem proofTrue_k3 : (mapsRowed Tryd.prog) = true := prog_maps
theorem proofTrue_k4 : (Tryd.f15.params.all (Tryd.prog.readableRec ·)) = true := by kernel_rfl
theorem proofTrue_k5 : (namedTie Tryd.prog Rows.proofTrueRow.named Rows.proofTrueSpec.vars) = true := by kernel_rfl
theorem proofTrue_k6 : ((Rows.proofTrueRow.stops == [])) = true := by kernel_rfl
theorem proofTrue_k7 : ((Tryd.prog.stops == [])) = true := prog_stops
theorem proofTrue_k8 : ((Rows.proofTrueRow.knobs == [])) = true := by kernel_rfl
theorem proofTrue_k9 : ((Tryd.prog.stopKnobs == [])) = true := prog_knobs
theorem proofTrue_k10 : ((Rows.proofTrueRow.inPlace == Tryd.prog.inPlace 15)) = true := by kernel_rfl
theorem proofTrue_k11 : ((Rows.proofTrueRow.unfollowed == Tryd.prog.unfollowed 15)) = true := by kernel_rfl
theorem proofTrue_k12 : ((Rows.proofTrueRow.recurses == Tryd.prog.recurses 15)) = true := by kernel_rfl
theorem proofTrue_k13 : ((Rows.proofTrueRow.named == Tryd.prog.varsNamed 15)) = true := by kernel_rfl
theorem proofTrue_k14 : ((Rows.proofTrueRow.maps == (Tryd.f15.params.toList ++ Rows.proofTrueSpec.plain.varTypes Tryd.prog).any (Tryd.prog.mapsRec ·))) = true := by kernel_rfl
theorem proofTrue_k15 : ((Rows.proofTrueRow.ifaces == (Tryd.f15.params.toList ++ Rows.proofTrueSpec.plain.varTypes Tryd.prog).any (Tryd.prog.ifacesRec ·))) = true := by kernel_rfl
theorem proofTrue_k16 : ((Rows.proofTrueRow.mapsOut == Tryd.prog.mapsAmong Tryd.f15.resultTypes.toList)) = true := by kernel_rfl
theorem proofTrue_k17 : ((Rows.proofTrueRow.loops == (Tryd.f15.params.toList ++ Rows.proofTrueSpec.plain.varTypes Tryd.prog).any (Tryd.prog.loopsFrom ·))) = true := by kernel_rfl
theorem proofTrue_k18 : ((Rows.proofTrueRow.wideKeys == (Tryd.f15.params.toList ++ Rows.proofTrueSpec.plain.varTypes Tryd.prog ++ Tryd.f15.resultTypes.toList).any (Tryd.prog.wideKeysFrom ·))) = true := by kernel_rfl
theorem proofTrue_k19 : (Rows.proofTrueSpec.vars.all (Tryd.prog.varReadable ·)) = true := by kernel_rfl
theorem proofTrue_k20 : (Tryd.f15.resultTypes.all (fun t => Tryd.prog.readableRec t && decide (t < Tryd.prog.types.size))) = true := by kernel_rfl
theorem proofTrue_k21 : ((Rows.proofTrueRow.ifacesOut == Tryd.f15.resultTypes.toList.any (Tryd.prog.ifacesRec ·))) = true := by kernel_rfl
theorem proofTrue_k22 : ((Rows.proofTrueRow.loopsOut == Tryd.f15.resultTypes.toList.any (Tryd.prog.loopsFrom ·))) = true := by kernel_rfl
theorem proofTrue_k23 : ((Rows.proofTrueRow.plainKeys == Tryd.prog.plainKeys)) = true := by rw [prog_plainKeys]; kernel_rfl
theorem proofTrue_k24 : (Rows.proofTrueRow.shortTexts.isNone) = true := by kernel_rfl
theorem proofTrue_k25 : (Tryd.prog.stopsHeard) = true := prog_heard
theorem proofTrue_k26 : (Tryd.prog.mayEnter) = true := start_enter
theorem proofTrue_k27 : ((Rows.proofTrueRow.lifted == Tryd.prog.liftsFinal)) = true := by rw [start_final]; kernel_rfl
theorem proofTrue_k28 : ((Tryd.prog.make == some Rows.proofTrueRow.make)) = true := by rw [start_make]; kernel_rfl
theorem proofTrue_k29 : ((Rows.proofTrueRow.kinds == (if Rows.proofTrueRow.domain.isEmpty then [] else Tryd.f15.params.toList.map fun t => match Tryd.prog.underlying t with | some (.int k) => some k | _ => none))) = true := by kernel_rfl
theorem proofTrue_k30 : ((Rows.proofTrueRow.pinned == Rows.proofTrueRow.pinnedBy)) = true := by kernel_rfl
theorem proofTrue_k31 : ((Rows.proofTrueRow.veiled == (Tryd.f15.params.toList ++ Rows.proofTrueSpec.plain.varTypes Tryd.prog ++ Tryd.f15.resultTypes.toList).any (Tryd.prog.veiledRec ·))) = true := by kernel_rfl
theorem proofTrue_k32 : (Rows.proofTrueRow.veiledFits Tryd.prog Tryd.f15.params.toList (Tryd.f15.params.toList ++ Rows.proofTrueSpec.plain.varTypes Tryd.prog ++ Tryd.f15.resultTypes.toList)) = true := by kernel_rfl
theorem proofTrue_closed : joinedFacts Tryd.prog 15 Tryd.f15 Rows.proofTrueSpec Rows.proofTrueRow = true := by
  unfold joinedFacts
  simp only [Bool.and_eq_true]
  exact ⟨⟨⟨⟨⟨⟨⟨⟨⟨⟨⟨⟨⟨⟨⟨⟨⟨⟨⟨⟨⟨⟨⟨⟨⟨⟨⟨⟨⟨⟨⟨proofTrue_k1, proofTrue_k2⟩, proofTrue_k3⟩, proofTrue_k4⟩, proofTrue_k5⟩, proofTrue_k6⟩, proofTrue_k7⟩, proofTrue_k8⟩, proofTrue_k9⟩, proofTrue_k10⟩, proofTrue_k11⟩, proofTrue_k12⟩, proofTrue_k13⟩, proofTrue_k14⟩, proofTrue_k15⟩, proofTrue_k16⟩, proofTrue_k17⟩, proofTrue_k18⟩, proofTrue_k19⟩, proofTrue_k20⟩, proofTrue_k21⟩, proofTrue_k22⟩, proofTrue_k23⟩, proofTrue_k24⟩, proofTrue_k25⟩, proofTrue_k26⟩, proofTrue_k27⟩, proofTrue_k28⟩, proofTrue_k29⟩, proofTrue_k30⟩, proofTrue_k31⟩, proofTrue_k32⟩

theorem proofTrue_named : Tryd.prog.funcNamed "beadroll/beadrolllaw07.ProofTrue" = some 15 := by kernel_rfl
theorem proofTrue_inst : Tryd.f15.isInstance Tryd.prog Rows.proofTrueRow.origin Rows.proofTrueRow.targs := of_decide_eq_true (by kernel_rfl)
theorem proofTrue_wrap : Tryd.f15.isWrapper Tryd.prog Rows.proofTrueRow.wrapper Rows.proofTrueRow.mainSum := by
  unfold Func.isWrapper
  first | (rw [if_pos (by decide +kernel)]; exact start_main) | (rw [if_neg (by decide +kernel)]; exact ⟨rfl, rfl⟩)
theorem proofTrue_holds : Rows.ProofTrueSaid :=
  OpenClaim.holds_of_wide 15 Tryd.f15 rfl rfl rfl rfl rfl rfl rfl ⟨rfl, rfl, rfl, rfl, rfl⟩ rfl rfl rfl rfl rfl proofTrue_named Tryd.func15 proofTrue_closed proofTrue_inst proofTrue_wrap
    (fun os started H enc _ => proofTrue_lifted os started H enc)
theorem proofTrue_text : Rows.proofTrueRow.wfByText (OpenSpec.ofChange Rows.proofTrueSpec) = true := by kernel_rfl
theorem proofTrue_goes : false = Rows.proofTrueRow.goesBy Tryd.prog := by kernel_rfl
theorem proofTrue_looks : false = Tryd.prog.looks [] := by kernel_rfl
theorem proofTrue_proved : Rows.ProofTrueCardSaid :=
  Claim7.holds_tied_plain_at .later [] [.data] true (true, "1bb79c65fc6028ee2f60cf83e41a291b7d90db1594457a275564aeb75b0c78ef") false
    proofTrue_holds (fun _ h => by cases h) proofTrue_text (fun _ h => by cases h) proofTrue_row_tie rfl ⟨rfl, rfl⟩ (start_main.trans (by kernel_rfl)) rfl
    (fun f fn hf hfn => by
      obtain rfl : f = 15 := Option.some.inj (proofTrue_named.symm.trans hf) |>.symm
      obtain rfl : fn = Tryd.f15 := (Option.some.inj (Tryd.func15.symm.trans hfn)).symm
      refine ⟨proofTrue_looks, fun j t ht => ?_⟩
      rw [Tryd.params15] at ht
      have h3 : ∀ t ∈ [52, 25], Tryd.prog.wantsStandIn t = false := by decide +kernel
      exact h3 t (List.mem_of_getElem? (by simpa using ht)))
    proofTrue_goes
#print axioms proofTrue_proved
end Go.Proofs.YtefneilaongpbaaDoor
