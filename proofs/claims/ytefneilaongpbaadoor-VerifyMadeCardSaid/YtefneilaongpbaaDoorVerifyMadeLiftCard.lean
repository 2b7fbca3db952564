/-
  The card of VerifyMade: the row's closed facts, each by itself, and the row's join.
-/
import Derived.Test.YtefneilaongpbaaDoorVerifyMadeLift
import Derived.Test.YtefneilaongpbaaDoorFront
set_option linter.unusedVariables false
set_option maxRecDepth 100000
namespace Go.Proofs.YtefneilaongpbaaDoor
open Go Go.Bd Go.RowKit Go.ChangeShapes Go.WideShapes Go.ChangeAt

theorem verifyMade_k1 : (Rows.verifyMadeRow.wf (OpenSpec.ofChange Rows.verifyMadeSpec)) = true := by kernel_rfl
theorem verifyMade_k2 : (laidOutB Tryd.prog) = true := prog_laidOut
theorem verifyMade_k3 : (mapsRowed Tryd.prog) = true := prog_maps
theorem verifyMade_k4 : (Tryd.f12.params.all (Tryd.prog.readableRec ·)) = true := by kernel_rfl
theorem verifyMade_k5 : (namedTie Tryd.prog Rows.verifyMadeRow.named Rows.verifyMadeSpec.vars) = true := by kernel_rfl
theorem verifyMade_k6 : ((Rows.verifyMadeRow.stops == [])) = true := by kernel_rfl
theorem verifyMade_k7 : ((Tryd.prog.stops == [])) = true := prog_stops
theorem verifyMade_k8 : ((Rows.verifyMadeRow.knobs == [])) = true := by kernel_rfl
theorem verifyMade_k9 : ((Tryd.prog.stopKnobs == [])) = true := prog_knobs
theorem verifyMade_k10 : ((Rows.verifyMadeRow.inPlace == Tryd.prog.inPlace 12)) = true := by kernel_rfl
theorem verifyMade_k11 : ((Rows.verifyMadeRow.unfollowed == Tryd.prog.unfollowed 12)) = true := by kernel_rfl
theorem verifyMade_k12 : ((Rows.verifyMadeRow.recurses == Tryd.prog.recurses 12)) = true := by kernel_rfl
theorem verifyMade_k13 : ((Rows.verifyMadeRow.named == Tryd.prog.varsNamed 12)) = true := by kernel_rfl
theorem verifyMade_k14 : ((Rows.verifyMadeRow.maps == (Tryd.f12.params.toList ++ Rows.verifyMadeSpec.plain.varTypes Tryd.prog).any (Tryd.prog.mapsRec ·))) = true := by kernel_rfl
theorem verifyMade_k15 : ((Rows.verifyMadeRow.ifaces == (Tryd.f12.params.toList ++ Rows.verifyMadeSpec.plain.varTypes Tryd.prog).any (Tryd.prog.ifacesRec ·))) = true := by kernel_rfl
theorem verifyMade_k16 : ((Rows.verifyMadeRow.mapsOut == Tryd.prog.mapsAmong Tryd.f12.resultTypes.toList)) = true := by kernel_rfl
theorem verifyMade_k17 : ((Rows.verifyMadeRow.loops == (Tryd.f12.params.toList ++ Rows.verifyMadeSpec.plain.varTypes Tryd.prog).any (Tryd.prog.loopsFrom ·))) = true := by kernel_rfl
theorem verifyMade_k18 : ((Rows.verifyMadeRow.wideKeys == (Tryd.f12.params.toList ++ Rows.verifyMadeSpec.plain.varTypes Tryd.prog ++ Tryd.f12.resultTypes.toList).any (Tryd.prog.wideKeysFrom ·))) = true := by kernel_rfl
theorem verifyMade_k19 : (Rows.verifyMadeSpec.vars.all (Tryd.prog.varReadable ·)) = true := by kernel_rfl
theorem verifyMade_k20 : (Tryd.f12.resultTypes.all (fun t => Tryd.prog.readableRec t && decide (t < Tryd.prog.types.size))) = true := by kernel_rfl
theorem verifyMade_k21 : ((Rows.verifyMadeRow.ifacesOut == Tryd.f12.resultTypes.toList.any (Tryd.prog.ifacesRec ·))) = true := by kernel_rfl
theorem verifyMade_k22 : ((Rows.verifyMadeRow.loopsOut == Tryd.f12.resultTypes.toList.any (Tryd.prog.loopsFrom ·))) = true := by kernel_rfl
theorem verifyMade_k23 : ((Rows.verifyMadeRow.plainKeys == Tryd.prog.plainKeys)) = true := by rw [prog_plainKeys]; kernel_rfl
theorem verifyMade_k24 : (Rows.verifyMadeRow.shortTexts.isNone) = true := by kernel_rfl
theorem verifyMade_k25 : (Tryd.prog.stopsHeard) = true := prog_heard
theorem verifyMade_k26 : (Tryd.prog.mayEnter) = true := start_enter
theorem verifyMade_k27 : ((Rows.verifyMadeRow.lifted == Tryd.prog.liftsFinal)) = true := by rw [start_final]; kernel_rfl
theorem verifyMade_k28 : ((Tryd.prog.make == some Rows.verifyMadeRow.make)) = true := by rw [start_make]; kernel_rfl
theorem verifyMade_k29 : ((Rows.verifyMadeRow.kinds == (if Rows.verifyMadeRow.domain.isEmpty then [] else Tryd.f12.params.toList.map fun t => match Tryd.prog.underlying t with | some (.int k) => some k | _ => none))) = true := by kernel_rfl
theorem verifyMade_k30 : ((Rows.verifyMadeRow.pinned == Rows.verifyMadeRow.pinnedBy)) = true := by kernel_rfl
theorem verifyMade_k31 : ((Rows.verifyMadeRow.veiled == (Tryd.f12.params.toList ++ Rows.verifyMadeSpec.plain.varTypes Tryd.prog ++ Tryd.f12.resultTypes.toList).any (Tryd.prog.veiledRec ·))) = true := by kernel_rfl
theorem verifyMade_k32 : (Rows.verifyMadeRow.veiledFits Tryd.prog Tryd.f12.params.toList (Tryd.f12.params.toList ++ Rows.verifyMadeSpec.plain.varTypes Tryd.prog ++ Tryd.f12.resultTypes.toList)) = true := by kernel_rfl
theorem verifyMade_closed : joinedFacts Tryd.prog 12 Tryd.f12 Rows.verifyMadeSpec Rows.verifyMadeRow = true := by
  unfold joinedFacts
  simp only [Bool.and_eq_true]
  exact ⟨⟨⟨⟨⟨⟨⟨⟨⟨⟨⟨⟨⟨⟨⟨⟨⟨⟨⟨⟨⟨⟨⟨⟨⟨⟨⟨⟨⟨⟨⟨verifyMade_k1, verifyMade_k2⟩, verifyMade_k3⟩, verifyMade_k4⟩, verifyMade_k5⟩, verifyMade_k6⟩, verifyMade_k7⟩, verifyMade_k8⟩, verifyMade_k9⟩, verifyMade_k10⟩, verifyMade_k11⟩, verifyMade_k12⟩, verifyMade_k13⟩, verifyMade_k14⟩, verifyMade_k15⟩, verifyMade_k16⟩, verifyMade_k17⟩, verifyMade_k18⟩, verifyMade_k19⟩, verifyMade_k20⟩, verifyMade_k21⟩, verifyMade_k22⟩, verifyMade_k23⟩, verifyMade_k24⟩, verifyMade_k25⟩, verifyMade_k26⟩, verifyMade_k27⟩, verifyMade_k28⟩, verifyMade_k29⟩, verifyMade_k30⟩, verifyMade_k31⟩, verifyMade_k32⟩

theorem verifyMade_named : Tryd.prog.funcNamed "beadroll/beadrolllaw08.VerifyMade" = some 12 := by kernel_rfl
theorem verifyMade_inst : Tryd.f12.isInstance Tryd.prog Rows.verifyMadeRow.origin Rows.verifyMadeRow.targs := of_decide_eq_true (by kernel_rfl)
theorem verifyMade_wrap : Tryd.f12.isWrapper Tryd.prog Rows.verifyMadeRow.wrapper Rows.verifyMadeRow.mainSum := by
  unfold Func.isWrapper
  first | (rw [if_pos (by decide +kernel)]; exact start_main) | (rw [if_neg (by decide +kernel)]; exact ⟨rfl, rfl⟩)
theorem verifyMade_holds : Rows.VerifyMadeSaid :=
  OpenClaim.holds_of_wide 12 Tryd.f12 rfl rfl rfl rfl rfl rfl rfl ⟨rfl, rfl, rfl, rfl, rfl⟩ rfl rfl rfl rfl rfl verifyMade_named Tryd.func12 verifyMade_closed verifyMade_inst verifyMade_wrap
    (fun os started H enc _ => verifyMade_lifted os started H enc)
theorem verifyMade_text : Rows.verifyMadeRow.wfByText (OpenSpec.ofChange Rows.verifyMadeSpec) = true := by kernel_rfl
theorem verifyMade_goes : false = Rows.verifyMadeRow.goesBy Tryd.prog := by kernel_rfl
theorem verifyMade_looks : false = Tryd.prog.looks [] := by kernel_rfl
theorem verifyMade_proved : Rows.VerifyMadeCardSaid :=
  Claim7.holds_tied_plain_at .later [] [.data] true (true, "1bb79c65fc6028ee2f60cf83e41a291b7d90db1594457a275564aeb75b0c78ef") false
    verifyMade_holds (fun _ h => by cases h) verifyMade_text (fun _ h => by cases h) verifyMade_row_tie rfl ⟨rfl, rfl⟩ (start_main.trans (by kernel_rfl)) rfl
    (fun f fn hf hfn => by
      obtain rfl : f = 12 := Option.some.inj (verifyMade_named.symm.trans hf) |>.symm
      obtain rfl : fn = Tryd.f12 := (Option.some.inj (Tryd.func12.symm.trans hfn)).symm
      refine ⟨verifyMade_looks, fun j t ht => ?_⟩
      rw [Tryd.params12] at ht
      have h3 : ∀ t ∈ [52, 25], Tryd.prog.wantsStandIn t = false := by decide +kernel
      exact h3 t (List.mem_of_getElem? (by simpa using ht)))
    verifyMade_goes
#print axioms verifyMade_proved
end Go.Proofs.YtefneilaongpbaaDoor
