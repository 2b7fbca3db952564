/-
  The card of ClashSeeks: the row's closed facts, each by itself, and the row's join.
-/
import Derived.Test.YtefneilaongpbaaDoorClashSeeksLift
import Derived.Test.YtefneilaongpbaaDoorFront
set_option linter.unusedVariables false
set_option maxRecDepth 100000
namespace Go.Proofs.YtefneilaongpbaaDoor
open Go Go.Bd Go.RowKit Go.ChangeShapes Go.WideShapes Go.ChangeAt

theorem clashSeeks_k1 : (Rows.clashSeeksRow.wf (OpenSpec.ofChange Rows.clashSeeksSpec)) = true := by kernel_rfl
theorem clashSeeks_k2 : (laidOutB Tryd.prog) = true := prog_laidOut
theorem clashSeeks_k3 : (mapsRowed Tryd.prog) = true := prog_maps
theorem clashSeeks_k4 : (Tryd.f7.params.all (Tryd.prog.readableRec ·)) = true := by kernel_rfl
theorem clashSeeks_k5 : (namedTie Tryd.prog Rows.clashSeeksRow.named Rows.clashSeeksSpec.vars) = true := by kernel_rfl
theorem clashSeeks_k6 : ((Rows.clashSeeksRow.stops == [])) = true := by kernel_rfl
theorem clashSeeks_k7 : ((Tryd.prog.stops == [])) = true := prog_stops
theorem clashSeeks_k8 : ((Rows.clashSeeksRow.knobs == [])) = true := by kernel_rfl
theorem clashSeeks_k9 : ((Tryd.prog.stopKnobs == [])) = true := prog_knobs
theorem clashSeeks_k10 : ((Rows.clashSeeksRow.inPlace == Tryd.prog.inPlace 7)) = true := by kernel_rfl
theorem clashSeeks_k11 : ((Rows.clashSeeksRow.unfollowed == Tryd.prog.unfollowed 7)) = true := by kernel_rfl
theorem clashSeeks_k12 : ((Rows.clashSeeksRow.recurses == Tryd.prog.recurses 7)) = true := by kernel_rfl
theorem clashSeeks_k13 : ((Rows.clashSeeksRow.named == Tryd.prog.varsNamed 7)) = true := by kernel_rfl
theorem clashSeeks_k14 : ((Rows.clashSeeksRow.maps == (Tryd.f7.params.toList ++ Rows.clashSeeksSpec.plain.varTypes Tryd.prog).any (Tryd.prog.mapsRec ·))) = true := by kernel_rfl
theorem clashSeeks_k15 : ((Rows.clashSeeksRow.ifaces == (Tryd.f7.params.toList ++ Rows.clashSeeksSpec.plain.varTypes Tryd.prog).any (Tryd.prog.ifacesRec ·))) = true := by kernel_rfl
theorem clashSeeks_k16 : ((Rows.clashSeeksRow.mapsOut == Tryd.prog.mapsAmong Tryd.f7.resultTypes.toList)) = true := by kernel_rfl
theorem clashSeeks_k17 : ((Rows.clashSeeksRow.loops == (Tryd.f7.params.toList ++ Rows.clashSeeksSpec.plain.varTypes Tryd.prog).any (Tryd.prog.loopsFrom ·))) = true := by kernel_rfl
theorem clashSeeks_k18 : ((Rows.clashSeeksRow.wideKeys == (Tryd.f7.params.toList ++ Rows.clashSeeksSpec.plain.varTypes Tryd.prog ++ Tryd.f7.resultTypes.toList).any (Tryd.prog.wideKeysFrom ·))) = true := by kernel_rfl
theorem clashSeeks_k19 : (Rows.clashSeeksSpec.vars.all (Tryd.prog.varReadable ·)) = true := by kernel_rfl
theorem clashSeeks_k20 : (Tryd.f7.resultTypes.all (fun t => Tryd.prog.readableRec t && decide (t < Tryd.prog.types.size))) = true := by kernel_rfl
theorem clashSeeks_k21 : ((Rows.clashSeeksRow.ifacesOut == Tryd.f7.resultTypes.toList.any (Tryd.prog.ifacesRec ·))) = true := by kernel_rfl
theorem clashSeeks_k22 : ((Rows.clashSeeksRow.loopsOut == Tryd.f7.resultTypes.toList.any (Tryd.prog.loopsFrom ·))) = true := by kernel_rfl
theorem clashSeeks_k23 : ((Rows.clashSeeksRow.plainKeys == Tryd.prog.plainKeys)) = true := by rw [prog_plainKeys]; kernel_rfl
theorem clashSeeks_k24 : (Rows.clashSeeksRow.shortTexts.isNone) = true := by kernel_rfl
theorem clashSeeks_k25 : (Tryd.prog.stopsHeard) = true := prog_heard
theorem clashSeeks_k26 : (Tryd.prog.mayEnter) = true := start_enter
theorem clashSeeks_k27 : ((Rows.clashSeeksRow.lifted == Tryd.prog.liftsFinal)) = true := by rw [start_final]; kernel_rfl
theorem clashSeeks_k28 : ((Tryd.prog.make == some Rows.clashSeeksRow.make)) = true := by rw [start_make]; kernel_rfl
theorem clashSeeks_k29 : ((Rows.clashSeeksRow.kinds == (if Rows.clashSeeksRow.domain.isEmpty then [] else Tryd.f7.params.toList.map fun t => match Tryd.prog.underlying t with | some (.int k) => some k | _ => none))) = true := by kernel_rfl
theorem clashSeeks_k30 : ((Rows.clashSeeksRow.pinned == Rows.clashSeeksRow.pinnedBy)) = true := by kernel_rfl
theorem clashSeeks_k31 : ((Rows.clashSeeksRow.veiled == (Tryd.f7.params.toList ++ Rows.clashSeeksSpec.plain.varTypes Tryd.prog ++ Tryd.f7.resultTypes.toList).any (Tryd.prog.veiledRec ·))) = true := by kernel_rfl
theorem clashSeeks_k32 : (Rows.clashSeeksRow.veiledFits Tryd.prog Tryd.f7.params.toList (Tryd.f7.params.toList ++ Rows.clashSeeksSpec.plain.varTypes Tryd.prog ++ Tryd.f7.resultTypes.toList)) = true := by kernel_rfl
theorem clashSeeks_closed : joinedFacts Tryd.prog 7 Tryd.f7 Rows.clashSeeksSpec Rows.clashSeeksRow = true := by
  unfold joinedFacts
  simp only [Bool.and_eq_true]
  exact ⟨⟨⟨⟨⟨⟨⟨⟨⟨⟨⟨⟨⟨⟨⟨⟨⟨⟨⟨⟨⟨⟨⟨⟨⟨⟨⟨⟨⟨⟨⟨clashSeeks_k1, clashSeeks_k2⟩, clashSeeks_k3⟩, clashSeeks_k4⟩, clashSeeks_k5⟩, clashSeeks_k6⟩, clashSeeks_k7⟩, clashSeeks_k8⟩, clashSeeks_k9⟩, clashSeeks_k10⟩, clashSeeks_k11⟩, clashSeeks_k12⟩, clashSeeks_k13⟩, clashSeeks_k14⟩, clashSeeks_k15⟩, clashSeeks_k16⟩, clashSeeks_k17⟩, clashSeeks_k18⟩, clashSeeks_k19⟩, clashSeeks_k20⟩, clashSeeks_k21⟩, clashSeeks_k22⟩, clashSeeks_k23⟩, clashSeeks_k24⟩, clashSeeks_k25⟩, clashSeeks_k26⟩, clashSeeks_k27⟩, clashSeeks_k28⟩, clashSeeks_k29⟩, clashSeeks_k30⟩, clashSeeks_k31⟩, clashSeeks_k32⟩

theorem clashSeeks_named : Tryd.prog.funcNamed "beadroll/beadrolllaw09.ClashSeeks" = some 7 := by kernel_rfl
theorem clashSeeks_inst : Tryd.f7.isInstance Tryd.prog Rows.clashSeeksRow.origin Rows.clashSeeksRow.targs := of_decide_eq_true (by kernel_rfl)
theorem clashSeeks_wrap : Tryd.f7.isWrapper Tryd.prog Rows.clashSeeksRow.wrapper Rows.clashSeeksRow.mainSum := by
  unfold Func.isWrapper
  first | (rw [if_pos (by decide +kernel)]; exact start_main) | (rw [if_neg (by decide +kernel)]; exact ⟨rfl, rfl⟩)
theorem clashSeeks_holds : Rows.ClashSeeksSaid :=
  OpenClaim.holds_of_wide 7 Tryd.f7 rfl rfl rfl rfl rfl rfl rfl ⟨rfl, rfl, rfl, rfl, rfl⟩ rfl rfl rfl rfl rfl clashSeeks_named Tryd.func7 clashSeeks_closed clashSeeks_inst clashSeeks_wrap
    (fun os started H enc _ => clashSeeks_lifted os started H enc)
theorem clashSeeks_text : Rows.clashSeeksRow.wfByText (OpenSpec.ofChange Rows.clashSeeksSpec) = true := by kernel_rfl
theorem clashSeeks_goes : false = Rows.clashSeeksRow.goesBy Tryd.prog := by kernel_rfl
theorem clashSeeks_looks : false = Tryd.prog.looks [] := by kernel_rfl
theorem clashSeeks_proved : Rows.ClashSeeksCardSaid :=
  Claim7.holds_tied_plain_at .later [] [.data] true (true, "1bb79c65fc6028ee2f60cf83e41a291b7d90db1594457a275564aeb75b0c78ef") false
    clashSeeks_holds (fun _ h => by cases h) clashSeeks_text (fun _ h => by cases h) clashSeeks_row_tie rfl ⟨rfl, rfl⟩ (start_main.trans (by kernel_rfl)) rfl
    (fun f fn hf hfn => by
      obtain rfl : f = 7 := Option.some.inj (clashSeeks_named.symm.trans hf) |>.symm
      obtain rfl : fn = Tryd.f7 := (Option.some.inj (Tryd.func7.symm.trans hfn)).symm
      refine ⟨clashSeeks_looks, fun j t ht => ?_⟩
      rw [Tryd.params7] at ht
      have h3 : ∀ t ∈ [35, 35], Tryd.prog.wantsStandIn t = false := by decide +kernel
      exact h3 t (List.mem_of_getElem? (by simpa using ht)))
    clashSeeks_goes
#print axioms clashSeeks_proved
end Go.Proofs.YtefneilaongpbaaDoor
