/-
  The row's step of PairsNames.
-/
import Derived.Test.YtefneilaongpbaaDoorPairsX
import Derived.Test.YtefneilaongpbaaDoorOpens
import Derived.Test.YtefneilaongpbaaDoorLiftD
set_option linter.unusedVariables false
set_option maxRecDepth 100000
namespace Go.Proofs.YtefneilaongpbaaDoor
open Go Go.Bd Go.RowKit Go.ChangeShapes Go.WideShapes Go.ChangeAt

theorem pairsNames_lifted (os : Os) (started : os.Started) (H : Type) (enc : TypeId × Value → H) :
    ReturnsInHanded {} Tryd.checked os 14 .any (fun w args => (Rows.pairsNamesSpec.pre enc Tryd.checked.prog Tryd.f14 [] false w args ∧ laidMetH Tryd.prog laidL w) ∧ sizedMet enc Tryd.checked.prog Tryd.f14 (OpenSpec.ofChange Rows.pairsNamesSpec) false w args)
      (Rows.pairsNamesSpec.post enc Tryd.checked.prog Tryd.f14 false true false false) := by
  refine lift_lawD os started H enc Tryd.func14 (by kernel_rfl) rfl (by kernel_rfl) Tryd.underlying4 (by decide +kernel)
    (ChangeSpec.witness_at (enc := enc) (C := Tryd.checked) (os := os) (X := fun w _ => laidMetH Tryd.prog laidL w) false (laidWorld os) #[] 8 rfl (by kernel_rfl) (by kernel_rfl) (by kernel_rfl) (by kernel_rfl) (by kernel_rfl) (laidWorld_met os _)) ?_ ?_
  · intro ds hl
    have hl' : ds.length = 0 := hl.trans (by kernel_rfl)
    match ds, hl' with
    | [], _ => rfl
  · intro W base args ds p hval hA hK
    have hp : Tryd.f14.params = #[] := Tryd.params14
    rw [hp] at hA hval
    obtain ⟨rfl, rfl, rfl⟩ := trodAll_none hA
    exact names5_call W hK
end Go.Proofs.YtefneilaongpbaaDoor
