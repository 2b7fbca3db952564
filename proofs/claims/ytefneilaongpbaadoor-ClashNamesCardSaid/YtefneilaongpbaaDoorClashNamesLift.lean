/-
  The row's step of ClashNames.
-/
import Derived.Test.YtefneilaongpbaaDoorTreeX
import Derived.Test.YtefneilaongpbaaDoorOpens
import Derived.Test.YtefneilaongpbaaDoorLiftD
set_option linter.unusedVariables false
set_option maxRecDepth 100000
namespace Go.Proofs.YtefneilaongpbaaDoor
open Go Go.Bd Go.RowKit Go.ChangeShapes Go.WideShapes Go.ChangeAt

theorem clashNames_lifted (os : Os) (started : os.Started) (H : Type) (enc : TypeId × Value → H) :
    ReturnsInHanded {} Tryd.checked os 21 .any (fun w args => (Rows.clashNamesSpec.pre enc Tryd.checked.prog Tryd.f21 [] false w args ∧ laidMetH Tryd.prog laidL w) ∧ sizedMet enc Tryd.checked.prog Tryd.f21 (OpenSpec.ofChange Rows.clashNamesSpec) false w args)
      (Rows.clashNamesSpec.post enc Tryd.checked.prog Tryd.f21 false true false false) := by
  refine lift_lawD os started H enc Tryd.func21 (by kernel_rfl) rfl (by kernel_rfl) Tryd.underlying4 (by decide +kernel)
    (ChangeSpec.witness_at (enc := enc) (C := Tryd.checked) (os := os) (X := fun w _ => laidMetH Tryd.prog laidL w) false (laidWorld os) #[] 8 rfl (by kernel_rfl) (by kernel_rfl) (by kernel_rfl) (by kernel_rfl) (by kernel_rfl) (laidWorld_met os _)) ?_ ?_
  · intro ds hl
    have hl' : ds.length = 0 := hl.trans (by kernel_rfl)
    match ds, hl' with
    | [], _ => rfl
  · intro W base args ds p hval hA hK
    have hp : Tryd.f21.params = #[] := Tryd.params21
    rw [hp] at hA hval
    obtain ⟨rfl, rfl, rfl⟩ := trodAll_none hA
    exact names9_call W hK
end Go.Proofs.YtefneilaongpbaaDoor
