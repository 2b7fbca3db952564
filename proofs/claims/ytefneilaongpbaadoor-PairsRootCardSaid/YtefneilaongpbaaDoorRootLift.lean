/-
  The statement: a map's root, or the error, is the document's. Its row lists one package variable, the rounds' words, tied to the program's text.
-/
import Derived.Test.YtefneilaongpbaaDoorRoot5
import Derived.Test.YtefneilaongpbaaDoorOpens
import Derived.Test.YtefneilaongpbaaDoorLiftD
set_option linter.unusedVariables false
set_option maxRecDepth 100000
namespace Go.Proofs.YtefneilaongpbaaDoor
open Go Go.Bd Go.RowKit Go.ChangeShapes Go.WideShapes Go.ChangeAt

theorem pairsRoot_lifted (os : Os) (started : os.Started) (H : Type) (enc : TypeId × Value → H) :
    ReturnsInHanded {} Tryd.checked os 3 .any (fun w args => (Rows.pairsRootSpec.pre enc Tryd.checked.prog Tryd.f3 [] false w args ∧ laidMetH Tryd.prog laidL w) ∧ sizedMet enc Tryd.checked.prog Tryd.f3 (OpenSpec.ofChange Rows.pairsRootSpec) false w args)
      (Rows.pairsRootSpec.post enc Tryd.checked.prog Tryd.f3 false true false false) := by
  refine lift_lawD os started H enc Tryd.func3 (by kernel_rfl) rfl (by kernel_rfl) Tryd.underlying4 (by decide +kernel)
    (ChangeSpec.witness_at (enc := enc) (C := Tryd.checked) (os := os) (X := fun w _ => laidMetH Tryd.prog laidL w) false (laidWorld os) #[.slice none 0 0] 8 rfl (by kernel_rfl) (by kernel_rfl) (by kernel_rfl) (by kernel_rfl) (by kernel_rfl) (laidWorld_met os _)) ?_ ?_
  · intro ds hl
    have hl' : ds.length = 1 := hl.trans (by kernel_rfl)
    match ds, hl' with
    | [d1], _ => rfl
  · intro W base args ds p hval hA hK
    have hp : Tryd.f3.params = #[22] := Tryd.params3
    rw [hp] at hA hval
    obtain ⟨v0, d0, rfl, rfl, h0⟩ := trodAll_one hA
    obtain ⟨ps, hps⟩ := arg_pairs (hval 0 22 v0 rfl rfl) h0
    exact lawRoot_call v0 ps W hps hK
end Go.Proofs.YtefneilaongpbaaDoor
