/-
  The row's step of VerifyChain.
-/
import Derived.Test.YtefneilaongpbaaDoorVerF
import Derived.Test.YtefneilaongpbaaDoorOpens
import Derived.Test.YtefneilaongpbaaDoorLiftD
set_option linter.unusedVariables false
set_option maxRecDepth 100000
namespace Go.Proofs.YtefneilaongpbaaDoor
open Go Go.Bd Go.RowKit Go.ChangeShapes Go.WideShapes Go.ChangeAt

theorem verifyChain_lifted (os : Os) (started : os.Started) (H : Type) (enc : TypeId × Value → H) :
    ReturnsInHanded {} Tryd.checked os 8 .any (fun w args => (Rows.verifyChainSpec.pre enc Tryd.checked.prog Tryd.f8 [] false w args ∧ laidMetH Tryd.prog laidL w) ∧ sizedMet enc Tryd.checked.prog Tryd.f8 (OpenSpec.ofChange Rows.verifyChainSpec) false w args)
      (Rows.verifyChainSpec.post enc Tryd.checked.prog Tryd.f8 false true false false) := by
  refine lift_lawD os started H enc Tryd.func8 (by kernel_rfl) rfl (by kernel_rfl) Tryd.underlying4 (by decide +kernel)
    (ChangeSpec.witness_at (enc := enc) (C := Tryd.checked) (os := os) (X := fun w _ => laidMetH Tryd.prog laidL w) false (laidWorld os) #[(.agg (List.replicate 65 (Value.int .u8 0) ++ [Value.slice none 0 0, Value.slice none 0 0] : List Value).toArray)] 8 rfl (by kernel_rfl) (by kernel_rfl) (by kernel_rfl) (by kernel_rfl) (by kernel_rfl) (laidWorld_met os _)) ?_ ?_
  · intro ds hl
    have hl' : ds.length = 1 := hl.trans (by kernel_rfl)
    match ds, hl' with
    | [d0], _ => rfl
  · intro W base args ds p hval hA hK
    have hp : Tryd.f8.params = #[35] := Tryd.params8
    rw [hp] at hA hval
    obtain ⟨v0, d0, rfl, rfl, h0⟩ := trodAll_one hA
    obtain ⟨x0, u0, s0, rfl, hx0⟩ := open_proof (hval 0 35 v0 rfl rfl) h0
    exact verifyChain_call x0 u0 s0 W hx0 hK
end Go.Proofs.YtefneilaongpbaaDoor
