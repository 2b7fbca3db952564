/-
  The row's step of VerifyMade.
-/
import Derived.Test.YtefneilaongpbaaDoorTreeP
import Derived.Test.YtefneilaongpbaaDoorOpens
import Derived.Test.YtefneilaongpbaaDoorOpensT
import Derived.Test.YtefneilaongpbaaDoorLiftD
set_option linter.unusedVariables false
set_option maxRecDepth 100000
namespace Go.Proofs.YtefneilaongpbaaDoor
open Go Go.Bd Go.RowKit Go.ChangeShapes Go.WideShapes Go.ChangeAt

theorem verifyMade_lifted (os : Os) (started : os.Started) (H : Type) (enc : TypeId × Value → H) :
    ReturnsInHanded {} Tryd.checked os 12 .any (fun w args => (Rows.verifyMadeSpec.pre enc Tryd.checked.prog Tryd.f12 [] false w args ∧ laidMetH Tryd.prog laidL w) ∧ sizedMet enc Tryd.checked.prog Tryd.f12 (OpenSpec.ofChange Rows.verifyMadeSpec) false w args)
      (Rows.verifyMadeSpec.post enc Tryd.checked.prog Tryd.f12 false true false false) := by
  refine lift_lawD os started H enc Tryd.func12 (by kernel_rfl) rfl (by kernel_rfl) Tryd.underlying4 (by decide +kernel)
    (ChangeSpec.witness_at (enc := enc) (C := Tryd.checked) (os := os) (X := fun w _ => laidMetH Tryd.prog laidL w) false (laidWorld os) #[(.agg #[Value.slice none 0 0, .int .i64 0]), (.agg (List.replicate 32 (Value.int .u8 0)).toArray)] 8 rfl (by kernel_rfl) (by kernel_rfl) (by kernel_rfl) (by kernel_rfl) (by kernel_rfl) (laidWorld_met os _)) ?_ ?_
  · intro ds hl
    have hl' : ds.length = 2 := hl.trans (by kernel_rfl)
    match ds, hl' with
    | [d0, d1], _ => rfl
  · intro W base args ds p hval hA hK
    have hp : Tryd.f12.params = #[52, 25] := Tryd.params12
    rw [hp] at hA hval
    obtain ⟨v0, v1, d0, d1, p0, p1, rfl, rfl, rfl, h0, h1⟩ := trodAll_two hA
    obtain ⟨tu0, tr0, tn0, rfl, ht0⟩ := arg_tree (hval 0 52 v0 rfl rfl) h0
    obtain ⟨k1, rfl⟩ := arg_dig (hval 1 25 v1 rfl rfl) h1
    exact made8_call tu0 tr0 tn0 k1 W ht0 hK
end Go.Proofs.YtefneilaongpbaaDoor
