/-
  The row's step of ProofTrue.
-/
import Derived.Test.YtefneilaongpbaaDoorTreeV
import Derived.Test.YtefneilaongpbaaDoorOpens
import Derived.Test.YtefneilaongpbaaDoorOpensT
import Derived.Test.YtefneilaongpbaaDoorLiftD
set_option linter.unusedVariables false
set_option maxRecDepth 100000
namespace Go.Proofs.YtefneilaongpbaaDoor
open Go Go.Bd Go.RowKit Go.ChangeShapes Go.WideShapes Go.ChangeAt

theorem proofTrue_lifted (os : Os) (started : os.Started) (H : Type) (enc : TypeId × Value → H) :
    ReturnsInHanded {} Tryd.checked os 15 .any (fun w args => (Rows.proofTrueSpec.pre enc Tryd.checked.prog Tryd.f15 [] false w args ∧ laidMetH Tryd.prog laidL w) ∧ sizedMet enc Tryd.checked.prog Tryd.f15 (OpenSpec.ofChange Rows.proofTrueSpec) false w args)
      (Rows.proofTrueSpec.post enc Tryd.checked.prog Tryd.f15 false true false false) := by
  refine lift_lawD os started H enc Tryd.func15 (by kernel_rfl) rfl (by kernel_rfl) Tryd.underlying4 (by decide +kernel)
    (ChangeSpec.witness_at (enc := enc) (C := Tryd.checked) (os := os) (X := fun w _ => laidMetH Tryd.prog laidL w) false (laidWorld os) #[(.agg #[Value.slice none 0 0, .int .i64 0]), (.agg (List.replicate 32 (Value.int .u8 0)).toArray)] 8 rfl (by kernel_rfl) (by kernel_rfl) (by kernel_rfl) (by kernel_rfl) (by kernel_rfl) (laidWorld_met os _)) ?_ ?_
  · intro ds hl
    have hl' : ds.length = 2 := hl.trans (by kernel_rfl)
    match ds, hl' with
    | [d0, d1], _ => rfl
  · intro W base args ds p hval hA hK
    have hp : Tryd.f15.params = #[52, 25] := Tryd.params15
    rw [hp] at hA hval
    obtain ⟨v0, v1, d0, d1, p0, p1, rfl, rfl, rfl, h0, h1⟩ := trodAll_two hA
    obtain ⟨tu0, tr0, tn0, rfl, ht0⟩ := arg_tree (hval 0 52 v0 rfl rfl) h0
    obtain ⟨k1, rfl⟩ := arg_dig (hval 1 25 v1 rfl rfl) h1
    exact true7_call tu0 tr0 tn0 k1 W ht0 hK
end Go.Proofs.YtefneilaongpbaaDoor
