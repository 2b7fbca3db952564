/-
  The row's step of ClashSeeks.
-/
import Derived.Test.YtefneilaongpbaaDoorClashB
import Derived.Test.YtefneilaongpbaaDoorOpens
import Derived.Test.YtefneilaongpbaaDoorLiftD
set_option linter.unusedVariables false
set_option maxRecDepth 100000
namespace Go.Proofs.YtefneilaongpbaaDoor
open Go Go.Bd Go.RowKit Go.ChangeShapes Go.WideShapes Go.ChangeAt

theorem clashSeeks_lifted (os : Os) (started : os.Started) (H : Type) (enc : TypeId × Value → H) :
    ReturnsInHanded {} Tryd.checked os 7 .any (fun w args => (Rows.clashSeeksSpec.pre enc Tryd.checked.prog Tryd.f7 [] false w args ∧ laidMetH Tryd.prog laidL w) ∧ sizedMet enc Tryd.checked.prog Tryd.f7 (OpenSpec.ofChange Rows.clashSeeksSpec) false w args)
      (Rows.clashSeeksSpec.post enc Tryd.checked.prog Tryd.f7 false true false false) := by
  refine lift_lawD os started H enc Tryd.func7 (by kernel_rfl) rfl (by kernel_rfl) Tryd.underlying4 (by decide +kernel)
    (ChangeSpec.witness_at (enc := enc) (C := Tryd.checked) (os := os) (X := fun w _ => laidMetH Tryd.prog laidL w) false (laidWorld os) #[(.agg (List.replicate 65 (Value.int .u8 0) ++ [Value.slice none 0 0, Value.slice none 0 0] : List Value).toArray), (.agg (List.replicate 65 (Value.int .u8 0) ++ [Value.slice none 0 0, Value.slice none 0 0] : List Value).toArray)] 8 rfl (by kernel_rfl) (by kernel_rfl) (by kernel_rfl) (by kernel_rfl) (by kernel_rfl) (laidWorld_met os _)) ?_ ?_
  · intro ds hl
    have hl' : ds.length = 2 := hl.trans (by kernel_rfl)
    match ds, hl' with
    | [d0, d1], _ => rfl
  · intro W base args ds p hval hA hK
    have hp : Tryd.f7.params = #[35, 35] := Tryd.params7
    rw [hp] at hA hval
    obtain ⟨v0, v1, d0, d1, p0, p1, rfl, rfl, rfl, h0, h1⟩ := trodAll_two hA
    obtain ⟨x0, u0, s0, rfl, hx0⟩ := open_proof (hval 0 35 v0 rfl rfl) h0
    obtain ⟨x1, u1, s1, rfl, hx1⟩ := open_proof (hval 1 35 v1 rfl rfl) h1
    exact clashSeeks_call x0 x1 u0 s0 u1 s1 W hx0 hx1 hK
end Go.Proofs.YtefneilaongpbaaDoor
