/-
  The row's step of ClashShows.
-/
import Derived.Test.YtefneilaongpbaaDoorTreeU
import Derived.Test.YtefneilaongpbaaDoorOpens
import Derived.Test.YtefneilaongpbaaDoorOpensT
import Derived.Test.YtefneilaongpbaaDoorLiftD
set_option linter.unusedVariables false
set_option maxRecDepth 100000
namespace Go.Proofs.YtefneilaongpbaaDoor
open Go Go.Bd Go.RowKit Go.ChangeShapes Go.WideShapes Go.ChangeAt

theorem clashShows_lifted (os : Os) (started : os.Started) (H : Type) (enc : TypeId × Value → H) :
    ReturnsInHanded {} Tryd.checked os 20 .any (fun w args => (Rows.clashShowsSpec.pre enc Tryd.checked.prog Tryd.f20 [] false w args ∧ laidMetH Tryd.prog laidL w) ∧ sizedMet enc Tryd.checked.prog Tryd.f20 (OpenSpec.ofChange Rows.clashShowsSpec) false w args)
      (Rows.clashShowsSpec.post enc Tryd.checked.prog Tryd.f20 false true false false) := by
  refine lift_lawD os started H enc Tryd.func20 (by kernel_rfl) rfl (by kernel_rfl) Tryd.underlying4 (by decide +kernel)
    (ChangeSpec.witness_at (enc := enc) (C := Tryd.checked) (os := os) (X := fun w _ => laidMetH Tryd.prog laidL w) false (laidWorld os) #[(.agg #[Value.slice none 0 0, .int .i64 0]), (.agg (List.replicate 65 (Value.int .u8 0) ++ [Value.slice none 0 0, Value.slice none 0 0] : List Value).toArray)] 8 rfl (by kernel_rfl) (by kernel_rfl) (by kernel_rfl) (by kernel_rfl) (by kernel_rfl) (laidWorld_met os _)) ?_ ?_
  · intro ds hl
    have hl' : ds.length = 2 := hl.trans (by kernel_rfl)
    match ds, hl' with
    | [d0, d1], _ => rfl
  · intro W base args ds p hval hA hK
    have hp : Tryd.f20.params = #[52, 35] := Tryd.params20
    rw [hp] at hA hval
    obtain ⟨v0, v1, d0, d1, p0, p1, rfl, rfl, rfl, h0, h1⟩ := trodAll_two hA
    obtain ⟨tu0, tr0, tn0, rfl, ht0⟩ := arg_tree (hval 0 52 v0 rfl rfl) h0
    obtain ⟨x1, u1, s1, rfl, hx1⟩ := open_proof (hval 1 35 v1 rfl rfl) h1
    exact shows9_call tu0 tr0 tn0 x1 u1 s1 W ht0 hx1 hK
end Go.Proofs.YtefneilaongpbaaDoor
