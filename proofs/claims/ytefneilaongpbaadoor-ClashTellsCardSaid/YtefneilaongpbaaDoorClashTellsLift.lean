/-
  The row's step of ClashTells.
-/
import Derived.Test.YtefneilaongpbaaDoorTreeU
import Derived.Test.YtefneilaongpbaaDoorOpens
import Derived.Test.YtefneilaongpbaaDoorOpensT
import Derived.Test.YtefneilaongpbaaDoorLiftD
set_option linter.unusedVariables false
set_option maxRecDepth 100000
namespace Go.Proofs.YtefneilaongpbaaDoor
open Go Go.Bd Go.RowKit Go.ChangeShapes Go.WideShapes Go.ChangeAt

theorem clashTells_lifted (os : Os) (started : os.Started) (H : Type) (enc : TypeId × Value → H) :
    ReturnsInHanded {} Tryd.checked os 19 .any (fun w args => (Rows.clashTellsSpec.pre enc Tryd.checked.prog Tryd.f19 [] false w args ∧ laidMetH Tryd.prog laidL w) ∧ sizedMet enc Tryd.checked.prog Tryd.f19 (OpenSpec.ofChange Rows.clashTellsSpec) false w args)
      (Rows.clashTellsSpec.post enc Tryd.checked.prog Tryd.f19 false true false false) := by
  refine lift_lawD os started H enc Tryd.func19 (by kernel_rfl) rfl (by kernel_rfl) Tryd.underlying4 (by decide +kernel)
    (ChangeSpec.witness_at (enc := enc) (C := Tryd.checked) (os := os) (X := fun w _ => laidMetH Tryd.prog laidL w) false (laidWorld os) #[(.agg #[Value.slice none 0 0, .int .i64 0]), (.agg (List.replicate 65 (Value.int .u8 0) ++ [Value.slice none 0 0, Value.slice none 0 0] : List Value).toArray), (.agg (List.replicate 65 (Value.int .u8 0) ++ [Value.slice none 0 0, Value.slice none 0 0] : List Value).toArray)] 8 rfl (by kernel_rfl) (by kernel_rfl) (by kernel_rfl) (by kernel_rfl) (by kernel_rfl) (laidWorld_met os _)) ?_ ?_
  · intro ds hl
    have hl' : ds.length = 3 := hl.trans (by kernel_rfl)
    match ds, hl' with
    | [d0, d1, d2], _ => rfl
  · intro W base args ds p hval hA hK
    have hp : Tryd.f19.params = #[52, 35, 35] := Tryd.params19
    rw [hp] at hA hval
    obtain ⟨v0, v1, v2, d0, d1, d2, p0, p1, p2, rfl, rfl, rfl, h0, h1, h2⟩ := trodAll_three hA
    obtain ⟨tu0, tr0, tn0, rfl, ht0⟩ := arg_tree (hval 0 52 v0 rfl rfl) h0
    obtain ⟨x1, u1, s1, rfl, hx1⟩ := open_proof (hval 1 35 v1 rfl rfl) h1
    obtain ⟨x2, u2, s2, rfl, hx2⟩ := open_proof (hval 2 35 v2 rfl rfl) h2
    exact tells9_call tu0 tr0 tn0 x1 x2 u1 s1 u2 s2 W ht0 hx1 hx2 hK
end Go.Proofs.YtefneilaongpbaaDoor
