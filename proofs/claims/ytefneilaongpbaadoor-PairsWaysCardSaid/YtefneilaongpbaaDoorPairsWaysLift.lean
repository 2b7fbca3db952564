/-
  The row's step of PairsWays.
-/
import Derived.Test.YtefneilaongpbaaDoorPairsW
import Derived.Test.YtefneilaongpbaaDoorOpens
import Derived.Test.YtefneilaongpbaaDoorLiftD
set_option linter.unusedVariables false
set_option maxRecDepth 100000
namespace Go.Proofs.YtefneilaongpbaaDoor
open Go Go.Bd Go.RowKit Go.ChangeShapes Go.WideShapes Go.ChangeAt

theorem pairsWays_lifted (os : Os) (started : os.Started) (H : Type) (enc : TypeId × Value → H) :
    ReturnsInHanded {} Tryd.checked os 10 .any (fun w args => (Rows.pairsWaysSpec.pre enc Tryd.checked.prog Tryd.f10 [] false w args ∧ laidMetH Tryd.prog laidL w) ∧ sizedMet enc Tryd.checked.prog Tryd.f10 (OpenSpec.ofChange Rows.pairsWaysSpec) false w args)
      (Rows.pairsWaysSpec.post enc Tryd.checked.prog Tryd.f10 false true false false) := by
  refine lift_lawD os started H enc Tryd.func10 (by kernel_rfl) rfl (by kernel_rfl) Tryd.underlying4 (by decide +kernel)
    (ChangeSpec.witness_at (enc := enc) (C := Tryd.checked) (os := os) (X := fun w _ => laidMetH Tryd.prog laidL w) false (laidWorld os) #[.slice none 0 0, (.agg (List.replicate 32 (Value.int .u8 0) ++ [Value.slice none 0 0] : List Value).toArray), (.agg (List.replicate 32 (Value.int .u8 0) ++ [Value.slice none 0 0] : List Value).toArray)] 8 rfl (by kernel_rfl) (by kernel_rfl) (by kernel_rfl) (by kernel_rfl) (by kernel_rfl) (laidWorld_met os _)) ?_ ?_
  · intro ds hl
    have hl' : ds.length = 3 := hl.trans (by kernel_rfl)
    match ds, hl' with
    | [d0, d1, d2], _ => rfl
  · intro W base args ds p hval hA hK
    have hp : Tryd.f10.params = #[22, 76, 76] := Tryd.params10
    rw [hp] at hA hval
    obtain ⟨v0, v1, v2, d0, d1, d2, p0, p1, p2, rfl, rfl, rfl, h0, h1, h2⟩ := trodAll_three hA
    obtain ⟨ps0, hps0⟩ := arg_pairs (hval 0 22 v0 rfl rfl) h0
    obtain ⟨y1, uy1, rfl, hy1⟩ := arg_pair (hval 1 76 v1 rfl rfl) h1
    obtain ⟨y2, uy2, rfl, hy2⟩ := arg_pair (hval 2 76 v2 rfl rfl) h2
    exact ways5_call v0 ps0 y1 y2 uy1 uy2 W hps0 hy1 hy2 hK
end Go.Proofs.YtefneilaongpbaaDoor
