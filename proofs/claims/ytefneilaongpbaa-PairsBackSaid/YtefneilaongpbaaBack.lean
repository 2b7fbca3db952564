/-
  The statement: what was put is got, and dropped again.
-/
import Derived.Test.YtefneilaongpbaaPairsM
import Derived.Test.YtefneilaongpbaaOpen2
import Derived.Test.YtefneilaongpbaaLift
set_option linter.unusedVariables false
set_option maxRecDepth 100000
namespace Go.Proofs.Ytefneilaongpbaa
open Go Go.Bd Go.RowKit Go.ChangeShapes Go.WideShapes Go.ChangeAt

def zeroDig : Value := .agg (List.replicate 32 (Value.int .u8 0)).toArray
theorem back_lifted (os : Os) (started : os.Started) (H : Type) (enc : TypeId × Value → H) :
    ReturnsInHanded {} Try.checked os 5 .any (Rows.pairsBackSpec.pre6 enc Try.checked.prog Try.f5 Rows.pairsBackRow.domain false) (Rows.pairsBackSpec.post enc Try.checked.prog Try.f5 false true false false) := by
  refine lift_law (row := Rows.pairsBackRow) os started H enc Try.func5 (by kernel_rfl) rfl (by kernel_rfl) Try.underlying4 (by decide +kernel)
    (ChangeSpec.witness6 (enc := enc) (C := Try.checked) false ⟨#[], #[.slice none 0 0, zeroDig, .slice none 0 0, zeroDig], []⟩ 8 (by kernel_rfl) (by kernel_rfl) (by kernel_rfl) (by kernel_rfl)) ?_ ?_
  · intro ds hl
    have hl' : ds.length = 4 := hl.trans (by kernel_rfl)
    match ds, hl' with
    | [d1, d2, d3, d4], _ => rfl
  · intro W base args ds p hval hA
    have hp : Try.f5.params = #[44, 23, 24, 23] := Try.params5
    rw [hp] at hA hval
    obtain ⟨v0, v1, v2, v3, d0, d1, d2, d3, p0, p1, p2, p3, rfl, rfl, rfl, h0, h1, h2, h3⟩ := trodAll_four hA
    obtain ⟨ps, hps⟩ := arg_pairs (hval 0 44 v0 rfl rfl) h0
    obtain ⟨k, rfl⟩ := arg_dig (hval 1 23 v1 rfl rfl) h1
    obtain ⟨bs, hbs⟩ := arg_bytes (hval 2 24 v2 rfl rfl) h2
    obtain ⟨o, rfl⟩ := arg_dig (hval 3 23 v3 rfl rfl) h3
    exact back_call v0 v2 ps k o bs W hps hbs

theorem back_proved : Rows.PairsBackSaid :=
  OpenClaim.holds_of_wide 5 Try.f5 rfl rfl rfl rfl rfl rfl rfl ⟨rfl, rfl, rfl, rfl, rfl⟩ rfl rfl rfl rfl rfl (by kernel_rfl) Try.func5 (by kernel_rfl)
    (of_decide_eq_true (by kernel_rfl)) (by unfold Func.isWrapper; first | (rw [if_pos (by decide +kernel)]; kernel_rfl) | (rw [if_neg (by decide +kernel)]; exact ⟨rfl, rfl⟩))
    (fun os started H enc _ => back_lifted os started H enc)

#print axioms back_proved
end Go.Proofs.Ytefneilaongpbaa
