/-
  The statement: maps, values, and what becomes of them.
-/
import Derived.Test.YtefneilaongpbaaPairsN
import Derived.Test.YtefneilaongpbaaOpens
import Derived.Test.YtefneilaongpbaaLift
set_option linter.unusedVariables false
set_option maxRecDepth 100000
namespace Go.Proofs.Ytefneilaongpbaa
open Go Go.Bd Go.RowKit Go.ChangeShapes Go.WideShapes Go.ChangeAt

def zeroDig5 : Value := .agg (List.replicate 32 (Value.int .u8 0)).toArray
theorem do5_lifted (os : Os) (started : os.Started) (H : Type) (enc : TypeId × Value → H) :
    ReturnsInHanded {} Try.checked os 6 .any (Rows.pairsDoSpec.pre6 enc Try.checked.prog Try.f6 Rows.pairsDoRow.domain false) (Rows.pairsDoSpec.post enc Try.checked.prog Try.f6 false true false false) := by
  refine lift_law (row := Rows.pairsDoRow) os started H enc Try.func6 (by kernel_rfl) rfl (by kernel_rfl) Try.underlying4 (by decide +kernel)
    (ChangeSpec.witness6 (enc := enc) (C := Try.checked) false ⟨#[], #[.slice none 0 0, .slice none 0 0, zeroDig5, .slice none 0 0], []⟩ 8 (by kernel_rfl) (by kernel_rfl) (by kernel_rfl) (by kernel_rfl)) ?_ ?_
  · intro ds hl
    have hl' : ds.length = 4 := hl.trans (by kernel_rfl)
    match ds, hl' with
    | [d1, d2, d3, d4], _ => rfl
  · intro W base args ds p hval hA
    have hp : Try.f6.params = #[44, 44, 23, 24] := Try.params6
    rw [hp] at hA hval
    obtain ⟨v0, v1, v2, v3, d0, d1, d2, d3, p0, p1, p2, p3, rfl, rfl, rfl, h0, h1, h2, h3⟩ := trodAll_four hA
    obtain ⟨ps, hps⟩ := arg_pairs (hval 0 44 v0 rfl rfl) h0
    obtain ⟨qs, hqs⟩ := arg_pairs (hval 1 44 v1 rfl rfl) h1
    obtain ⟨k, rfl⟩ := arg_dig (hval 2 23 v2 rfl rfl) h2
    obtain ⟨bs, hbs⟩ := arg_bytes (hval 3 24 v3 rfl rfl) h3
    exact do5_call v0 v1 v3 ps qs k bs W hps hqs hbs

theorem do5_proved : Rows.PairsDoSaid :=
  OpenClaim.holds_of_wide 6 Try.f6 rfl rfl rfl rfl rfl rfl rfl ⟨rfl, rfl, rfl, rfl, rfl⟩ rfl rfl rfl rfl rfl (by kernel_rfl) Try.func6 (by kernel_rfl)
    (of_decide_eq_true (by kernel_rfl)) (by unfold Func.isWrapper; first | (rw [if_pos (by decide +kernel)]; kernel_rfl) | (rw [if_neg (by decide +kernel)]; exact ⟨rfl, rfl⟩))
    (fun os started H enc _ => do5_lifted os started H enc)

#print axioms do5_proved
end Go.Proofs.Ytefneilaongpbaa
