/-
  The statement: what a proof tells.
-/
import Derived.Test.YtefneilaongpbaaLaw1
import Derived.Test.YtefneilaongpbaaLift
set_option linter.unusedVariables false
set_option maxRecDepth 100000
namespace Go.Proofs.Ytefneilaongpbaa
open Go Go.Bd Go.RowKit Go.ChangeShapes Go.WideShapes Go.ChangeAt

def zeroPrf : Value := .agg (List.replicate 65 (Value.int .u8 0) ++ [Value.slice none 0 0, Value.slice none 0 0] : List Value).toArray
theorem tells_lifted (os : Os) (started : os.Started) (H : Type) (enc : TypeId × Value → H) :
    ReturnsInHanded {} Try.checked os 3 .any (Rows.proofTellsSpec.pre6 enc Try.checked.prog Try.f3 Rows.proofTellsRow.domain false) (Rows.proofTellsSpec.post enc Try.checked.prog Try.f3 false true false false) := by
  refine lift_law (row := Rows.proofTellsRow) os started H enc Try.func3 (by kernel_rfl) rfl (by kernel_rfl) Try.underlying4 (by decide +kernel)
    (ChangeSpec.witness6 (enc := enc) (C := Try.checked) false ⟨#[], #[zeroPrf, zeroPrf], []⟩ 8 (by kernel_rfl) (by kernel_rfl) (by kernel_rfl) (by kernel_rfl)) ?_ ?_
  · intro ds hl
    have hl' : ds.length = 2 := hl.trans (by kernel_rfl)
    match ds, hl' with
    | [d1, d2], _ => rfl
  · intro W base args ds p hval hA
    have hp : Try.f3.params = #[27, 27] := Try.params3
    rw [hp] at hA hval
    obtain ⟨v0, v1, d0, d1, p0, p1, rfl, rfl, rfl, h0, h1⟩ := trodAll_two hA
    obtain ⟨x, u, s, rfl, hx⟩ := open_proof (hval 0 27 v0 rfl rfl) h0
    obtain ⟨y, u', s', rfl, hy⟩ := open_proof (hval 1 27 v1 rfl rfl) h1
    exact law1_call x y u s u' s' W hx hy

theorem tells_proved : Rows.ProofTellsSaid :=
  OpenClaim.holds_of_wide 3 Try.f3 rfl rfl rfl rfl rfl rfl rfl ⟨rfl, rfl, rfl, rfl, rfl⟩ rfl rfl rfl rfl rfl (by kernel_rfl) Try.func3 (by kernel_rfl)
    (of_decide_eq_true (by kernel_rfl)) (by unfold Func.isWrapper; first | (rw [if_pos (by decide +kernel)]; kernel_rfl) | (rw [if_neg (by decide +kernel)]; exact ⟨rfl, rfl⟩))
    (fun os started H enc _ => tells_lifted os started H enc)

#print axioms tells_proved
end Go.Proofs.Ytefneilaongpbaa
