/-
  The statement: what becomes of a tree with a value, and without a key.
-/
import Derived.Test.YtefneilaongpbaaTreeK
import Derived.Test.YtefneilaongpbaaOpensT
import Derived.Test.YtefneilaongpbaaLift
set_option linter.unusedVariables false
set_option maxRecDepth 100000
namespace Go.Proofs.Ytefneilaongpbaa
open Go Go.Bd Go.RowKit Go.ChangeShapes Go.WideShapes Go.ChangeAt

def zeroDig6 : Value := .agg (List.replicate 32 (Value.int .u8 0)).toArray
theorem does_lifted (os : Os) (started : os.Started) (H : Type) (enc : TypeId × Value → H) :
    ReturnsInHanded {} Try.checked os 4 .any (Rows.treeDoesSpec.pre6 enc Try.checked.prog Try.f4 Rows.treeDoesRow.domain false) (Rows.treeDoesSpec.post enc Try.checked.prog Try.f4 false true false false) := by
  refine lift_law (row := Rows.treeDoesRow) os started H enc Try.func4 (by kernel_rfl) rfl (by kernel_rfl) Try.underlying4 (by decide +kernel)
    (ChangeSpec.witness6 (enc := enc) (C := Try.checked) false ⟨#[], #[.agg #[.slice none 0 0, .int .i64 0], zeroDig6, .slice none 0 0], []⟩ 8 (by kernel_rfl) (by kernel_rfl) (by kernel_rfl) (by kernel_rfl)) ?_ ?_
  · intro ds hl
    have hl' : ds.length = 3 := hl.trans (by kernel_rfl)
    match ds, hl' with
    | [d1, d2, d3], _ => rfl
  · intro W base args ds p hval hA
    have hp : Try.f4.params = #[39, 23, 24] := Try.params4
    rw [hp] at hA hval
    obtain ⟨v0, v1, v2, d0, d1, d2, p0, p1, p2, rfl, rfl, rfl, h0, h1, h2⟩ := trodAll_three hA
    obtain ⟨u, root, ns, rfl, hns⟩ := arg_tree (hval 0 39 v0 rfl rfl) h0
    obtain ⟨k, rfl⟩ := arg_dig (hval 1 23 v1 rfl rfl) h1
    obtain ⟨bs, hbs⟩ := arg_bytes (hval 2 24 v2 rfl rfl) h2
    exact does6_call u v2 root ns k bs W hns hbs

theorem does_proved : Rows.TreeDoesSaid :=
  OpenClaim.holds_of_wide 4 Try.f4 rfl rfl rfl rfl rfl rfl rfl ⟨rfl, rfl, rfl, rfl, rfl⟩ rfl rfl rfl rfl rfl (by kernel_rfl) Try.func4 (by kernel_rfl)
    (of_decide_eq_true (by kernel_rfl)) (by unfold Func.isWrapper; first | (rw [if_pos (by decide +kernel)]; kernel_rfl) | (rw [if_neg (by decide +kernel)]; exact ⟨rfl, rfl⟩))
    (fun os started H enc _ => does_lifted os started H enc)

#print axioms does_proved
end Go.Proofs.Ytefneilaongpbaa
