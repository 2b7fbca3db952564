import Derived.Test.YtefneilaongpbaaDoorPrf1
import Derived.Test.YtefneilaongpbaaDoorDraws
/-
  What is read behind a part of a slice.
-/
set_option linter.unusedVariables false
set_option linter.unusedSimpArgs false
namespace Go.Proofs.YtefneilaongpbaaDoor
open Go Go.Bd Go.RowKit
theorem RdF.cut {S : Where} {w : World} {p : Option Addr} {n c L H M sz : Nat} {cs : List Value} (h : RdF S w (.slice p n c) n cs) (hl : cs.length = n * sz) (h1 : L ≤ H) (h2 : H ≤ n) (h3 : H ≤ M) :
    RdF S w (.slice (cutP p L M sz) (H - L) (M - L)) (H - L) ((cs.drop (L * sz)).take ((H - L) * sz)) := by
  obtain ⟨p', c', hv, hc, hr⟩ := h
  cases hv
  refine ⟨_, _, rfl, by omega, ?_⟩
  rcases hr with rfl | ⟨b, o, rfl, hA⟩
  · left; simp
  · by_cases hML : M = L
    · left
      have : H - L = 0 := by omega
      rw [this]; simp
    · right
      refine ⟨b, o + L * sz, ?_, ?_⟩
      · unfold cutP
        rw [if_neg hML]
        simp [add_addr]
      · have hle : L * sz ≤ cs.length := by rw [hl]; exact Nat.mul_le_mul_right _ (by omega)
        refine hA.sub (cs.take (L * sz)) _ (q := (cs.drop (L * sz)).drop ((H - L) * sz)) ?_ (by simp; omega)
        rw [List.take_append_drop, List.take_append_drop]
theorem flat_take {α : Type} {sz : Nat} : ∀ {es : List (List α)}, (∀ e ∈ es, e.length = sz) → ∀ {n : Nat}, (es.take n).flatten = es.flatten.take (n * sz)
  | [], _, n => by simp
  | e :: es, h, 0 => by simp
  | e :: es, h, n + 1 => by
    have h1 := h e (by simp)
    rw [List.take_succ_cons, List.flatten_cons, List.flatten_cons, flat_take (fun x hx => h x (by simp [hx])), Nat.add_mul, Nat.one_mul, Nat.add_comm, ← h1, List.take_append]
    simp [List.take_of_length_le]
theorem flat_drop {α : Type} {sz : Nat} : ∀ {es : List (List α)}, (∀ e ∈ es, e.length = sz) → ∀ {n : Nat}, (es.drop n).flatten = es.flatten.drop (n * sz)
  | [], _, n => by simp
  | e :: es, h, 0 => by simp
  | e :: es, h, n + 1 => by
    have h1 := h e (by simp)
    rw [List.drop_succ_cons, List.flatten_cons, flat_drop (fun x hx => h x (by simp [hx])), Nat.add_mul, Nat.one_mul, Nat.add_comm, ← h1, List.drop_append]
    simp [List.drop_of_length_le]
theorem _root_.Go.Bd.But.trans {r : Option Nat} {w w' w'' : World} (h : But r w w') (h' : But r w' w'') : But r w w'' :=
  ⟨h'.os.trans h.os, h'.tape.trans h.tape, h'.output.trans h.output, Nat.le_trans h.size h'.size, fun k hk hr => (h'.block k (Nat.lt_of_lt_of_le hk h.size) hr).trans (h.block k hk hr)⟩
theorem cutP_some {b o L M sz : Nat} (h : L < M) : cutP (some ⟨b, o, none⟩) L M sz = some ⟨b, o + L * sz, none⟩ := by
  unfold cutP
  rw [if_neg (by omega)]
  simp [add_addr]
end Go.Proofs.YtefneilaongpbaaDoor
/-
  A loop that is left at several places.
-/
set_option linter.unusedVariables false
namespace Go.Bd
open Go.RowKit
section
variable {P : Program} {fn : Func} {E : Fin} {n : Sz} {k : List Item} {f : Fr} {w : World}
theorem G.loopJ {α : Type} {c : Code} {id : Nat} (Inv : α → Fr → World → Prop) (μ : α → Nat) (J : Fr → World → Prop)
    (after : ∀ f w, J f w → G P fn E n k f w)
    (round : ∀ x f w, Inv x f w → (∀ y f' w', μ y < μ x → Inv y f' w' → G P fn E n (.inLoop c :: .inBlock id :: k) f' w') → (∀ f' w', J f' w' → G P fn E n k f' w') → G P fn E n (.code c :: .inLoop c :: .inBlock id :: k) f w)
    (x : α) (h0 : Inv x f w) : G P fn E n (.code (.loop c) :: .inBlock id :: k) f w :=
  G.rounds Inv μ (fun x f w hI again => round x f w hI again after) x h0
end
end Go.Bd
