/-
  Arguments opened: pairs, nodes, trees, digests.
-/
import Derived.Test.YtefneilaongpbaaOpen
import Derived.Test.YtefneilaongpbaaPCheck
set_option linter.unusedVariables false
set_option linter.unusedSimpArgs false
set_option maxRecDepth 100000
namespace Go.Proofs.Ytefneilaongpbaa
open Go Go.Bd Go.RowKit Go.ChangeShapes Go.WideShapes Go.ChangeAt
theorem cells_pair : Try.prog.cellsOf 89 = 33 := by kernel_rfl
section
variable {H : Type} {enc : TypeId × Value → H} {w : World} {base : Nat} {spare : Nat → Bool} {held : Bool}
theorem open_pair {fuel : Nat} {cs : List Value} {x : DataW H × List MemPlace} (h : DataW.trod enc Try.prog w base spare held fuel 89 cs = some x) : ∃ k u bs, cs = Dig.cells k ++ [u] ∧ RdB any w u bs := by
  have hs : Try.prog.underlying 89 = some _ := Try.underlying89
  obtain ⟨xs, n, _, hx, hcl, hlen, hg⟩ := DataW.trod_struct hs h
  rw [cells_pair] at hcl
  have get : ∀ i, i < 2 → ∃ y, xs[i]? = some y := fun i hi => ⟨_, List.getElem?_eq_getElem (by rw [hlen]; exact hi)⟩
  obtain ⟨y0, e0⟩ := get 0 (by omega)
  obtain ⟨y1, e1⟩ := get 1 (by omega)
  have f0 : DataW.trod enc Try.prog w base spare held n 23 ((cs.drop 0).take (Try.prog.cellsOf 23)) = some y0 := (hg 0 _ rfl).trans e0
  have f1 : DataW.trod enc Try.prog w base spare held n 24 ((cs.drop 32).take (Try.prog.cellsOf 24)) = some y1 := (hg 1 _ rfl).trans e1
  rw [cells_dig] at f0
  rw [cells_bytes] at f1
  obtain ⟨k, hk⟩ := open_dig f0
  obtain ⟨u, bs, hu, hub⟩ := open_bytes f1
  refine ⟨k, u, bs, ?_, hub⟩
  have b1 : (cs.drop 32).take 1 = cs.drop 32 := List.take_of_length_le (by rw [List.length_drop, hcl]; omega)
  rw [← hk, ← hu, b1, List.drop_zero, List.take_append_drop]
theorem all2_pairs {S : Where} {es : List (List Value)} {xs : List Pair} (h : All2 (fun e (x : Pair) => PairC S w e x) es xs) : All2 (PairC S w) es xs := h
theorem open_pairs {fuel : Nat} {cs : List Value} {x : DataW H × List MemPlace} (h : DataW.trod enc Try.prog w base spare held fuel 44 cs = some x) : ∃ v ps, cs = [v] ∧ RdP any w v ps := by
  rcases Go.Deep.open_slice Try.underlying44 h with ⟨rfl, _⟩ | ⟨a, len, cap, m, n, D, Pl, rfl, hb, hl, hm, hmm, hx, hi⟩
  · exact ⟨_, [], rfl, [], .nil, RdF.nil _ _ _ _⟩
  · obtain ⟨es, xs, h1, h2, h3⟩ := open_rows (w := w) (PairC any w) (a := a) (len := len) (cap := cap) (sz := 33) (by omega) hl (fun i hil => by
      obtain ⟨cs', hc, ht⟩ := hi i (by rw [hmm]; split <;> omega)
      rw [cells_pair] at hc
      obtain ⟨k, u, bs, rfl, hub⟩ := open_pair ht
      obtain ⟨_, _, hat⟩ := World.cells?_some hc
      refine ⟨_, ⟨k, bs⟩, by simp [Dig.len], ⟨u, rfl, hub⟩, fun j hj => ?_⟩
      rw [← Go.Deep.add_add]
      exact hat j hj)
    exact ⟨_, xs, rfl, es, h1, by rw [h2]; exact h3⟩
/-! arguments -/
theorem arg_slice {r : Reach} {b0 : Nat} {t e : TypeId} {v : Value} (hu : Try.prog.underlying t = some (.slice e)) (hv : Value.okWide Try.prog w r b0 t v) : ∃ a len cap, v = .slice a len cap := okWide_slice hu hv
theorem arg_pairs {r : Reach} {b0 : Nat} {v : Value} {d : DataW H} {p : List MemPlace} (hv : Value.okWide Try.prog w r b0 44 v) (h : DataW.Trod enc Try.prog w base spare held 44 v d p) : ∃ ps, RdP any w v ps := by
  obtain ⟨a, len, cap, rfl⟩ := okWide_slice Try.underlying44 hv
  obtain ⟨fuel, hf⟩ := h
  obtain ⟨u, ps, hu, hr⟩ := open_pairs hf
  have : Value.slice a len cap = u := by simpa [Value.cells] using hu
  rw [this]; exact ⟨ps, hr⟩
theorem arg_bytes {r : Reach} {b0 : Nat} {v : Value} {d : DataW H} {p : List MemPlace} (hv : Value.okWide Try.prog w r b0 24 v) (h : DataW.Trod enc Try.prog w base spare held 24 v d p) : ∃ bs, RdB any w v bs := by
  obtain ⟨a, len, cap, rfl⟩ := okWide_slice Try.underlying24 hv
  obtain ⟨fuel, hf⟩ := h
  obtain ⟨u, bs, hu, hr⟩ := open_bytes hf
  have : Value.slice a len cap = u := by simpa [Value.cells] using hu
  rw [this]; exact ⟨bs, hr⟩
theorem arg_dig {r : Reach} {b0 : Nat} {v : Value} {d : DataW H} {p : List MemPlace} (hv : Value.okWide Try.prog w r b0 23 v) (h : DataW.Trod enc Try.prog w base spare held 23 v d p) : ∃ k, v = dv k := by
  have hs : Try.prog.underlying 23 = some _ := Try.underlying23
  unfold Value.okWide at hv
  rw [hs] at hv
  obtain ⟨cs, rfl, _⟩ := hv
  obtain ⟨fuel, hf⟩ := h
  obtain ⟨k, hk⟩ := open_dig hf
  refine ⟨k, ?_⟩
  have : cs.toList = k.cells := hk
  rw [dv, ← this]
end
end Go.Proofs.Ytefneilaongpbaa
