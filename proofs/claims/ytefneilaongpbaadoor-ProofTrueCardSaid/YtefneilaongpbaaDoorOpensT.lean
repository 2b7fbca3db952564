/-
  Arguments opened: trees.
-/
import Derived.Test.YtefneilaongpbaaDoorOpens
import Derived.Test.YtefneilaongpbaaDoorTreeA
set_option linter.unusedVariables false
set_option linter.unusedSimpArgs false
set_option maxRecDepth 100000
namespace Go.Proofs.YtefneilaongpbaaDoor
open Go Go.Bd Go.RowKit Go.ChangeShapes Go.WideShapes Go.ChangeAt
theorem cells_node : Tryd.prog.cellsOf 56 = 36 := by kernel_rfl
theorem cells_tree : Tryd.prog.cellsOf 52 = 2 := by kernel_rfl
theorem cells_nodes : Tryd.prog.cellsOf 50 = 1 := by kernel_rfl
section
variable {H : Type} {enc : TypeId × Value → H} {w : World} {base : Nat} {spare : Nat → Bool} {held : Bool}
theorem open_int {fuel : Nat} {cs : List Value} {x : DataW H × List MemPlace} (h : DataW.trod enc Tryd.prog w base spare held fuel 3 cs = some x) : ∃ n : Int, cs = [iv n] := by
  obtain ⟨n, rfl, _, hw⟩ := DataW.trod_int Tryd.underlying3 h
  exact ⟨n, rfl⟩
theorem open_bool {fuel : Nat} {cs : List Value} {x : DataW H × List MemPlace} (h : DataW.trod enc Tryd.prog w base spare held fuel 4 cs = some x) : ∃ b : Bool, cs = [.bool b] := by
  obtain ⟨b, rfl, _⟩ := DataW.trod_bool Tryd.underlying4 h
  exact ⟨b, rfl⟩
theorem open_node {fuel : Nat} {cs : List Value} {x : DataW H × List MemPlace} (h : DataW.trod enc Tryd.prog w base spare held fuel 56 cs = some x) : ∃ (y : Node) (u : Value), cs = ncells y u ∧ RdB any w u y.val := by
  have hs : Tryd.prog.underlying 56 = some _ := Tryd.underlying56
  obtain ⟨xs, n, _, hx, hcl, hlen, hg⟩ := DataW.trod_struct hs h
  rw [cells_node] at hcl
  have get : ∀ i, i < 5 → ∃ y, xs[i]? = some y := fun i hi => ⟨_, List.getElem?_eq_getElem (by rw [hlen]; exact hi)⟩
  obtain ⟨y0, e0⟩ := get 0 (by omega)
  obtain ⟨y1, e1⟩ := get 1 (by omega)
  obtain ⟨y2, e2⟩ := get 2 (by omega)
  obtain ⟨y3, e3⟩ := get 3 (by omega)
  obtain ⟨y4, e4⟩ := get 4 (by omega)
  have f0 : DataW.trod enc Tryd.prog w base spare held n 4 ((cs.drop 0).take (Tryd.prog.cellsOf 4)) = some y0 := (hg 0 _ rfl).trans e0
  have f1 : DataW.trod enc Tryd.prog w base spare held n 25 ((cs.drop 1).take (Tryd.prog.cellsOf 25)) = some y1 := (hg 1 _ rfl).trans e1
  have f2 : DataW.trod enc Tryd.prog w base spare held n 32 ((cs.drop 33).take (Tryd.prog.cellsOf 32)) = some y2 := (hg 2 _ rfl).trans e2
  have f3 : DataW.trod enc Tryd.prog w base spare held n 3 ((cs.drop 34).take (Tryd.prog.cellsOf 3)) = some y3 := (hg 3 _ rfl).trans e3
  have f4 : DataW.trod enc Tryd.prog w base spare held n 3 ((cs.drop 35).take (Tryd.prog.cellsOf 3)) = some y4 := (hg 4 _ rfl).trans e4
  rw [cells_bool] at f0
  rw [cells_dig] at f1
  rw [cells_bytes] at f2
  rw [cells_int] at f3 f4
  obtain ⟨lf, h0⟩ := open_bool f0
  obtain ⟨k, h1⟩ := open_dig f1
  obtain ⟨u, bs, h2, hub⟩ := open_bytes f2
  obtain ⟨l, h3⟩ := open_int f3
  obtain ⟨r, h4⟩ := open_int f4
  refine ⟨⟨lf, k, bs, l, r⟩, u, ?_, hub⟩
  have a1 : cs = (cs.drop 0).take 1 ++ ((cs.drop 1).take 32 ++ ((cs.drop 33).take 1 ++ ((cs.drop 34).take 1 ++ (cs.drop 35).take 1))) := by
    have b1 : (cs.drop 35).take 1 = cs.drop 35 := List.take_of_length_le (by simp; omega)
    have j : ∀ o m : Nat, (cs.drop o).take m ++ cs.drop (o + m) = cs.drop o := fun o m => by rw [← List.drop_drop]; exact List.take_append_drop m _
    rw [b1, j 34 1, j 33 1, j 1 32, j 0 1]
    simp
  rw [a1, h0, h1, h2, h3, h4]
  simp [ncells]
theorem open_nodes {fuel : Nat} {cs : List Value} {x : DataW H × List MemPlace} (h : DataW.trod enc Tryd.prog w base spare held fuel 50 cs = some x) : ∃ v ns, cs = [v] ∧ RdN any w v ns := by
  rcases Go.Deep.open_slice Tryd.underlying50 h with ⟨rfl, _⟩ | ⟨a, len, cap, m, n, D, Pl, rfl, hb, hl, hm, hmm, hx, hi⟩
  · exact ⟨_, [], rfl, [], .nil, RdF.nil _ _ _ _⟩
  · obtain ⟨es, xs, h1, h2, h3⟩ := open_rows (w := w) (NodeC any w) (a := a) (len := len) (cap := cap) (sz := 36) (by omega) hl (fun i hil => by
      obtain ⟨cs', hc, ht⟩ := hi i (by rw [hmm]; split <;> omega)
      rw [cells_node] at hc
      obtain ⟨y, u, rfl, hub⟩ := open_node ht
      obtain ⟨_, _, hat⟩ := World.cells?_some hc
      refine ⟨_, y, ncells_len _ _, ⟨u, rfl, hub⟩, fun j hj => ?_⟩
      rw [← Go.Deep.add_add]
      exact hat j hj)
    exact ⟨_, xs, rfl, es, h1, by rw [h2]; exact h3⟩
theorem arg_tree {r : Reach} {b0 : Nat} {v : Value} {d : DataW H} {p : List MemPlace} (hv : Value.okWide Tryd.prog w r b0 52 v) (h : DataW.Trod enc Tryd.prog w base spare held 52 v d p) : ∃ u root ns, v = tv u root ∧ RdN any w u ns := by
  have hs : Tryd.prog.underlying 52 = some _ := Tryd.underlying52
  obtain ⟨cs, rfl, hsz⟩ := okWide_struct hs hv
  obtain ⟨fuel, hf⟩ := h
  obtain ⟨xs, n, _, hx, hcl, hlen, hg⟩ := DataW.trod_struct hs hf
  rw [cells_tree] at hsz
  have hcl' : cs.toList.length = 2 := by simpa using hsz
  have get : ∀ i, i < 2 → ∃ y, xs[i]? = some y := fun i hi => ⟨_, List.getElem?_eq_getElem (by rw [hlen]; exact hi)⟩
  obtain ⟨y0, e0⟩ := get 0 (by omega)
  obtain ⟨y1, e1⟩ := get 1 (by omega)
  have f0 : DataW.trod enc Tryd.prog w base spare held n 50 (((Value.agg cs).cells.toList.drop 0).take (Tryd.prog.cellsOf 50)) = some y0 := (hg 0 _ rfl).trans e0
  have f1 : DataW.trod enc Tryd.prog w base spare held n 3 (((Value.agg cs).cells.toList.drop 1).take (Tryd.prog.cellsOf 3)) = some y1 := (hg 1 _ rfl).trans e1
  rw [cells_nodes] at f0
  rw [cells_int] at f1
  obtain ⟨u, ns, hu, hr⟩ := open_nodes f0
  obtain ⟨root, hroot⟩ := open_int f1
  refine ⟨u, root, ns, ?_, hr⟩
  have key : cs.toList = [u, iv root] := by
    have b1 : (cs.toList.drop 1).take 1 = cs.toList.drop 1 := List.take_of_length_le (by simp; omega)
    have a1 : cs.toList = (cs.toList.drop 0).take 1 ++ (cs.toList.drop 1).take 1 := by
      rw [b1, List.drop_zero, List.take_append_drop]
    rw [a1]
    simp only [Value.cells] at hu hroot
    rw [hu, hroot]; rfl
  have : cs = #[u, iv root] := by rw [← Array.toArray_toList (xs := cs), key]
  rw [this]
end
end Go.Proofs.YtefneilaongpbaaDoor
