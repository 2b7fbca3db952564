import Derived.Test.YtefneilaongpbaaDoorOwnP
import Derived.Test.YtefneilaongpbaaDoorPairsA
import Derived.Test.YtefneilaongpbaaDoorCut
/-
  Copies of pairs.
-/
set_option linter.unusedVariables false
set_option linter.unusedSimpArgs false
set_option maxRecDepth 100000
set_option maxHeartbeats 4000000
namespace Go.Proofs.YtefneilaongpbaaDoor
open Go Go.Bd Go.RowKit
attribute [local irreducible] G GL GQ GS

end Go.Proofs.YtefneilaongpbaaDoor
/-
  pairs.Twin.
-/
set_option linter.unusedVariables false
set_option linter.unusedSimpArgs false
set_option maxRecDepth 100000
set_option maxHeartbeats 4000000
namespace Go.Proofs.YtefneilaongpbaaDoor
open Go Go.Bd Go.RowKit
attribute [local irreducible] G GL GQ GS

theorem pairsN_len {B : Nat} {w : World} {es : List (List Value)} {ps : List Pair} (h : All2 (PairN B w) es ps) : es.flatten.length = ps.length * 33 := by
  induction h with
  | nil => rfl
  | cons h _ ih =>
    obtain ⟨u, rfl, hu⟩ := h
    rw [List.flatten_cons, List.length_append, ih, pcell_len, List.length_cons]
    omega
theorem cloneP_call (v : Value) (n : Nat) (cs : List Value) (S : Where) (w : World) (h : RdF S w v n cs) (hl : cs.length = n * 33) (h1 : ∀ c ∈ cs, c.oneCell' = true) (hm : n ≤ 4294967296) :
    Does Tryd.prog 158 #[v] w fun v' w' => Own w.heap.size w' v' n 33 76 cs ∧ Ext w w' := by
  refine call_walk Tryd.func158 (by kernel_rfl) rfl Tryd.ntmps158 rfl ?_
  obtain ⟨p, c, rfl, hc, hcs⟩ := id h
  cases p with
  | none =>
    refine St0 ?_
    obtain rfl : cs = [] := by
      rcases hcs with h | ⟨b, o, h, _⟩
      · exact h
      · cases h
    obtain rfl : n = 0 := by simp at hl; omega
    exact G.ret1 rfl rfl rfl rfl ⟨Own.bare _ _ none 33 _, Ext.refl w⟩
  | some a =>
    refine St0 ?_
    refine GL.buildSlice _ hT rfl rfl rfl rfl rfl rfl rfl rfl fun b w1 hb hB he => ?_
    refine St0 ?_
    refine GL.append (B := w.heap.size) hT rfl rfl rfl rfl rfl rfl rfl rfl rfl rfl (Own.bare w.heap.size w1 _ 33 _) (h.ext he) hl h1 (by show (0 + n) * 56 ≤ _; omega) (by omega) he.size fun v' w2 ho hb2 _ => ?_
    refine St0 ?_
    refine G.ret1 rfl rfl rfl rfl ⟨?_, he.trans hb2.ext⟩
    simpa using ho
/-- The value of pair j of a row of one's own. -/
theorem ownVal {B : Nat} {w : World} {v : Value} {n j : Nat} {T : TypeId} {k : Dig} {u : Value} {c1 c2 : List Value} (h : Own B w v n 33 T (c1 ++ ((k.cells ++ [u]) ++ c2))) (h1 : c1.length = j * 33) (hj : j < n) :
    ∃ g cap rest, v = .slice (some ⟨g, 0, none⟩) n cap ∧ rowOf v = some g ∧ Blk w g T ((c1 ++ ((k.cells ++ [u]) ++ c2)) ++ rest) ∧ j * 33 + 32 < ((c1 ++ ((k.cells ++ [u]) ++ c2)) ++ rest).length ∧ At any w g (j * 33 + 32) [u] ∧
      ∀ w' u', Blk w' g T (((c1 ++ ((k.cells ++ [u]) ++ c2)) ++ rest).set (j * 33 + 32) u') → Own B w' v n 33 T (c1 ++ ((k.cells ++ [u']) ++ c2)) := by
  obtain ⟨hl, h⟩ := h
  have e : ∀ (u : Value) (rest : List Value), (c1 ++ ((k.cells ++ [u]) ++ c2)) ++ rest = (c1 ++ k.cells) ++ (u :: (c2 ++ rest)) := fun u rest => by simp
  have hlen : (c1 ++ k.cells).length = j * 33 + 32 := by simp [h1, Dig.len]
  rcases h with ⟨rfl, p, rfl⟩ | ⟨g, cap, rest, rfl, hB, hn, hblk, hr⟩
  · omega
  · refine ⟨g, cap, rest, rfl, ?_, hblk, by rw [e]; simp [Dig.len, h1], ?_, fun w' u' hB' => ⟨by simpa [Dig.len] using hl, .inr ⟨g, cap, rest, rfl, hB, hn, ?_, hr⟩⟩⟩
    · cases cap with
      | zero => omega
      | succ c => rfl
    · have : ((c1 ++ ((k.cells ++ [u]) ++ c2)) ++ rest)[j * 33 + 32]? = some u := by
        rw [e, List.getElem?_append_right (by omega), hlen, Nat.sub_self]; rfl
      exact (hblk.one this).imp fun _ _ _ => trivial
    · rw [e, List.set_append_right _ _ (by omega), hlen, Nat.sub_self] at hB'
      rw [e]
      exact hB'
theorem all2_drop {S : Where} {w : World} {es : List (List Value)} {ps : List Pair} (h : All2 (PairC S w) es ps) (j : Nat) : All2 (PairC S w) (es.drop j) (ps.drop j) := h.drop j
theorem pairsTwin_call (v : Value) (ps : List Pair) (S : Where) (w : World) (h : RdP S w v ps) (hm : ps.length ≤ 4294967296) (hv : ∀ x ∈ ps, x.val.length ≤ 140737488355328) :
    Does Tryd.prog 115 #[v] w fun r w' => OwnP w.heap.size w' r ps ∧ Ext w w' := by
  refine call_walk Tryd.func115 (by kernel_rfl) rfl Tryd.ntmps115 rfl ?_
  obtain ⟨es, hes, hrd⟩ := id h
  refine St0 ?_
  refine GL.call rfl rfl rfl (cloneP_call v ps.length es.flatten S w hrd (pairs_len hes) (pairs_one hes) hm) ?_
  rintro r w1 ⟨hown, he1⟩
  obtain ⟨p, c, hr⟩ := hown.shape
  have s1 := he1.size
  subst hr
  refine St0 ?_
  refine G.sub (f' := [(9, iv ((0 : Nat) : Int)), (8, iv (ps.length : Nat)), (3, .slice p ps.length c)]) (by (repeat (first | exact Fr.sub_nil _ | refine Fr.sub_cons rfl ?_))) ?_
  refine G.rounds (α := Nat) (fun j f w' => j ≤ ps.length ∧ Ext w w' ∧ (∃ e1 e2, All2 (PairN w.heap.size w') e1 (ps.take j) ∧ All2 (PairC S w) e2 (ps.drop j) ∧ Own w.heap.size w' (.slice p ps.length c) ps.length 33 76 (e1.flatten ++ e2.flatten)) ∧ f = [(9, iv j), (8, iv (ps.length : Nat)), (3, .slice p ps.length c)]) (fun j => ps.length - j) ?round 0 ⟨by omega, he1, ⟨[], es, .nil, hes, by simpa using hown⟩, rfl⟩
  rintro j f w2 ⟨hj, he2, ⟨e1, e2, h1, h2, ho⟩, rfl⟩ again
  by_cases hlt : (j : Int) < ps.length
  · obtain ⟨x, hx⟩ : ∃ x, ps[j]? = some x := ⟨_, List.getElem?_eq_getElem (by omega)⟩
    have hdr : ps.drop j = x :: ps.drop (j + 1) := by
      rw [List.drop_eq_getElem_cons (by omega)]
      congr 1
      have := (List.getElem?_eq_some_iff.1 hx).2
      exact this
    have htk : ps.take (j + 1) = ps.take j ++ [x] := by rw [List.take_add_one, hx]; rfl
    rw [hdr] at h2
    obtain ⟨ex, er, rfl, ⟨u, rfl, hu⟩, hrest⟩ : ∃ ex er, e2 = ex :: er ∧ PairC S w ex x ∧ All2 (PairC S w) er (ps.drop (j + 1)) := by
      cases h2 with
      | cons h t => exact ⟨_, _, rfl, h, t⟩
    rw [List.flatten_cons] at ho
    have hlen : e1.flatten.length = j * 33 := by rw [pairsN_len h1]; simp; omega
    have s2 := he2.size
    obtain ⟨g, cap, rest, hvv, hrow, hblk, hlen', hat, hback⟩ := ownVal ho hlen (by omega)
    cases hvv
    refine St0 ?_
    (refine GL.indexSlice (j) 33 ((j * 33)) hT rfl rfl rfl rfl rfl rfl rfl rfl ?_ ?_ ?_ ?_; (focus omega); (focus omega); (focus omega))
    refine St1 (hat) ?_
    refine GL.call rfl rfl rfl (cloneB_call u x.val _ w2 (RdB.ext hu he2) (hv x (List.mem_of_getElem? hx))) ?_
    rintro u' w3 ⟨hu', he3⟩
    refine St0 ?_
    (refine GL.indexSlice (j) 33 ((j * 33)) hT rfl rfl rfl rfl rfl rfl rfl rfl ?_ ?_ ?_ ?_; (focus omega); (focus omega); (focus omega))
    refine St0 ?_
    refine GL.store1 hT rfl rfl rfl rfl rfl hu'.some hu'.one (hblk.ext he3) hlen' fun w4 hc4 hblk4 => ?_
    have hgl := (ho.row hrow)
    have he4 : Ext w w4 := hc4.below hgl.1 (he2.trans he3)
    refine St0 ?_
    refine G.sub (by (repeat (first | exact Fr.sub_nil _ | refine Fr.sub_cons rfl ?_))) (again (j + 1) _ _ (by omega) ⟨by omega, he4, ⟨e1 ++ [x.key.cells ++ [u']], er, ?_, hrest, ?_⟩, rfl⟩)
    · rw [htk]
      have hb4 := But.of_chg hc4
      rw [← hrow] at hb4
      have ho3 := ho.ext he3
      exact (h1.imp fun _ _ h => (h.ext he3).but ho3 hb4).append (.cons (PairN.but ⟨u', rfl, hu'.mono s2⟩ ho3 hb4) .nil)
    · have := hback _ _ hblk4
      simpa using this
  · refine St0 ?_
    have hjl : j = ps.length := by omega
    refine G.ret1 rfl rfl rfl rfl ⟨⟨e1, ?_, ?_⟩, he2⟩
    · rw [List.take_of_length_le (by omega)] at h1
      exact h1
    · rw [List.drop_of_length_le (by omega)] at h2
      cases h2
      simpa using ho
end Go.Proofs.YtefneilaongpbaaDoor
/-
  The document's Without.
-/
set_option linter.unusedVariables false
set_option linter.unusedSimpArgs false
set_option maxRecDepth 100000
set_option maxHeartbeats 4000000
namespace Go.Proofs.YtefneilaongpbaaDoor
open Go Go.Bd Go.RowKit
attribute [local irreducible] G GL GQ GS

end Go.Proofs.YtefneilaongpbaaDoor
/-
  The document's With.
-/
set_option linter.unusedVariables false
set_option linter.unusedSimpArgs false
set_option maxRecDepth 100000
set_option maxHeartbeats 4000000
namespace Go.Proofs.YtefneilaongpbaaDoor
open Go Go.Bd Go.RowKit
attribute [local irreducible] G GL GQ GS

end Go.Proofs.YtefneilaongpbaaDoor
