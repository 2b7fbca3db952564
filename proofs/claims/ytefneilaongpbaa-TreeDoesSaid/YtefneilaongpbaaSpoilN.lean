/-
  Trees are written over: what else there is stays.
-/
import Derived.Test.YtefneilaongpbaaSpoilP
import Derived.Test.YtefneilaongpbaaTreeE
set_option linter.unusedVariables false
set_option linter.unusedSimpArgs false
set_option maxRecDepth 100000
set_option maxHeartbeats 4000000
namespace Go.Proofs.Ytefneilaongpbaa
open Go Go.Bd Go.RowKit
attribute [local irreducible] G GL GQ GS

theorem ownN_trunc {B U : Nat} {w : World} {v : Value} {ns : List Node} (h : OwnN B w v ns) (hU : w.heap.size ≤ U) : OwnN B (trunc U w) v ns := by
  obtain ⟨es, h1, h2⟩ := h
  exact ⟨es, h1.imp fun e x ⟨u, hu, ho⟩ => ⟨u, hu, own_trunc ho hU⟩, own_trunc h2 hU⟩
theorem ownN_full {B U : Nat} {w : World} {v : Value} {ns : List Node} (h : OwnN B (trunc U w) v ns) : OwnN B w v ns := by
  obtain ⟨es, h1, h2⟩ := h
  exact ⟨es, h1.imp fun e x ⟨u, hu, ho⟩ => ⟨u, hu, own_full ho⟩, own_full h2⟩
theorem own_same {B U : Nat} {w w' : World} {v : Value} {n sz : Nat} {T : TypeId} {cs : List Value} (h : Own B (trunc U w) v n sz T cs) (hk : ∀ k, B ≤ k → k < U → w'.heap[k]? = w.heap[k]?) : Own B (trunc U w') v n sz T cs := by
  obtain ⟨hl, h⟩ := h
  refine ⟨hl, h.imp id ?_⟩
  rintro ⟨g, cap, rest, hv, hB, hn, hblk, hr⟩
  obtain ⟨hg, hb⟩ := blk_trunc hblk
  exact ⟨g, cap, rest, hv, hB, hn, trunc_blk (hb.keep (hk g hB hg)) hg, hr⟩
theorem ownN_same {B U : Nat} {w w' : World} {v : Value} {ns : List Node} (h : OwnN B (trunc U w) v ns) (hk : ∀ k, B ≤ k → k < U → w'.heap[k]? = w.heap[k]?) : OwnN B (trunc U w') v ns := by
  obtain ⟨es, h1, h2⟩ := h
  exact ⟨es, h1.imp fun e x ⟨u, hu, ho⟩ => ⟨u, hu, own_same ho hk⟩, own_same h2 hk⟩
theorem nodes_turn {B : Nat} {w1 w2 : World} {es : List (List Value)} {ns : List Node} (h1 : All2 (NodeN B w1) es ns) (step : ∀ u x, OwnB B w1 u x → ∃ x' : Bytes, x'.length = x.length ∧ OwnB B w2 u x') :
    ∃ ns', ns'.length = ns.length ∧ (∀ (k : Nat) (z z' : Node), ns[k]? = some z → ns'[k]? = some z' → z'.val.length = z.val.length) ∧ All2 (NodeN B w2) es ns' := by
  induction h1 with
  | nil => exact ⟨[], rfl, fun k z z' h => by simp at h, .nil⟩
  | cons h _ ih =>
    obtain ⟨ns', i1, i2, i3⟩ := ih
    obtain ⟨u, hu, ho⟩ := h
    obtain ⟨x', q1, q2⟩ := step _ _ ho
    rename_i a b xs ys _
    refine ⟨{ b with val := x' } :: ns', by simp [i1], fun k z z' hz hz' => ?_, .cons ⟨u, hu, q2⟩ i3⟩
    cases k with
    | zero => simp at hz hz'; subst hz; subst hz'; exact q1
    | succ k => exact i2 k z z' (by simpa using hz) (by simpa using hz')
/-- Where a value's byte lies. -/
theorem ownN_byte {B U : Nat} {w : World} {v : Value} {ns : List Node} (h : OwnN B (trunc U w) v ns) {i j : Nat} {x : Node} (hx : ns[i]? = some x) (hj : j < x.val.length) :
    ∃ b c u g cap rest, v = .slice (some ⟨b, 0, none⟩) ns.length c ∧ At any w b (i * 36 + 33) [u] ∧ u = .slice (some ⟨g, 0, none⟩) x.val.length cap ∧ B ≤ g ∧ g < U ∧ Blk w g 5 (bcells x.val ++ rest) ∧
      ∀ w' y, (∀ q, q ≠ g → q < U → w'.heap[q]? = w.heap[q]?) → Blk w' g 5 ((bcells x.val ++ rest).set j (bv y)) → ∃ ns', ns'.length = ns.length ∧ (∀ (k : Nat) (z z' : Node), ns[k]? = some z → ns'[k]? = some z' → z'.val.length = z.val.length) ∧ OwnN B (trunc U w') v ns' := by
  obtain ⟨es, h1, h2⟩ := h
  obtain ⟨e, he, u, rfl, hu⟩ := h1.at i x hx
  have hlt := (List.getElem?_eq_some_iff.1 hx).1
  obtain ⟨b, cap, rest, rfl, hrow, hBb, hnc, hblk, hr, hl2⟩ := h2.parts (by omega)
  obtain ⟨g, cap', rest', rfl, hrow', hBg, hnc', hblk', hr', hl⟩ := Own.parts hu (by omega)
  obtain ⟨hgU, hBlkg⟩ := blk_trunc hblk'
  obtain ⟨hbU, hBlkb⟩ := blk_trunc hblk
  refine ⟨b, cap, _, g, cap', rest', rfl, ?_, rfl, hBg, hgU, hBlkg, fun w' y hc hB' => ?_⟩
  · have hE : ∀ q ∈ es, q.length = 36 := nodesN_len36 h1
    obtain ⟨e1, e2⟩ := flatten_at 36 es hE i _ he
    refine (hBlkb.one (o := i * 36 + 33) ?_).imp fun _ _ _ => trivial
    rw [e1, List.append_assoc, List.append_assoc]
    exact mid_at e2 (ncells_val _ _)
  · have hcT : ∀ q, q ≠ g → (trunc U w').heap[q]? = (trunc U w).heap[q]? := fun q hq => by
      by_cases hqU : q < U
      · rw [trunc_get hqU, trunc_get hqU, hc q hq hqU]
      · rw [Array.getElem?_eq_none (by rw [trunc_size]; omega), Array.getElem?_eq_none (by rw [trunc_size]; omega)]
    obtain ⟨ns', q1, q2, q3⟩ := nodes_turn (w2 := trunc U w') h1 fun u x ho => ownB_set ho hblk' hcT (trunc_blk hB' hgU)
    refine ⟨ns', q1, q2, es, q3, ?_⟩
    rw [q1]
    exact h2.keep (fun q hq _ => hcT q (fun e => h2.ne_blk hblk' (by decide) (by rw [hq, e]))) (by decide)
theorem ncells_left (x : Node) (u : Value) (z : Int) : (ncells x u).set 34 (iv z) = ncells { x with left := z } u := by
  have e : ∀ (x : Node), ncells x u = (.bool x.leaf :: (x.key.cells ++ [u])) ++ (iv x.left :: [iv x.right]) := fun x => by simp [ncells]
  rw [e, e, List.set_append_right _ _ (by simp [Dig.len])]
  simp [Dig.len]
/-- Where a node's left road lies. -/
theorem ownN_left {B U : Nat} {w : World} {v : Value} {ns : List Node} (h : OwnN B (trunc U w) v ns) {i : Nat} {x : Node} (hx : ns[i]? = some x) (z : Int) :
    ∃ b c cs, v = .slice (some ⟨b, 0, none⟩) ns.length c ∧ B ≤ b ∧ b < U ∧ Blk w b 74 cs ∧ i * 36 + 34 < cs.length ∧
      ∀ w', (∀ q, q ≠ b → q < U → w'.heap[q]? = w.heap[q]?) → Blk w' b 74 (cs.set (i * 36 + 34) (iv z)) → ∃ ns', ns'.length = ns.length ∧ (∀ (k : Nat) (y y' : Node), ns[k]? = some y → ns'[k]? = some y' → y'.val.length = y.val.length) ∧ OwnN B (trunc U w') v ns' := by
  obtain ⟨es, h1, h2⟩ := h
  obtain ⟨e, he, u, rfl, hu⟩ := h1.at i x hx
  have hlt := (List.getElem?_eq_some_iff.1 hx).1
  obtain ⟨b, cap, rest, rfl, hrow, hBb, hblk, hlen, hback⟩ := h2.setAt (k := i * 36 + 34) (by omega)
  obtain ⟨hbU, hBlkb⟩ := blk_trunc hblk
  have hE : ∀ q ∈ es, q.length = 36 := nodesN_len36 h1
  refine ⟨b, cap, es.flatten ++ rest, rfl, hBb, hbU, hBlkb, hlen, fun w' hc hB' => ?_⟩
  have hcT : ∀ q, q ≠ b → (trunc U w').heap[q]? = (trunc U w).heap[q]? := fun q hq => by
    by_cases hqU : q < U
    · rw [trunc_get hqU, trunc_get hqU, hc q hq hqU]
    · rw [Array.getElem?_eq_none (by rw [trunc_size]; omega), Array.getElem?_eq_none (by rw [trunc_size]; omega)]
  have hkeep : ∀ {u : Value} {bs : Bytes}, OwnB B (trunc U w) u bs → OwnB B (trunc U w') u bs := fun ho => ho.keep (fun q hq _ => hcT q (fun e => ho.ne_blk hblk (by decide) (by rw [hq, e]))) (by decide)
  have hown' := hback (trunc U w') (iv z) (trunc_blk hB' hbU)
  rw [flatten_set (v := iv z) hE he (show 34 < 36 by omega), ncells_left] at hown'
  refine ⟨ns.set i { x with left := z }, by simp, fun k y y' hy hy' => ?_, es.set i (ncells { x with left := z } u), ?_, by rw [List.length_set]; exact hown'⟩
  · rw [List.getElem?_set] at hy'
    by_cases hik : i = k
    · subst hik
      rw [if_pos rfl, if_pos hlt] at hy'
      cases hy'
      rw [hx] at hy; cases hy; rfl
    · rw [if_neg hik, hy] at hy'; cases hy'; rfl
  · exact all2_set (h1.imp fun e z ⟨u, q1, q2⟩ => ⟨u, q1, hkeep q2⟩) ⟨u, rfl, hkeep hu⟩ hlt

theorem Only.blk {B U b : Nat} {w w' : World} {T : TypeId} {c : List Value} (h : Only B U w w') (hB : Blk w b T c) (hb : b < B ∨ U ≤ b) : Blk w' b T c := hB.keep (h.block b hB.lt hb)
theorem spoil6_call (v : Value) (r : Int) (ns : List Node) (B U : Nat) (w : World) (h : OwnN B (trunc U w) v ns) (hU : U ≤ w.heap.size) (hn : ns.length ≤ 1000000) (hv : ∀ x ∈ ns, x.val.length ≤ 1000) :
    Does Try.prog 24 #[tv v r] w fun q w' => Only B U w w' := by
  refine call_walk Try.func24 (by kernel_rfl) rfl Try.ntmps24 rfl ?_
  obtain ⟨p, c, rfl, hc⟩ := (ownN_full h).rd.isSlice
  refine St0 ?_
  refine GL.box (vs := [.slice p ns.length c, iv r]) rfl rfl rfl rfl fun b1 w0 hb1 hB1 he0 => ?_
  have h0 := ownN_same (w' := w0) h (fun k _ hk => he0.block k (by omega))
  have s0 := he0.size
  refine St0 ?_
  refine G.sub (f' := [(2, iv ((0 : Nat) : Int)), (1, ptr b1 0)]) (by (repeat (first | exact Fr.sub_nil _ | refine Fr.sub_cons rfl ?_))) ?_
  refine G.rounds (α := Nat) (fun i f w' => i ≤ ns.length ∧ Only B U w w' ∧ Blk w' b1 39 [.slice p ns.length c, iv r] ∧ (∃ ns', ns'.length = ns.length ∧ (∀ x ∈ ns', x.val.length ≤ 1000) ∧ OwnN B (trunc U w') (.slice p ns.length c) ns') ∧ f = [(2, iv i), (1, ptr b1 0)]) (fun i => ns.length - i) ?round 0 ⟨by omega, Only.ext he0, hB1, ⟨ns, rfl, hv, h0⟩, rfl⟩
  clear h hv h0 hB1
  rintro i f w1 ⟨hi, ho1, hB1, ⟨ns1, hl1, hv1, h1⟩, rfl⟩ again
  have z1 := ho1.size
  by_cases hlt : (i : Int) < ns.length
  · obtain ⟨x, hx⟩ : ∃ x, ns1[i]? = some x := ⟨_, List.getElem?_eq_getElem (by omega)⟩
    have hxv := hv1 x (List.mem_of_getElem? hx)
    refine St1 ((tvAt hB1.all).1) ?_
    refine G.sub (f' := [(3, iv ((0 : Nat) : Int)), (2, iv i), (1, ptr b1 0)]) (by (repeat (first | exact Fr.sub_nil _ | refine Fr.sub_cons rfl ?_))) ?_
    refine G.rounds (α := Nat) (fun j f w' => j ≤ x.val.length ∧ Only B U w w' ∧ Blk w' b1 39 [.slice p ns.length c, iv r] ∧ (∃ ns' y, ns'.length = ns.length ∧ (∀ x ∈ ns', x.val.length ≤ 1000) ∧ OwnN B (trunc U w') (.slice p ns.length c) ns' ∧ ns'[i]? = some y ∧ y.val.length = x.val.length) ∧ f = [(3, iv j), (2, iv i), (1, ptr b1 0)]) (fun j => x.val.length - j) ?round2 0 ⟨by omega, ho1, hB1, ⟨ns1, x, hl1, hv1, h1, hx, rfl⟩, rfl⟩
    clear h1 hv1 ho1 hx hl1 hB1
    rintro j f w2 ⟨hj, ho2, hB1, ⟨ns2, y, hl2, hv2, h2, hy, hyl⟩, rfl⟩ again2
    have z2 := ho2.size
    obtain ⟨bb, oo, c2, uy, hvv, huy, hAy⟩ := (ownN_full h2).rd.elem hy
    rw [hl2] at hvv
    cases hvv
    obtain ⟨pu, cu, rfl, hcu⟩ := RdF.isSlice huy
    rw [hyl] at hAy
    have hval := (nAt hAy).val
    refine St1 ((tvAt hB1.all).1) ?_
    (refine GL.indexSlice (i) 36 ((oo + i * 36)) hT rfl rfl rfl rfl rfl rfl rfl rfl ?_ ?_ ?_ ?_; (focus omega); (focus omega); (focus omega))
    refine St1 (hval) ?_
    by_cases hlt2 : (j : Int) < x.val.length
    · obtain ⟨b, c', u, g, cap, rest, hv', hA, rfl, hBg, hgU, hBlk, hset⟩ := ownN_byte h2 hy (j := j) (by omega)
      rw [hl2] at hv'
      cases hv'
      rw [hyl] at hA
      have hyj : (bcells y.val)[j]? = some (bv (y.val.getD j 0)) := by
        have hq := getD_at (show j < y.val.length by omega)
        simp only [bcells, List.getElem?_map]
        rw [hq]; rfl
      have hAt : At any w2 g j [bv (y.val.getD j 0)] := (hBlk.one (by rw [List.getElem?_append_left (by simp; omega)]; exact hyj)).imp fun _ _ _ => trivial
      generalize y.val.getD j 0 = yb at *
      refine St0 ?_
      refine G.quietTail 17 follows (by kernel_rfl) (by kernel_rfl) (by kernel_rfl) (by kernel_rfl) ?_
      refine QSt1 ((tvAt hB1.all).1) ?_
      (refine GQ.indexSlice (i) 36 ((i * 36)) hT rfl rfl rfl rfl rfl rfl rfl rfl ?_ ?_ ?_ ?_; (focus omega); (focus omega); (focus omega))
      refine QSt2 (hA) ((tvAt hB1.all).1) ?_
      (refine GQ.indexSlice (i) 36 ((i * 36)) hT rfl rfl rfl rfl rfl rfl rfl rfl ?_ ?_ ?_ ?_; (focus omega); (focus omega); (focus omega))
      refine QSt1 (hA) ?_
      (refine GQ.indexSlice (j) 1 (j) hT rfl rfl rfl rfl rfl rfl rfl rfl ?_ ?_ ?_ ?_; (focus omega); (focus omega); (focus omega))
      refine QSt1 (hAt) ?_
      refine GQ.bin rfl rfl rfl rfl (fun w => run_add1_u8 yb w) ?_
      refine GQ.tail fun w3 he3 => ?_
      (refine GL.indexSlice (j) 1 (j) hT rfl rfl rfl rfl rfl rfl rfl rfl ?_ ?_ ?_ ?_; (focus omega); (focus omega); (focus omega))
      refine GL.store1 hT rfl rfl rfl rfl rfl rfl rfl (hBlk.ext he3) (by simp; omega) fun w4 hc4 hB4 => ?_
      refine St0 ?_
      obtain ⟨ns3, q1, q2, q3⟩ := hset w4 (yb + 1) (fun q hq hqU => (hc4.block q hq).trans (he3.block q (by omega))) hB4
      obtain ⟨y3, hy3⟩ : ∃ y3, ns3[i]? = some y3 := ⟨_, List.getElem?_eq_getElem (by omega)⟩
      refine G.sub (by (repeat (first | exact Fr.sub_nil _ | refine Fr.sub_cons rfl ?_))) (again2 (j + 1) _ _ (by omega) ⟨by omega, (ho2.trans (Only.ext he3)).trans (Only.chg hc4 hBg hgU), (hB1.ext he3).chg hc4 (by omega), ⟨ns3, y3, by omega, fun z hz => ?_, q3, hy3, by rw [q2 i y y3 hy hy3]; exact hyl⟩, rfl⟩)
      obtain ⟨k, hk⟩ := List.mem_iff_getElem?.1 hz
      obtain ⟨z0, hz0⟩ : ∃ z0, ns2[k]? = some z0 := ⟨_, List.getElem?_eq_getElem (by have := (List.getElem?_eq_some_iff.1 hk).1; omega)⟩
      rw [q2 k z0 z hz0 hk]
      exact hv2 z0 (List.mem_of_getElem? hz0)
    · obtain ⟨b, c', cs, hv', hBb, hbU, hBlk, hlt34, hset⟩ := ownN_left h2 hy (-7)
      rw [hl2] at hv'
      cases hv'
      refine St1 ((tvAt hB1.all).1) ?_
      (refine GL.indexSlice (i) 36 ((i * 36)) hT rfl rfl rfl rfl rfl rfl rfl rfl ?_ ?_ ?_ ?_; (focus omega); (focus omega); (focus omega))
      refine St0 ?_
      refine GL.store1 hT rfl rfl rfl rfl rfl rfl rfl hBlk hlt34 fun w4 hc4 hB4 => ?_
      refine St0 ?_
      obtain ⟨ns3, q1, q2, q3⟩ := hset w4 (fun q hq hqU => hc4.block q hq) hB4
      refine G.sub (by (repeat (first | exact Fr.sub_nil _ | refine Fr.sub_cons rfl ?_))) (again (i + 1) _ _ (by omega) ⟨by omega, ho2.trans (Only.chg hc4 hBb hbU), hB1.chg hc4 (by omega), ⟨ns3, by omega, fun z hz => ?_, q3⟩, rfl⟩)
      obtain ⟨k, hk⟩ := List.mem_iff_getElem?.1 hz
      obtain ⟨z0, hz0⟩ : ∃ z0, ns2[k]? = some z0 := ⟨_, List.getElem?_eq_getElem (by have := (List.getElem?_eq_some_iff.1 hk).1; omega)⟩
      rw [q2 k z0 z hz0 hk]
      exact hv2 z0 (List.mem_of_getElem? hz0)
  · refine St1 ((tvAt hB1.all).1) ?_
    exact G.end0 rfl rfl rfl ho1
end Go.Proofs.Ytefneilaongpbaa
