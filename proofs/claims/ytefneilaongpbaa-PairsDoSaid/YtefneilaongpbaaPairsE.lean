import Derived.Test.YtefneilaongpbaaOwnP
import Derived.Test.YtefneilaongpbaaQuietS
import Derived.Test.YtefneilaongpbaaPPure
import Derived.Test.YtefneilaongpbaaCut
/-
  Copies of pairs.
-/
set_option linter.unusedVariables false
set_option linter.unusedSimpArgs false
set_option maxRecDepth 100000
set_option maxHeartbeats 4000000
namespace Go.Proofs.Ytefneilaongpbaa
open Go Go.Bd Go.RowKit
attribute [local irreducible] G GL GQ GS

theorem refTwin5_call (v : Value) (ps : List Pair) (S : Where) (w : World) (h : RdP S w v ps) (hm : ps.length ≤ 4294967296) (hv : ∀ x ∈ ps, x.val.length ≤ 140737488355328) :
    Does Try.prog 33 #[v] w fun r w' => OwnP w.heap.size w' r ps ∧ Ext w w' := by
  refine call_walk Try.func33 (by kernel_rfl) rfl Try.ntmps33 rfl ?_
  obtain ⟨p, c, rfl, hc⟩ := h.isSlice
  refine St0 ?_
  refine G.sub (f' := [(4, iv ((0 : Nat) : Int)), (3, .slice none 0 0), (0, .slice p ps.length c)]) (by (repeat (first | exact Fr.sub_nil _ | refine Fr.sub_cons rfl ?_))) ?_
  refine G.rounds (α := Nat) (fun j f w' => j ≤ ps.length ∧ Ext w w' ∧ ∃ r, OwnP w.heap.size w' r (ps.take j) ∧ f = [(4, iv j), (3, r), (0, .slice p ps.length c)]) (fun j => ps.length - j) ?round 0 ⟨by omega, Ext.refl w, _, OwnP.bare _ _ none, rfl⟩
  rintro j f w1 ⟨hj, he1, r, hr, rfl⟩ again
  by_cases hlt : (j : Int) < ps.length
  · obtain ⟨x, hx⟩ : ∃ x, ps[j]? = some x := ⟨_, List.getElem?_eq_getElem (by omega)⟩
    obtain ⟨b, o, c', u, hv', hu, hA⟩ := (h.ext he1).elem hx
    cases hv'
    have s1 := he1.size
    refine St0 ?_
    refine G.drawS 14 (List.range 14) [11, 13] follows (by kernel_rfl) (by kernel_rfl) (by kernel_rfl) (by kernel_rfl) (by kernel_rfl) (by kernel_rfl) ?_
    refine SSt0 ?_
    (refine GS.indexSlice (j) 33 ((o + j * 33)) hT rfl rfl rfl rfl rfl rfl rfl rfl ?_ ?_ ?_ ?_; (focus omega); (focus omega); (focus omega))
    refine SSt1 ((pairAt hA).1) ?_
    (refine GS.indexSlice (j) 33 ((o + j * 33)) hT rfl rfl rfl rfl rfl rfl rfl rfl ?_ ?_ ?_ ?_; (focus omega); (focus omega); (focus omega))
    refine SSt1 ((pairAt hA).2) ?_
    refine GS.op rfl fun w2 he2 => ?_
    refine GL.call rfl rfl rfl (refTwin_call u x.val _ w2 (hu.ext he2) (hv x (List.mem_of_getElem? hx))) ?_
    rintro u' w3 ⟨hu', he3⟩
    refine GS.done he3 ?_
    refine SSt0 ?_
    refine GS.build (x.key.cells ++ [u']) hT rfl rfl rfl rfl rfl rfl (pair_fill x.key hu'.some) ?_
    refine GS.op rfl fun w4 he4 => ?_
    refine GL.buildSlice (x.key.cells ++ [u']) hT rfl rfl rfl rfl rfl rfl rfl (fillL_one rfl (pcell_len _ _) (madeLen _ _)) fun b5 w5 hb5 hB5 he5 => ?_
    refine GS.done he5 ?_
    refine GS.tail fun w6 he6 => ?_
    replace hB5 := hB5.ext he6
    have he16 : Ext w1 w6 := (he2.trans he3).trans (he4.trans (he5.trans he6))
    have s6 := he16.size
    obtain ⟨es, hes, hown⟩ := hr.ext he16
    have hsrc : RdF any w6 (.slice (some ⟨b5, 0, none⟩) 1 1) 1 (x.key.cells ++ [u']) := ⟨_, 1, rfl, Nat.le_refl _, .inr ⟨b5, 0, rfl, hB5.all⟩⟩
    have htl : (ps.take j).length = j := by simp; omega
    refine GL.append hT rfl rfl rfl rfl rfl rfl rfl rfl rfl rfl hown hsrc (pcell_len _ _) (pairOne hu'.one) (by show ((ps.take j).length + 1) * 56 ≤ _; omega) (by omega) (by omega) fun r' w7 ho hb hrow => ?_
    refine St0 ?_
    have he7 : Ext w w7 := hb.below (fun k hk => (hown.row hk).1) (by omega) (he1.trans he16)
    have htk : ps.take (j + 1) = ps.take j ++ [x] := by rw [List.take_add_one, hx]; rfl
    have hu6 : PairN w.heap.size w6 (x.key.cells ++ [u']) x := ⟨u', rfl, (hu'.ext (he4.trans (he5.trans he6))).mono (Nat.le_trans s1 he2.size)⟩
    refine G.sub (by (repeat (first | exact Fr.sub_nil _ | refine Fr.sub_cons rfl ?_))) (again (j + 1) _ _ (by omega) ⟨by omega, he7, r', ⟨es ++ [x.key.cells ++ [u']], ?_, ?_⟩, rfl⟩)
    · rw [htk]
      exact (hes.imp fun _ _ h => h.but hown hb).append (.cons (hu6.but hown hb) .nil)
    · rw [htk, List.length_append, List.flatten_append]
      simpa using ho
  · refine St0 ?_
    refine G.ret1 rfl rfl rfl rfl ⟨?_, he1⟩
    rw [List.take_of_length_le (by omega)] at hr
    exact hr
end Go.Proofs.Ytefneilaongpbaa
/-
  pairs.Twin.
-/
set_option linter.unusedVariables false
set_option linter.unusedSimpArgs false
set_option maxRecDepth 100000
set_option maxHeartbeats 4000000
namespace Go.Proofs.Ytefneilaongpbaa
open Go Go.Bd Go.RowKit
attribute [local irreducible] G GL GQ GS

theorem pairsN_len {B : Nat} {w : World} {es : List (List Value)} {ps : List Pair} (h : All2 (PairN B w) es ps) : es.flatten.length = ps.length * 33 := by
  induction h with
  | nil => rfl
  | cons h _ ih =>
    obtain ⟨u, rfl, hu⟩ := h
    rw [List.flatten_cons, List.length_append, ih, pcell_len, List.length_cons]
    omega
theorem cloneP_call (v : Value) (n : Nat) (cs : List Value) (S : Where) (w : World) (h : RdF S w v n cs) (hl : cs.length = n * 33) (h1 : ∀ c ∈ cs, c.oneCell' = true) (hm : n ≤ 4294967296) :
    Does Try.prog 72 #[v] w fun v' w' => Own w.heap.size w' v' n 33 89 cs ∧ Ext w w' := by
  refine call_walk Try.func72 (by kernel_rfl) rfl Try.ntmps72 rfl ?_
  obtain ⟨p, c, rfl, hc, hcs⟩ := id h
  cases p with
  | none =>
    refine St0 ?_
    obtain rfl : cs = [] := by
      rcases hcs with h | ⟨b, o, h, _⟩
      · exact h
      · cases h
    obtain rfl : n = 0 := by simp at hl; omega
    exact G.ret1 rfl rfl rfl rfl ⟨Own.bare _ _ none 33 _, Ext.refl w⟩
  | some a =>
    refine St0 ?_
    refine GL.buildSlice _ hT rfl rfl rfl rfl rfl rfl rfl rfl fun b w1 hb hB he => ?_
    refine St0 ?_
    refine GL.append (B := w.heap.size) hT rfl rfl rfl rfl rfl rfl rfl rfl rfl rfl (Own.bare w.heap.size w1 _ 33 _) (h.ext he) hl h1 (by show (0 + n) * 56 ≤ _; omega) (by omega) he.size fun v' w2 ho hb2 _ => ?_
    refine St0 ?_
    refine G.ret1 rfl rfl rfl rfl ⟨?_, he.trans hb2.ext⟩
    simpa using ho
/-- The value of pair j of a row of one's own. -/
theorem ownVal {B : Nat} {w : World} {v : Value} {n j : Nat} {T : TypeId} {k : Dig} {u : Value} {c1 c2 : List Value} (h : Own B w v n 33 T (c1 ++ ((k.cells ++ [u]) ++ c2))) (h1 : c1.length = j * 33) (hj : j < n) :
    ∃ g cap rest, v = .slice (some ⟨g, 0, none⟩) n cap ∧ rowOf v = some g ∧ Blk w g T ((c1 ++ ((k.cells ++ [u]) ++ c2)) ++ rest) ∧ j * 33 + 32 < ((c1 ++ ((k.cells ++ [u]) ++ c2)) ++ rest).length ∧ At any w g (j * 33 + 32) [u] ∧
      ∀ w' u', Blk w' g T (((c1 ++ ((k.cells ++ [u]) ++ c2)) ++ rest).set (j * 33 + 32) u') → Own B w' v n 33 T (c1 ++ ((k.cells ++ [u']) ++ c2)) := by
  obtain ⟨hl, h⟩ := h
  have e : ∀ (u : Value) (rest : List Value), (c1 ++ ((k.cells ++ [u]) ++ c2)) ++ rest = (c1 ++ k.cells) ++ (u :: (c2 ++ rest)) := fun u rest => by simp
  have hlen : (c1 ++ k.cells).length = j * 33 + 32 := by simp [h1, Dig.len]
  rcases h with ⟨rfl, p, rfl⟩ | ⟨g, cap, rest, rfl, hB, hn, hblk, hr⟩
  · omega
  · refine ⟨g, cap, rest, rfl, ?_, hblk, by rw [e]; simp [Dig.len, h1], ?_, fun w' u' hB' => ⟨by simpa [Dig.len] using hl, .inr ⟨g, cap, rest, rfl, hB, hn, ?_, hr⟩⟩⟩
    · cases cap with
      | zero => omega
      | succ c => rfl
    · have : ((c1 ++ ((k.cells ++ [u]) ++ c2)) ++ rest)[j * 33 + 32]? = some u := by
        rw [e, List.getElem?_append_right (by omega), hlen, Nat.sub_self]; rfl
      exact (hblk.one this).imp fun _ _ _ => trivial
    · rw [e, List.set_append_right _ _ (by omega), hlen, Nat.sub_self] at hB'
      rw [e]
      exact hB'
theorem all2_drop {S : Where} {w : World} {es : List (List Value)} {ps : List Pair} (h : All2 (PairC S w) es ps) (j : Nat) : All2 (PairC S w) (es.drop j) (ps.drop j) := h.drop j
theorem pairsTwin_call (v : Value) (ps : List Pair) (S : Where) (w : World) (h : RdP S w v ps) (hm : ps.length ≤ 4294967296) (hv : ∀ x ∈ ps, x.val.length ≤ 140737488355328) :
    Does Try.prog 39 #[v] w fun r w' => OwnP w.heap.size w' r ps ∧ Ext w w' := by
  refine call_walk Try.func39 (by kernel_rfl) rfl Try.ntmps39 rfl ?_
  obtain ⟨es, hes, hrd⟩ := id h
  refine St0 ?_
  refine GL.call rfl rfl rfl (cloneP_call v ps.length es.flatten S w hrd (pairs_len hes) (pairs_one hes) hm) ?_
  rintro r w1 ⟨hown, he1⟩
  obtain ⟨p, c, hr⟩ := hown.shape
  have s1 := he1.size
  subst hr
  refine St0 ?_
  refine G.sub (f' := [(9, iv ((0 : Nat) : Int)), (8, iv (ps.length : Nat)), (3, .slice p ps.length c)]) (by (repeat (first | exact Fr.sub_nil _ | refine Fr.sub_cons rfl ?_))) ?_
  refine G.rounds (α := Nat) (fun j f w' => j ≤ ps.length ∧ Ext w w' ∧ (∃ e1 e2, All2 (PairN w.heap.size w') e1 (ps.take j) ∧ All2 (PairC S w) e2 (ps.drop j) ∧ Own w.heap.size w' (.slice p ps.length c) ps.length 33 89 (e1.flatten ++ e2.flatten)) ∧ f = [(9, iv j), (8, iv (ps.length : Nat)), (3, .slice p ps.length c)]) (fun j => ps.length - j) ?round 0 ⟨by omega, he1, ⟨[], es, .nil, hes, by simpa using hown⟩, rfl⟩
  rintro j f w2 ⟨hj, he2, ⟨e1, e2, h1, h2, ho⟩, rfl⟩ again
  by_cases hlt : (j : Int) < ps.length
  · obtain ⟨x, hx⟩ : ∃ x, ps[j]? = some x := ⟨_, List.getElem?_eq_getElem (by omega)⟩
    have hdr : ps.drop j = x :: ps.drop (j + 1) := by
      rw [List.drop_eq_getElem_cons (by omega)]
      congr 1
      have := (List.getElem?_eq_some_iff.1 hx).2
      exact this
    have htk : ps.take (j + 1) = ps.take j ++ [x] := by rw [List.take_add_one, hx]; rfl
    rw [hdr] at h2
    obtain ⟨ex, er, rfl, ⟨u, rfl, hu⟩, hrest⟩ : ∃ ex er, e2 = ex :: er ∧ PairC S w ex x ∧ All2 (PairC S w) er (ps.drop (j + 1)) := by
      cases h2 with
      | cons h t => exact ⟨_, _, rfl, h, t⟩
    rw [List.flatten_cons] at ho
    have hlen : e1.flatten.length = j * 33 := by rw [pairsN_len h1]; simp; omega
    have s2 := he2.size
    obtain ⟨g, cap, rest, hvv, hrow, hblk, hlen', hat, hback⟩ := ownVal ho hlen (by omega)
    cases hvv
    refine St0 ?_
    (refine GL.indexSlice (j) 33 ((j * 33)) hT rfl rfl rfl rfl rfl rfl rfl rfl ?_ ?_ ?_ ?_; (focus omega); (focus omega); (focus omega))
    refine St1 (hat) ?_
    refine GL.call rfl rfl rfl (cloneB_call u x.val _ w2 (RdB.ext hu he2) (hv x (List.mem_of_getElem? hx))) ?_
    rintro u' w3 ⟨hu', he3⟩
    refine St0 ?_
    (refine GL.indexSlice (j) 33 ((j * 33)) hT rfl rfl rfl rfl rfl rfl rfl rfl ?_ ?_ ?_ ?_; (focus omega); (focus omega); (focus omega))
    refine St0 ?_
    refine GL.store1 hT rfl rfl rfl rfl rfl hu'.some hu'.one (hblk.ext he3) hlen' fun w4 hc4 hblk4 => ?_
    have hgl := (ho.row hrow)
    have he4 : Ext w w4 := hc4.below hgl.1 (he2.trans he3)
    refine St0 ?_
    refine G.sub (by (repeat (first | exact Fr.sub_nil _ | refine Fr.sub_cons rfl ?_))) (again (j + 1) _ _ (by omega) ⟨by omega, he4, ⟨e1 ++ [x.key.cells ++ [u']], er, ?_, hrest, ?_⟩, rfl⟩)
    · rw [htk]
      have hb4 := But.of_chg hc4
      rw [← hrow] at hb4
      have ho3 := ho.ext he3
      exact (h1.imp fun _ _ h => (h.ext he3).but ho3 hb4).append (.cons (PairN.but ⟨u', rfl, hu'.mono s2⟩ ho3 hb4) .nil)
    · have := hback _ _ hblk4
      simpa using this
  · refine St0 ?_
    have hjl : j = ps.length := by omega
    refine G.ret1 rfl rfl rfl rfl ⟨⟨e1, ?_, ?_⟩, he2⟩
    · rw [List.take_of_length_le (by omega)] at h1
      exact h1
    · rw [List.drop_of_length_le (by omega)] at h2
      cases h2
      simpa using ho
end Go.Proofs.Ytefneilaongpbaa
/-
  The document's Without.
-/
set_option linter.unusedVariables false
set_option linter.unusedSimpArgs false
set_option maxRecDepth 100000
set_option maxHeartbeats 4000000
namespace Go.Proofs.Ytefneilaongpbaa
open Go Go.Bd Go.RowKit
attribute [local irreducible] G GL GQ GS

theorem without_call (v : Value) (ps : List Pair) (k : Dig) (S : Where) (w : World) (h : RdP S w v ps) (hm : ps.length ≤ 4294967296) (hv : ∀ x ∈ ps, x.val.length ≤ 140737488355328) :
    Does Try.prog 62 #[v, dv k] w fun r w' => OwnP w.heap.size w' r (without ps k) ∧ Ext w w' := by
  refine call_walk Try.func62 (by kernel_rfl) rfl Try.ntmps62 rfl ?_
  obtain ⟨p, c, rfl, hc⟩ := h.isSlice
  refine St0 ?_
  refine GL.box rfl rfl rfl rfl fun b3 w0 hb3 hB3 he0 => ?_
  have l3 := hB3.lt
  have s0 := he0.size
  refine St0 ?_
  refine G.sub (f' := [(6, iv ((0 : Nat) : Int)), (5, .slice none 0 0), (0, .slice p ps.length c), (3, ptr b3 0)]) (by (repeat (first | exact Fr.sub_nil _ | refine Fr.sub_cons rfl ?_))) ?_
  refine G.rounds (α := Nat) (fun j f w' => j ≤ ps.length ∧ Ext w w' ∧ w0.heap.size ≤ w'.heap.size ∧ Blk w' b3 23 k.cells ∧ (∃ r es, All2 (PairC S w) es (without (ps.take j) k) ∧ Own w0.heap.size w' r (without (ps.take j) k).length 33 89 es.flatten ∧ f = [(6, iv j), (5, r), (0, .slice p ps.length c), (3, ptr b3 0)])) (fun j => ps.length - j) ?round 0 ⟨by omega, he0, Nat.le_refl _, hB3, _, [], .nil, Own.bare _ _ none _ _, rfl⟩
  rintro j f w1 ⟨hj, he1, hw0, hB, r, es, hes, hown, rfl⟩ again
  have hfl : (without (ps.take j) k).length ≤ j := Nat.le_trans (List.length_filter_le _ _) (by simp; omega)
  by_cases hlt : (j : Int) < ps.length
  · obtain ⟨x, hx⟩ : ∃ x, ps[j]? = some x := ⟨_, List.getElem?_eq_getElem (by omega)⟩
    obtain ⟨b, o, c', u, hv', hu, hA⟩ := h.elem hx
    cases hv'
    replace hA := hA.ext he1
    have htk : ps.take (j + 1) = ps.take j ++ [x] := by rw [List.take_add_one, hx]; rfl
    refine St0 ?_
    refine G.quiet follows (by kernel_rfl) ?_
    refine QSt0 ?_
    (refine GQ.indexSlice (j) 33 ((o + j * 33)) hT rfl rfl rfl rfl rfl rfl rfl rfl ?_ ?_ ?_ ?_; (focus omega); (focus omega); (focus omega))
    refine QSt2 ((pairAt hA).1) (hB.all) ?_
    by_cases hk : x.key = k
    · refine QSt0 ?_
      refine GQ.nil fun w2 he2 => ?_
      refine St0 ?_
      have hw : without (ps.take (j + 1)) k = without (ps.take j) k := by rw [htk]; simp [without, hk]
      exact G.sub (by (repeat (first | exact Fr.sub_nil _ | refine Fr.sub_cons rfl ?_))) (again (j + 1) _ _ (by omega) ⟨by omega, he1.trans he2, Nat.le_trans hw0 he2.size, hB.ext he2, r, es, by rw [hw]; exact hes, by rw [hw]; exact hown.ext he2, rfl⟩)
    · refine QSt0 ?_
      refine GQ.nil fun w2 he2 => ?_
      have hw : without (ps.take (j + 1)) k = without (ps.take j) k ++ [x] := by rw [htk]; simp [without, hk]
      replace hA := hA.ext he2
      replace hB := hB.ext he2
      replace hown := hown.ext he2
      have he12 := he1.trans he2
      have sz := he12.size
      refine St0 ?_
      (refine GL.indexSlice (j) 33 ((o + j * 33)) hT rfl rfl rfl rfl rfl rfl rfl rfl ?_ ?_ ?_ ?_; (focus omega); (focus omega); (focus omega))
      refine GL.loadN hT rfl rfl rfl rfl rfl hA (pcell_len _ _) ?_
      refine GL.buildSlice (x.key.cells ++ [u]) hT rfl rfl rfl rfl rfl rfl rfl (fillL_one rfl (pcell_len _ _) (madeLen _ _)) fun b5 w5 hb5 hB5 he5 => ?_
      replace hB := hB.ext he5
      replace hown := hown.ext he5
      have s5 := he5.size
      have hsrc : RdF any w5 (.slice (some ⟨b5, 0, none⟩) 1 1) 1 (x.key.cells ++ [u]) := ⟨_, 1, rfl, Nat.le_refl _, .inr ⟨b5, 0, rfl, hB5.all⟩⟩
      have sw0 : w0.heap.size ≤ w5.heap.size := Nat.le_trans hw0 (Nat.le_trans he2.size s5)
      refine GL.append hT rfl rfl rfl rfl rfl rfl rfl rfl rfl rfl hown hsrc (pcell_len _ _) (pairOne (RdF.one hu)) (by show ((without (ps.take j) k).length + 1) * 56 ≤ _; omega) (by omega) sw0 fun r' w7 ho hb hrow => ?_
      refine St0 ?_
      have hBk : Blk w7 b3 23 k.cells := hB.keep (hb.block b3 hB.lt (fun e => by have := hown.row e.symm; omega))
      refine G.sub (by (repeat (first | exact Fr.sub_nil _ | refine Fr.sub_cons rfl ?_))) (again (j + 1) _ _ (by omega) ⟨by omega, hb.below (fun q hq => by have := hown.row hq; omega) (by omega) (he12.trans he5), Nat.le_trans sw0 hb.size, hBk, r', es ++ [x.key.cells ++ [u]], ?_, ?_, rfl⟩)
      · rw [hw]; exact hes.append (.cons ⟨u, rfl, hu⟩ .nil)
      · rw [hw, List.length_append, List.flatten_append]; simpa using ho
  · refine St0 ?_
    have hjl : j = ps.length := by omega
    rw [List.take_of_length_le (by omega)] at hes hown
    have hrd : RdP any w1 r (without ps k) := ⟨es, hes.imp fun e x ⟨u, h1, h2⟩ => ⟨u, h1, RdB.imp (RdB.ext h2 he1) fun _ _ _ => trivial⟩, hown.fresh.imp fun _ _ _ => trivial⟩
    refine GL.call rfl rfl rfl (refTwin5_call r (without ps k) any w1 hrd (Nat.le_trans (List.length_filter_le _ _) hm) (fun x hx => hv x (List.mem_filter.1 hx).1)) ?_
    rintro r' w2 ⟨ho, he2⟩
    refine St0 ?_
    exact G.ret1 rfl rfl rfl rfl ⟨ho.mono he1.size, he1.trans he2⟩
end Go.Proofs.Ytefneilaongpbaa
/-
  The document's With.
-/
set_option linter.unusedVariables false
set_option linter.unusedSimpArgs false
set_option maxRecDepth 100000
set_option maxHeartbeats 4000000
namespace Go.Proofs.Ytefneilaongpbaa
open Go Go.Bd Go.RowKit
attribute [local irreducible] G GL GQ GS

theorem with_call (v u : Value) (ps : List Pair) (k : Dig) (bs : Bytes) (S S' : Where) (w : World) (h : RdP S w v ps) (hu : RdB S' w u bs) (hm : ps.length ≤ 1000000) (hv : ∀ x ∈ ps, x.val.length ≤ 140737488355328) (hb : bs.length ≤ 140737488355328) :
    Does Try.prog 57 #[v, dv k, u] w fun r w' => OwnP w.heap.size w' r (withL (without ps k) k bs) ∧ Ext w w' := by
  refine call_walk Try.func57 (by kernel_rfl) rfl Try.ntmps57 rfl ?_
  refine St0 ?_
  refine GL.box rfl rfl rfl rfl fun b4 w0 hb4 hB4 he0 => ?_
  refine St1 (hB4.all) ?_
  refine GL.call rfl rfl rfl (without_call v ps k S w0 (h.ext he0) (by omega) hv) ?_
  rintro r w1 ⟨hr, he1⟩
  replace hB4 := hB4.ext he1
  have hwl : (without ps k).length ≤ ps.length := List.length_filter_le _ _
  generalize hrest : without ps k = rest at hr hwl ⊢
  obtain ⟨es, hes, hown⟩ := id hr
  obtain ⟨p, c, hrv⟩ := hown.shape
  subst hrv
  have hfr := front_le rest k
  have he01 := he0.trans he1
  refine St0 ?_
  refine G.sub (f' := [(8, iv ((0 : Nat) : Int)), (7, .slice p rest.length c), (4, ptr b4 0), (2, u)]) (by (repeat (first | exact Fr.sub_nil _ | refine Fr.sub_cons rfl ?_))) ?_
  refine G.loopJ (α := Nat) (fun j f w' => j ≤ rest.length ∧ Ext w1 w' ∧ (∀ (i : Nat) (x : Pair), i < j → rest[i]? = some x → aheadB x.key k = true) ∧ f = [(8, iv j), (7, .slice p rest.length c), (4, ptr b4 0), (2, u)]) (fun j => rest.length - j)
    (fun f w' => Ext w1 w' ∧ f = [(8, iv (front rest k : Nat)), (7, .slice p rest.length c), (4, ptr b4 0), (2, u)]) ?after ?round 0 ⟨by omega, Ext.refl _, fun i x hi => by omega, rfl⟩
  case round =>
    rintro j f w2 ⟨hj, he2, hall, rfl⟩ again leave
    replace hB4 := hB4.ext he2
    have hrd := hr.rd.ext he2
    by_cases hlt : (j : Int) < rest.length
    · obtain ⟨x, hx⟩ : ∃ x, rest[j]? = some x := ⟨_, List.getElem?_eq_getElem (by omega)⟩
      obtain ⟨b, o, c', u', hv', hu', hA⟩ := hrd.elem hx
      cases hv'
      refine St0 ?_
      refine G.quiet follows (by kernel_rfl) ?_
      refine QSt0 ?_
      (refine GQ.indexSlice (j) 33 ((o + j * 33)) hT rfl rfl rfl rfl rfl rfl rfl rfl ?_ ?_ ?_ ?_; (focus omega); (focus omega); (focus omega))
      refine QSt2 ((pairAt hA).1) (hB4.all) ?_
      refine GQ.call rfl rfl rfl (fun w' he' => refAhead_call x.key k w') ?_
      cases hah : aheadB x.key k
      · refine QSt0 ?_
        refine GQ.nil fun w3 he3 => ?_
        have hfj := front_eq rest k j hall hj (fun y hy => by rw [hx] at hy; cases hy; exact hah)
        refine G.cond_f rfl ?_
        refine G.exit rfl ?_
        subst hfj
        exact G.sub (by (repeat (first | exact Fr.sub_nil _ | refine Fr.sub_cons rfl ?_))) (leave _ _ ⟨he2.trans he3, rfl⟩)
      · refine QSt0 ?_
        refine GQ.nil fun w3 he3 => ?_
        refine St0 ?_
        refine G.sub (by (repeat (first | exact Fr.sub_nil _ | refine Fr.sub_cons rfl ?_))) (again (j + 1) _ _ (by omega) ⟨by omega, he2.trans he3, ?_, rfl⟩)
        intro i z hi hz
        rcases Nat.lt_or_eq_of_le (Nat.lt_succ_iff.1 hi) with h1 | h1
        · exact hall i z h1 hz
        · subst h1; rw [hx] at hz; cases hz; exact hah
    · refine St0 ?_
      refine G.quiet follows (by kernel_rfl) ?_
      refine QSt0 ?_
      refine GQ.nil fun w3 he3 => ?_
      have hfj := front_eq rest k j hall hj (fun y hy => by have := (List.getElem?_eq_some_iff.1 hy).1; omega)
      refine G.cond_f rfl ?_
      refine G.exit rfl ?_
      subst hfj
      exact G.sub (by (repeat (first | exact Fr.sub_nil _ | refine Fr.sub_cons rfl ?_))) (leave _ _ ⟨he2.trans he3, rfl⟩)
  case after =>
    rintro f w2 ⟨he2, rfl⟩
    generalize hn : front rest k = n at hfr
    have he02 := he01.trans he2
    have s0 := he0.size
    have s1 := he1.size
    have s2 := he2.size
    replace hown := hown.ext he2
    replace hes := hes.imp fun _ _ h => PairN.ext h he2
    replace hB4 := hB4.ext he2
    have hcl := hown.1
    obtain ⟨hsl⟩ : Nonempty (rest.length ≤ c) := by
      obtain ⟨p', c', hv', hc', _⟩ := hown.fresh
      cases hv'
      exact ⟨hc'⟩
    have h1 : ∀ q ∈ es.flatten, q.oneCell' = true := pairs_one (hes.imp fun e x ⟨u, h1, h2⟩ => (⟨u, h1, h2.fresh⟩ : PairC (fresh w0.heap.size) w2 e x))
    refine St0 ?_
    refine GL.slice 0 n c 33 hT rfl rfl rfl rfl rfl rfl rfl rfl ⟨_, _, rfl, rfl⟩ rfl (by simp) (by omega) (by omega) (by omega) ?_
    have hcut1 := hown.fresh.cut hcl (L := 0) (H := n) (M := c) (by omega) (by omega) (by omega)
    refine GL.append (B := w.heap.size) hT rfl rfl rfl rfl rfl rfl rfl rfl rfl rfl (Own.bare w.heap.size w2 none 33 _) hcut1 (by rw [List.length_take, List.length_drop, hcl]; omega) (fun q hq => h1 q (List.mem_of_mem_drop (List.mem_of_mem_take hq))) (by show (0 + (n - 0)) * 56 ≤ _; omega) (by omega) (by omega) fun r1 w3 ho1 hb1 hrow1 => ?_
    have he3 : Ext w2 w3 := But.ext hb1
    have s3 := he3.size
    replace hB4 := hB4.ext he3
    have he03 := he02.trans he3
    rw [Nat.zero_add, List.nil_append] at ho1
    refine St0 ?_
    refine G.drawS 6 (List.range 6) [3, 5] follows (by kernel_rfl) (by kernel_rfl) (by kernel_rfl) (by kernel_rfl) (by kernel_rfl) (by kernel_rfl) ?_
    refine SSt1 (hB4.all) ?_
    refine GS.op rfl fun w4 he4 => ?_
    refine GL.call rfl rfl rfl (refTwin_call u bs _ w4 (hu.ext (he03.trans he4)) hb) ?_
    rintro u' w5 ⟨hu', he5⟩
    refine GS.done he5 ?_
    refine GS.build (k.cells ++ [u']) hT rfl rfl rfl rfl rfl rfl (pair_fill k hu'.some) ?_
    refine GS.op rfl fun w6 he6 => ?_
    refine GL.buildSlice (k.cells ++ [u']) hT rfl rfl rfl rfl rfl rfl rfl (fillL_one rfl (pcell_len _ _) (madeLen _ _)) fun b7 w7 hb7 hB7 he7 => ?_
    refine GS.done he7 ?_
    refine GS.tail fun w8 he8 => ?_
    replace hB7 := hB7.ext he8
    have he58 : Ext w5 w8 := he6.trans (he7.trans he8)
    have he38 : Ext w3 w8 := (he4.trans he5).trans he58
    have s8 := he38.size
    replace ho1 := ho1.ext he38
    have hsrc : RdF any w8 (.slice (some ⟨b7, 0, none⟩) 1 1) 1 (k.cells ++ [u']) := ⟨_, 1, rfl, Nat.le_refl _, .inr ⟨b7, 0, rfl, hB7.all⟩⟩
    refine GL.append hT rfl rfl rfl rfl rfl rfl rfl rfl rfl rfl ho1 hsrc (pcell_len _ _) (pairOne hu'.one) (by show ((n - 0) + 1) * 56 ≤ _; omega) (by omega) (by omega) fun r2 w9 ho2 hb2 hrow2 => ?_
    have he9 : But (rowOf r1) w8 w9 := hb2
    have hr1 : ∀ q, rowOf r1 = some q → w2.heap.size ≤ q := by
      intro q hq
      rcases hrow1 with h | ⟨h, _⟩
      · rw [h] at hq; cases hq
      · rw [h] at hq; cases hq; exact Nat.le_refl _
    have hr2 : ∀ q, rowOf r2 = some q → w2.heap.size ≤ q := by
      intro q hq
      rcases hrow2 with h | ⟨h, _⟩
      · exact hr1 q (h ▸ hq)
      · rw [h] at hq; cases hq; omega
    have he28 := he3.trans he38
    have hown9 := (hown.ext he28).keep (w' := w9) (fun g hg hl => hb2.block g hl (fun e => by have h1 := hr1 g e.symm; have h2 := hown.row hg; omega)) (by decide)
    have s9 := hb2.size
    have hes9 := hes.imp fun _ _ h => (h.ext he28).but ho1 hb2
    have hu9 : PairN w.heap.size w9 (k.cells ++ [u']) ⟨k, bs⟩ := PairN.but (x := ⟨k, bs⟩) ⟨u', rfl, (hu'.ext he58).mono (Nat.le_trans (Nat.le_trans s0 s1) (Nat.le_trans s2 (Nat.le_trans s3 he4.size)))⟩ ho1 hb2
    refine St0 ?_
    refine GL.slice n rest.length c 33 hT rfl rfl rfl rfl rfl rfl rfl ⟨_, _, rfl, rfl⟩ rfl rfl (by simp) (by omega) (by omega) (by omega) ?_
    have hcut2 := hown9.fresh.cut hcl (L := n) (H := rest.length) (M := c) (by omega) (by omega) (by omega)
    refine GL.append (B := w.heap.size) hT rfl rfl rfl rfl rfl rfl rfl rfl rfl rfl ho2 hcut2 (by rw [List.length_take, List.length_drop, hcl, ← Nat.sub_mul]; omega) (fun q hq => h1 q (List.mem_of_mem_drop (List.mem_of_mem_take hq))) (by show ((n - 0) + 1 + (rest.length - n)) * 56 ≤ _; omega) (by omega) (by omega) fun r3 w10 ho3 hb3 hrow3 => ?_
    refine St0 ?_
    have hlen : ∀ e ∈ es, e.length = 33 := fun e he => by
      obtain ⟨j, hj⟩ := List.mem_iff_getElem?.1 he
      have hjl : j < rest.length := by rw [← hes.length]; exact (List.getElem?_eq_some_iff.1 hj).1
      obtain ⟨e', he', x, rfl, _⟩ := hes.at j _ (List.getElem?_eq_getElem hjl)
      rw [hj] at he'; cases he'
      exact pcell_len _ _
    have h9 : Below w.heap.size w w9 := hb2.below (fun q hq => by have := hr1 q hq; omega) (by omega) (he03.trans he38)
    have h10 : Ext w w10 := hb3.below (fun q hq => by have := hr2 q hq; omega) (by omega) h9
    have hlow : ∀ {e x}, PairN w0.heap.size w9 e x → PairN w.heap.size w10 e x := fun h => (h.mono s0).but ho2 hb3
    refine G.ret1 rfl rfl rfl rfl ⟨⟨es.take n ++ ((k.cells ++ [u']) :: es.drop n), ?_, ?_⟩, h10⟩
    · unfold withL
      rw [hn]
      exact ((hes9.take n).imp fun _ _ h => hlow h).append (.cons (hu9.but ho2 hb3) ((hes9.drop n).imp fun _ _ h => hlow h))
    · have e1 : n - 0 + 1 + (rest.length - n) = (withL rest k bs).length := by
        rw [length_withL]; omega
      rw [← e1, List.flatten_append, List.flatten_cons, flat_take hlen, flat_drop hlen]
      have e2 : (es.flatten.drop (n * 33)).take ((rest.length - n) * 33) = es.flatten.drop (n * 33) := List.take_of_length_le (by rw [List.length_drop, hcl, ← Nat.sub_mul]; omega)
      rw [e2] at ho3
      simpa using ho3
end Go.Proofs.Ytefneilaongpbaa
