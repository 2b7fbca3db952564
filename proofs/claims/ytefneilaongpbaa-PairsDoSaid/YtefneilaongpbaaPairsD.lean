/-
  pairs.Same.
-/
import Derived.Test.YtefneilaongpbaaPairsA
import Derived.Test.YtefneilaongpbaaOwnP
set_option linter.unusedVariables false
set_option linter.unusedSimpArgs false
set_option maxRecDepth 100000
set_option maxHeartbeats 4000000
namespace Go.Proofs.Ytefneilaongpbaa
open Go Go.Bd Go.RowKit
attribute [local irreducible] G GL GQ

theorem same1_call (x y : Pair) (u v : Value) (S S' : Where) (w : World) (hx : RdB S w u x.val) (hy : RdB S' w v y.val) (hm : x.val.length ≤ 4294967296) :
    Does Try.prog 71 #[pv x u, pv y v] w fun r w' => r = .bool (decide (x = y)) ∧ Ext w w' := by
  refine call_walk Try.func71 (by kernel_rfl) rfl Try.ntmps71 rfl ?_
  rw [pair_eq]
  refine St0 ?_
  refine GL.box rfl rfl rfl rfl fun b2 w1 hb2 hB2 he1 => ?_
  refine GL.box rfl rfl rfl rfl fun b3 w2 hb3 hB3 he2 => ?_
  replace hB2 := hB2.ext he2
  have he := he1.trans he2
  obtain ⟨k1, v1⟩ := pairAt hB2.all
  obtain ⟨k2, v2⟩ := pairAt hB3.all
  refine St2 (k1) (k2) ?_
  by_cases h1 : x.key = y.key
  · refine St4 (k1) (k2) (v1) (v2) ?_
    refine GL.call rfl rfl rfl (equalB_call u v x.val y.val _ _ w2 (hx.ext he) (hy.ext he) hm) ?_
    rintro r w3 ⟨rfl, he3⟩
    refine St0 ?_
    exact G.ret1 rfl rfl rfl rfl ⟨by simp [h1], he.trans he3⟩
  · refine St0 ?_
    exact G.ret1 rfl rfl rfl rfl ⟨by simp [h1], he⟩

theorem equalFunc_call (v u : Value) (xs ys : List Pair) (S S' : Where) (w : World) (h : RdP S w v xs) (h' : RdP S' w u ys) (hmax : xs.length ≤ 4294967296) (hvm : ∀ x ∈ xs, x.val.length ≤ 4294967296) :
    Does Try.prog 70 #[v, u, .func (.func 71) #[] #[]] w fun r w' => r = .bool (decide (xs = ys)) ∧ Ext w w' := by
  refine call_walk Try.func70 (by kernel_rfl) rfl Try.ntmps70 rfl ?_
  obtain ⟨p, c, rfl, hc⟩ := h.isSlice
  obtain ⟨p', c', rfl, hc'⟩ := h'.isSlice
  refine St0 ?_
  by_cases hl : (xs.length : Int) = ys.length
  · have hl' : xs.length = ys.length := by omega
    refine St0 ?_
    refine G.sub (f' := [(17, iv ((0 : Nat) : Int)), (15, .slice p xs.length c), (16, iv (xs.length : Nat)), (1, .slice p' ys.length c'), (2, .func (.func 71) #[] #[])]) (by (repeat (first | exact Fr.sub_nil _ | refine Fr.sub_cons rfl ?_))) ?_
    refine G.rounds (α := Nat) (fun j f w' => j ≤ xs.length ∧ Ext w w' ∧ (∀ i, i < j → xs[i]? = ys[i]?) ∧ f = [(17, iv j), (15, .slice p xs.length c), (16, iv (xs.length : Nat)), (1, .slice p' ys.length c'), (2, .func (.func 71) #[] #[])]) (fun j => xs.length - j) ?round 0 ⟨by omega, Ext.refl w, fun i hi => by omega, rfl⟩
    rintro j f w1 ⟨hj, he1, heq, rfl⟩ again
    by_cases hlt : (j : Int) < xs.length
    · obtain ⟨x, hx⟩ : ∃ x, xs[j]? = some x := ⟨_, List.getElem?_eq_getElem (by omega)⟩
      obtain ⟨y, hy⟩ : ∃ y, ys[j]? = some y := ⟨_, List.getElem?_eq_getElem (by omega)⟩
      obtain ⟨b, o, c2, ux, hv, hux, hA⟩ := (h.ext he1).elem hx
      obtain ⟨b', o', c2', uy, hv', huy, hA'⟩ := (h'.ext he1).elem hy
      cases hv
      cases hv'
      have sw := he1.size
      refine St0 ?_
      (refine GL.indexSlice (j) 33 ((o + j * 33)) hT rfl rfl rfl rfl rfl rfl rfl rfl ?_ ?_ ?_ ?_; (focus omega); (focus omega); (focus omega))
      refine GL.loadN hT rfl rfl rfl rfl rfl hA (pcell_len _ _) ?_
      refine GL.alloc hT rfl rfl rfl fun b8 w2 hb8 hB8 he2 => ?_
      refine St0 ?_
      refine GL.storeVar hT rfl rfl rfl rfl rfl (pcell_len _ _) (pairOne (RdF.one hux)) hB8 (by rw [pcell_len]; decide) fun w3 hc3 hB8 => ?_
      have he3 : Ext w1 w3 := hc3.below (by omega) he2
      have s2 := he2.size
      have s3 := hc3.size
      have l8 := hB8.lt
      replace hA' := hA'.ext he3
      refine St0 ?_
      (refine GL.indexSlice (j) 33 ((o' + j * 33)) hT rfl rfl rfl rfl rfl rfl rfl rfl ?_ ?_ ?_ ?_; (focus omega); (focus omega); (focus omega))
      refine GL.loadN hT rfl rfl rfl rfl rfl hA' (pcell_len _ _) ?_
      refine GL.alloc hT rfl rfl rfl fun b9 w4 hb9 hB9 he4 => ?_
      refine GL.storeVar hT rfl rfl rfl rfl rfl (pcell_len _ _) (pairOne (RdF.one huy)) hB9 (by rw [pcell_len]; decide) fun w5 hc5 hB9 => ?_
      have he5 : Ext w3 w5 := hc5.below (by omega) he4
      replace hB8 := hB8.ext he5
      refine St0 ?_
      refine GL.loadN hT rfl rfl rfl rfl rfl hB8.all (pcell_len _ _) ?_
      refine GL.loadN hT rfl rfl rfl rfl rfl hB9.all (pcell_len _ _) ?_
      have he15 := he3.trans he5
      refine GL.callv (first := []) (cap := []) rfl rfl rfl rfl (same1_call x y ux uy _ _ w5 (hux.ext he15) (huy.ext he15) (hvm x (List.mem_of_getElem? hx))) ?_
      rintro r w6 ⟨rfl, he6⟩
      have hE := he1.trans (he15.trans he6)
      cases hv : decide (x = y)
      · refine St0 ?_
        refine G.ret1 rfl rfl rfl rfl ⟨?_, hE⟩
        rw [not_eq_at (i := j)]
        rw [hx, hy]
        intro e
        simp only [Option.some.injEq] at e
        rw [e] at hv
        simp at hv
      · refine St0 ?_
        refine G.sub (by (repeat (first | exact Fr.sub_nil _ | refine Fr.sub_cons rfl ?_))) (again (j + 1) _ _ (by omega) ⟨by omega, hE, ?_, rfl⟩)
        intro i hi
        rcases Nat.lt_or_eq_of_le (Nat.lt_succ_iff.1 hi) with h1 | h1
        · exact heq i h1
        · subst h1
          rw [hx, hy, of_decide_eq_true hv]
    · refine St0 ?_
      refine G.ret1 rfl rfl rfl rfl ⟨?_, he1⟩
      rw [all_eq hl' fun i hi => heq i (by omega)]
  · refine St0 ?_
    refine G.ret1 rfl rfl rfl rfl ⟨?_, Ext.refl w⟩
    rw [not_eq_len (by omega)]
theorem pairsSame_call (v u : Value) (xs ys : List Pair) (S S' : Where) (w : World) (h : RdP S w v xs) (h' : RdP S' w u ys) (hmax : xs.length ≤ 4294967296) (hvm : ∀ x ∈ xs, x.val.length ≤ 4294967296) :
    Does Try.prog 38 #[v, u] w fun r w' => r = .bool (decide (xs = ys)) ∧ Ext w w' := by
  refine call_walk Try.func38 (by kernel_rfl) rfl Try.ntmps38 rfl ?_
  refine St0 ?_
  refine GL.call rfl rfl rfl (equalFunc_call v u xs ys S S' w h h' hmax hvm) ?_
  rintro r w1 ⟨rfl, he⟩
  refine St0 ?_
  exact G.ret1 rfl rfl rfl rfl ⟨rfl, he⟩
end Go.Proofs.Ytefneilaongpbaa
