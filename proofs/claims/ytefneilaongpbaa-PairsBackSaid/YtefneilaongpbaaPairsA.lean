/-
  Pairs: the document's order, May, Check, Find, Great; half and find.
-/
import Derived.Test.YtefneilaongpbaaKeys2
import Derived.Test.YtefneilaongpbaaPrf2
set_option linter.unusedVariables false
set_option linter.unusedSimpArgs false
set_option maxRecDepth 100000
set_option maxHeartbeats 4000000
namespace Go.Proofs.Ytefneilaongpbaa
open Go Go.Bd Go.RowKit
attribute [local irreducible] G GL GQ

theorem refAhead_call (a b : Dig) (w : World) : Does Try.prog 84 #[dv a, dv b] w fun v w' => v = .bool (aheadB a b) ∧ Ext w w' := by
  refine call_walk Try.func84 (by kernel_rfl) rfl Try.ntmps84 rfl ?_
  rw [ahead_shared]
  refine St0 ?_
  refine GL.box rfl rfl rfl rfl fun b2 w1 hb2 hB2 he1 => ?_
  refine GL.box rfl rfl rfl rfl fun b3 w2 hb3 hB3 he2 => ?_
  replace hB2 := hB2.ext he2
  refine St2 (hB2.all) (hB3.all) ?_
  refine GL.call rfl rfl rfl (refShared_call a b w2) ?_
  rintro r w3 ⟨rfl, he3⟩
  replace hB2 := hB2.ext he3
  replace hB3 := hB3.ext he3
  have he := (he1.trans he2).trans he3
  refine St0 ?_
  refine G.quietTail 11 follows (by kernel_rfl) (by kernel_rfl) (by kernel_rfl) (by kernel_rfl) ?_
  refine QSt0 ?_
  by_cases h : ((sharedB a b : Nat) : Int) < 256
  · refine QSt1 (hB2.all) ?_
    refine GQ.call rfl rfl rfl (fun w' he' => refAt_call a (sharedB a b) (by omega) w') ?_
    refine QSt1 (hB3.all) ?_
    refine GQ.call rfl rfl rfl (fun w' he' => refAt_call b (sharedB a b) (by omega) w') ?_
    by_cases h2 : ((a.bit (sharedB a b) : Nat) : Int) < (b.bit (sharedB a b) : Nat)
    · refine QSt0 ?_
      refine GQ.tail fun w4 he4 => ?_
      refine St0 ?_
      exact G.ret1 rfl rfl rfl rfl ⟨by simp; omega, he.trans he4⟩
    · refine QSt0 ?_
      refine GQ.tail fun w4 he4 => ?_
      refine St0 ?_
      exact G.ret1 rfl rfl rfl rfl ⟨by simp; omega, he.trans he4⟩
  · refine QSt0 ?_
    refine GQ.tail fun w4 he4 => ?_
    refine St0 ?_
    exact G.ret1 rfl rfl rfl rfl ⟨by simp; omega, he.trans he4⟩

theorem great5_call (v : Value) (ps : List Pair) (n : Int) (S : Where) (w : World) (h : RdP S w v ps) (hm : n ≤ 1000000) :
    Does Try.prog 27 #[v, iv n] w fun r w' => (∃ g, r = .bool g ∧ (g = false → (ps.length : Int) ≤ n ∧ ∀ (i : Nat) (x : Pair), ps[i]? = some x → x.val.length ≤ 100)) ∧ w' = w := by
  refine call_walk Try.func27 (by kernel_rfl) rfl Try.ntmps27 rfl ?_
  obtain ⟨p, c, rfl, hc⟩ := h.isSlice
  refine St0 ?_
  by_cases hn : (ps.length : Int) > n
  · refine St0 ?_
    exact G.ret1 rfl rfl rfl rfl ⟨⟨true, rfl, by simp⟩, rfl⟩
  refine St0 ?_
  refine G.sub (f' := [(5, iv ((0 : Nat) : Int)), (0, .slice p ps.length c)]) (by (repeat (first | exact Fr.sub_nil _ | refine Fr.sub_cons rfl ?_))) ?_
  refine G.rounds (α := Nat) (fun j f w' => j ≤ ps.length ∧ w' = w ∧ (∀ (i : Nat) (x : Pair), i < j → ps[i]? = some x → x.val.length ≤ 100) ∧ f = [(5, iv j), (0, .slice p ps.length c)]) (fun j => ps.length - j) ?round 0 ⟨by omega, rfl, fun i x hi => by omega, rfl⟩
  rintro j f w1 ⟨hj, rfl, hall, rfl⟩ again
  by_cases hlt : (j : Int) < ps.length
  · obtain ⟨x, hx⟩ : ∃ x, ps[j]? = some x := ⟨_, List.getElem?_eq_getElem (by omega)⟩
    obtain ⟨b, o, c', u, hv, hu, hA⟩ := h.elem hx
    cases hv
    obtain ⟨pu, cu, rfl, hcu⟩ := RdF.isSlice hu
    refine St0 ?_
    (refine GL.indexSlice (j) 33 ((o + j * 33)) hT rfl rfl rfl rfl rfl rfl rfl rfl ?_ ?_ ?_ ?_; (focus omega); (focus omega); (focus omega))
    refine St1 ((pairAt hA).2) ?_
    by_cases hb : (x.val.length : Int) > 100
    · refine St0 ?_
      exact G.ret1 rfl rfl rfl rfl ⟨⟨true, rfl, by simp⟩, rfl⟩
    · refine St0 ?_
      refine G.sub (by (repeat (first | exact Fr.sub_nil _ | refine Fr.sub_cons rfl ?_))) (again (j + 1) _ _ (by omega) ⟨by omega, rfl, ?_, rfl⟩)
      intro i z hi hz
      rcases Nat.lt_or_eq_of_le (Nat.lt_succ_iff.1 hi) with h1 | h1
      · exact hall i z h1 hz
      · subst h1; rw [hx] at hz; cases hz; omega
  · refine St0 ?_
    refine G.ret1 rfl rfl rfl rfl ⟨⟨false, rfl, fun _ => ⟨by omega, fun i x hx => hall i x ?_ hx⟩⟩, rfl⟩
    have := (List.getElem?_eq_some_iff.1 hx).1
    omega

theorem refMay5_call (v : Value) (ps : List Pair) (S : Where) (w : World) (h : RdP S w v ps) :
    Does Try.prog 69 #[v] w fun r w' => r = .bool (mapB ps) ∧ Ext w w' := by
  refine call_walk Try.func69 (by kernel_rfl) rfl Try.ntmps69 rfl ?_
  obtain ⟨p, c, rfl, hc⟩ := h.isSlice
  refine St0 ?_
  by_cases h512 : (ps.length : Int) > 512
  · refine St0 ?_
    exact G.ret1 rfl rfl rfl rfl ⟨by rw [mapB_f fun h => by have := h.few; omega], Ext.refl w⟩
  refine St0 ?_
  refine G.sub (f' := [(3, iv ((0 : Nat) : Int)), (0, .slice p ps.length c)]) (by (repeat (first | exact Fr.sub_nil _ | refine Fr.sub_cons rfl ?_))) ?_
  refine G.rounds (α := Nat) (fun j f w' => j ≤ ps.length ∧ Ext w w' ∧ (∀ i x, i < j → ps[i]? = some x → valB x.val.length = true) ∧ (∀ i x y, i + 1 < j → ps[i]? = some x → ps[i + 1]? = some y → x.key.num < y.key.num) ∧
    f = [(3, iv j), (0, .slice p ps.length c)]) (fun j => ps.length - j) ?round 0 ⟨by omega, Ext.refl w, fun i x hi => by omega, fun i x y hi => by omega, rfl⟩
  rintro j f w1 ⟨hj, he1, hval, hsort, rfl⟩ again
  by_cases hlt : (j : Int) < ps.length
  · obtain ⟨x, hx⟩ : ∃ x, ps[j]? = some x := ⟨_, List.getElem?_eq_getElem (by omega)⟩
    obtain ⟨b, o, c', u, hv, hu, hA⟩ := (h.ext he1).elem hx
    cases hv
    obtain ⟨pu, cu, rfl, hcu⟩ := RdF.isSlice hu
    have hP := pairAt hA
    refine St0 ?_
    refine G.quiet follows (by kernel_rfl) ?_
    refine QSt0 ?_
    (refine GQ.indexSlice (j) 33 ((o + j * 33)) hT rfl rfl rfl rfl rfl rfl rfl rfl ?_ ?_ ?_ ?_; (focus omega); (focus omega); (focus omega))
    refine QSt1 (hP.2) ?_
    refine GQ.call rfl rfl rfl (fun w' he' => (refValue_call _ _ _ w').mono fun v w'' ⟨h1, h2⟩ => ⟨h1, by rw [h2]; exact Ext.refl _⟩) ?_
    cases hok : valB x.val.length
    · refine QSt0 ?_
      refine GQ.nil fun w4 he4 => ?_
      refine St0 ?_
      refine G.ret1 rfl rfl rfl rfl ⟨?_, he1.trans he4⟩
      rw [mapB_f fun hm => ?_]
      have := hm.val j x hx
      rw [hok] at this
      cases this
    have hval' : ∀ i z, i < j + 1 → ps[i]? = some z → valB z.val.length = true := by
      intro i z hi hz
      rcases Nat.lt_or_eq_of_le (Nat.lt_succ_iff.1 hi) with h1 | h1
      · exact hval i z h1 hz
      · subst h1; rw [hx] at hz; cases hz; exact hok
    refine QSt0 ?_
    by_cases hj0 : (j : Int) > 0
    · obtain ⟨y, hy⟩ : ∃ y, ps[j - 1]? = some y := ⟨_, List.getElem?_eq_getElem (by omega)⟩
      obtain ⟨b', o', c'', u', hv', hu', hA'⟩ := (h.ext he1).elem hy
      cases hv'
      refine QSt0 ?_
      (refine GQ.indexSlice ((j - 1)) 33 ((o + (j - 1) * 33)) hT rfl rfl rfl rfl rfl rfl rfl rfl ?_ ?_ ?_ ?_; (focus omega); (focus omega); (focus omega))
      refine QSt1 ((pairAt hA').1) ?_
      (refine GQ.indexSlice (j) 33 ((o + j * 33)) hT rfl rfl rfl rfl rfl rfl rfl rfl ?_ ?_ ?_ ?_; (focus omega); (focus omega); (focus omega))
      refine QSt1 (hP.1) ?_
      refine GQ.call rfl rfl rfl (fun w' he' => refAhead_call y.key x.key w') ?_
      cases hah : aheadB y.key x.key
      · refine QSt0 ?_
        refine GQ.nil fun w4 he4 => ?_
        refine St0 ?_
        refine G.ret1 rfl rfl rfl rfl ⟨?_, he1.trans he4⟩
        rw [mapB_f fun hm => ?_]
        have := hm.sorted (j - 1) y x hy (by rw [show j - 1 + 1 = j by omega]; exact hx)
        simp [aheadB] at hah
        omega
      · refine QSt0 ?_
        refine GQ.nil fun w4 he4 => ?_
        refine St0 ?_
        refine G.sub (by (repeat (first | exact Fr.sub_nil _ | refine Fr.sub_cons rfl ?_))) (again (j + 1) _ _ (by omega) ⟨by omega, he1.trans he4, hval', ?_, rfl⟩)
        intro i z z' hi hz hz'
        rcases Nat.lt_or_eq_of_le (Nat.lt_succ_iff.1 hi) with h1 | h1
        · exact hsort i z z' h1 hz hz'
        · have : i = j - 1 := by omega
          subst this
          rw [hy] at hz; cases hz
          rw [show j - 1 + 1 = j by omega, hx] at hz'; cases hz'
          simpa [aheadB] using hah
    · refine QSt0 ?_
      refine GQ.nil fun w4 he4 => ?_
      refine St0 ?_
      exact G.sub (by (repeat (first | exact Fr.sub_nil _ | refine Fr.sub_cons rfl ?_))) (again (j + 1) _ _ (by omega) ⟨by omega, he1.trans he4, hval', fun i z z' hi => by omega, rfl⟩)
  · refine St0 ?_
    refine G.ret1 rfl rfl rfl rfl ⟨?_, he1⟩
    rw [mapB_t ⟨by omega, fun i x hx => hval i x (by have := (List.getElem?_eq_some_iff.1 hx).1; omega) hx, fun i x y hx hy => hsort i x y (by have := (List.getElem?_eq_some_iff.1 hy).1; omega) hx hy⟩]
end Go.Proofs.Ytefneilaongpbaa
