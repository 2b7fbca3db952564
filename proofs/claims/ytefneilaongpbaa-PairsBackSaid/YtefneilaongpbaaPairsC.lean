/-
  Pairs: a key's value; comparing pairs.
-/
import Derived.Test.YtefneilaongpbaaPairsB
import Derived.Test.YtefneilaongpbaaPrf5
set_option linter.unusedVariables false
set_option linter.unusedSimpArgs false
set_option maxRecDepth 100000
set_option maxHeartbeats 4000000
namespace Go.Proofs.Ytefneilaongpbaa
open Go Go.Bd Go.RowKit
attribute [local irreducible] G GL GQ

theorem found_ahead {ps : List Pair} (h : MapOk ps) {i : Nat} {x : Pair} {k : Dig} (hx : ps[i]? = some x) (hk : x.key = k) : i = ahead ps k ∧ hasK ps k = true := by
  have hle := ahead_le ps k
  have h1 : ¬ i < ahead ps k := by
    intro hlt
    have := (ahead_iff h k i x hx).2 hlt
    rw [hk, aheadB_self] at this
    cases this
  have h2 : ¬ ahead ps k < i := by
    intro hlt
    have hil := (List.getElem?_eq_some_iff.1 hx).1
    obtain ⟨y, hy⟩ : ∃ y, ps[ahead ps k]? = some y := ⟨_, List.getElem?_eq_getElem (by omega)⟩
    have h3 := h.lt' hlt hy hx
    have h4 : aheadB y.key k = true := by simp only [aheadB, decide_eq_true_eq]; rw [← hk]; exact h3
    have := (ahead_iff h k _ y hy).1 h4
    omega
  have e : i = ahead ps k := by omega
  refine ⟨e, ?_⟩
  simp [hasK, ← e, hx, hk]
theorem hasK_find {ps : List Pair} {k : Dig} (h : hasK ps k = true) : ∃ x, ps[ahead ps k]? = some x ∧ x.key = k := by
  unfold hasK at h
  split at h
  · rename_i x hx; exact ⟨x, hx, by simpa using h⟩
  · cases h
theorem hasK_none {ps : List Pair} {k : Dig} (h : ∀ (i : Nat) (x : Pair), ps[i]? = some x → x.key ≠ k) : hasK ps k = false := by
  cases hh : hasK ps k
  · rfl
  · obtain ⟨x, hx, hk⟩ := hasK_find hh
    exact absurd hk (h _ x hx)
noncomputable def gotB (ps : List Pair) (k : Dig) : Bool := mapB ps && hasK ps k
noncomputable def gotV (ps : List Pair) (k : Dig) : Bytes := if gotB ps k then ((ps[ahead ps k]?).map Pair.val).getD [] else []
theorem gotV_f {ps : List Pair} {k : Dig} (h : gotB ps k = false) : gotV ps k = [] := by simp [gotV, h]
theorem gotV_t {ps : List Pair} {k : Dig} {x : Pair} (h : gotB ps k = true) (hx : ps[ahead ps k]? = some x) : gotV ps k = x.val := by simp [gotV, h, hx]
theorem valB_le {n : Nat} (h : valB n = true) : 0 < n ∧ n ≤ 64 := by simpa [valB] using h

theorem get_call (v : Value) (ps : List Pair) (k : Dig) (S : Where) (w : World) (h : RdP S w v ps) :
    Does Try.prog 29 #[v, dv k] w fun r w' => ∃ u, r = .tuple #[u, .bool (gotB ps k)] ∧ OwnB w.heap.size w' u (gotV ps k) ∧ Ext w w' := by
  refine call_walk Try.func29 (by kernel_rfl) rfl Try.ntmps29 rfl ?_
  obtain ⟨p, c, rfl, hc⟩ := h.isSlice
  refine St0 ?_
  refine GL.box rfl rfl rfl rfl fun b3 w1 hb3 hB3 he1 => ?_
  refine St0 ?_
  refine GL.call rfl rfl rfl (pcheck_call _ ps S w1 (h.ext he1)) ?_
  rintro r w2 ⟨rfl, he2⟩
  replace hB3 := hB3.ext he2
  have he := he1.trans he2
  cases hok : mapB ps
  · have e0 : gotB ps k = false := by simp [gotB, hok]
    have e1 : badE false = 8 := rfl
    rw [e1]
    refine St0 ?_
    exact G.ret2 rfl rfl rfl rfl rfl ⟨_, by rw [e0], by rw [gotV_f e0]; exact Own.bare _ _ none 1 _, he⟩
  have hM := mapB_iff.1 hok
  have e1 : badE true = 0 := rfl
  rw [e1]
  refine St1 (hB3.all) ?_
  refine GL.call rfl rfl rfl (find_call _ ps k S w2 (h.ext he) hM) ?_
  rintro r w3 ⟨rfl, he3⟩
  have hE := he.trans he3
  refine St0 ?_
  cases hh : hasK ps k
  · have e0 : gotB ps k = false := by simp [gotB, hh]
    refine St0 ?_
    exact G.ret2 rfl rfl rfl rfl rfl ⟨_, by rw [e0], by rw [gotV_f e0]; exact Own.bare _ _ none 1 _, hE⟩
  · have e0 : gotB ps k = true := by simp [gotB, hok, hh]
    obtain ⟨x, hx, hk⟩ := hasK_find hh
    have hvl := valB_le (hM.val _ x hx)
    have hlt := (List.getElem?_eq_some_iff.1 hx).1
    obtain ⟨b, o, c', u, hv, hu, hA⟩ := (h.ext hE).elem hx
    cases hv
    refine St0 ?_
    (refine GL.indexSlice ((ahead ps k)) 33 ((o + ahead ps k * 33)) hT rfl rfl rfl rfl rfl rfl rfl rfl ?_ ?_ ?_ ?_; (focus omega); (focus omega); (focus omega))
    refine St1 ((pairAt hA).2) ?_
    refine GL.call rfl rfl rfl (cloneB_call u x.val _ w3 hu (by omega)) ?_
    rintro r w4 ⟨ho, he4⟩
    refine St0 ?_
    exact G.ret2 rfl rfl rfl rfl rfl ⟨_, by rw [e0], by rw [gotV_t e0 hx]; exact ho.mono hE.size, hE.trans he4⟩

theorem refGet_call (v : Value) (ps : List Pair) (k : Dig) (S : Where) (w : World) (h : RdP S w v ps) :
    Does Try.prog 34 #[v, dv k] w fun r w' => ∃ u, r = .tuple #[u, .bool (gotB ps k)] ∧ OwnB w.heap.size w' u (gotV ps k) ∧ Ext w w' := by
  refine call_walk Try.func34 (by kernel_rfl) rfl Try.ntmps34 rfl ?_
  obtain ⟨p, c, rfl, hc⟩ := h.isSlice
  refine St0 ?_
  refine GL.box rfl rfl rfl rfl fun b3 w1 hb3 hB3 he1 => ?_
  refine St0 ?_
  refine GL.call rfl rfl rfl (refMay5_call _ ps S w1 (h.ext he1)) ?_
  rintro r w2 ⟨rfl, he2⟩
  replace hB3 := hB3.ext he2
  have he := he1.trans he2
  cases hok : mapB ps
  · have e0 : gotB ps k = false := by simp [gotB, hok]
    refine St0 ?_
    exact G.ret2 rfl rfl rfl rfl rfl ⟨_, by rw [e0], by rw [gotV_f e0]; exact Own.bare _ _ none 1 _, he⟩
  have hM := mapB_iff.1 hok
  have hfew := hM.few
  refine St1 (hB3.all) ?_
  refine GL.call rfl rfl rfl (find5_call _ ps k S w2 (h.ext he) (by omega)) ?_
  rintro r w3 ⟨⟨i, rfl, hf⟩, he3⟩
  replace hB3 := hB3.ext he3
  have hE := he.trans he3
  rcases hf with ⟨j, x, rfl, hx, hk⟩ | ⟨rfl, hno⟩
  · obtain ⟨rfl, hh⟩ := found_ahead hM hx hk
    have e0 : gotB ps k = true := by simp [gotB, hok, hh]
    have hvl := valB_le (hM.val _ x hx)
    have hlt := (List.getElem?_eq_some_iff.1 hx).1
    refine St1 (hB3.all) ?_
    refine GL.call rfl rfl rfl (find5_call _ ps k S w3 (h.ext hE) (by omega)) ?_
    rintro r w4 ⟨⟨i, rfl, hf⟩, he4⟩
    have hE4 := hE.trans he4
    rcases hf with ⟨j, y, rfl, hy, hk'⟩ | ⟨rfl, hno⟩
    · obtain ⟨rfl, _⟩ := found_ahead hM hy hk'
      obtain ⟨b, o, c', u, hv, hu, hA⟩ := (h.ext hE4).elem hx
      cases hv
      refine St0 ?_
      (refine GL.indexSlice ((ahead ps k)) 33 ((o + ahead ps k * 33)) hT rfl rfl rfl rfl rfl rfl rfl rfl ?_ ?_ ?_ ?_; (focus omega); (focus omega); (focus omega))
      refine St1 ((pairAt hA).2) ?_
      refine GL.call rfl rfl rfl (refTwin_call u x.val _ w4 hu (by omega)) ?_
      rintro r w5 ⟨ho, he5⟩
      refine St0 ?_
      exact G.ret2 rfl rfl rfl rfl rfl ⟨_, by rw [e0], by rw [gotV_t e0 hx]; exact ho.mono hE4.size, hE4.trans he5⟩
    · exact absurd hk (hno _ x hx)
  · have e0 : gotB ps k = false := by simp [gotB, hasK_none hno]
    refine St0 ?_
    exact G.ret2 rfl rfl rfl rfl rfl ⟨_, by rw [e0], by rw [gotV_f e0]; exact Own.bare _ _ none 1 _, hE⟩

theorem pair_eq (a b : Pair) : decide (a = b) = (decide (a.key = b.key) && decide (a.val = b.val)) := by
  rw [Bool.eq_iff_iff]
  cases a
  cases b
  simp
theorem refSame5_call (v u : Value) (xs ys : List Pair) (S S' : Where) (w : World) (h : RdP S w v xs) (h' : RdP S' w u ys) (hmax : xs.length ≤ 4294967296) :
    Does Try.prog 32 #[v, u] w fun r w' => r = .bool (decide (xs = ys)) ∧ Ext w w' := by
  refine call_walk Try.func32 (by kernel_rfl) rfl Try.ntmps32 rfl ?_
  obtain ⟨p, c, rfl, hc⟩ := h.isSlice
  obtain ⟨p', c', rfl, hc'⟩ := h'.isSlice
  refine St0 ?_
  by_cases hl : (xs.length : Int) = ys.length
  · have hl' : xs.length = ys.length := by omega
    refine St0 ?_
    refine G.sub (f' := [(5, iv ((0 : Nat) : Int)), (0, .slice p xs.length c), (1, .slice p' ys.length c')]) (by (repeat (first | exact Fr.sub_nil _ | refine Fr.sub_cons rfl ?_))) ?_
    refine G.rounds (α := Nat) (fun j f w' => j ≤ xs.length ∧ Ext w w' ∧ (∀ i, i < j → xs[i]? = ys[i]?) ∧ f = [(5, iv j), (0, .slice p xs.length c), (1, .slice p' ys.length c')]) (fun j => xs.length - j) ?round 0 ⟨by omega, Ext.refl w, fun i hi => by omega, rfl⟩
    rintro j f w1 ⟨hj, he1, heq, rfl⟩ again
    by_cases hlt : (j : Int) < xs.length
    · obtain ⟨x, hx⟩ : ∃ x, xs[j]? = some x := ⟨_, List.getElem?_eq_getElem (by omega)⟩
      obtain ⟨y, hy⟩ : ∃ y, ys[j]? = some y := ⟨_, List.getElem?_eq_getElem (by omega)⟩
      obtain ⟨b, o, c2, ux, hv, hux, hA⟩ := (h.ext he1).elem hx
      obtain ⟨b', o', c2', uy, hv', huy, hA'⟩ := (h'.ext he1).elem hy
      cases hv
      cases hv'
      refine St0 ?_
      refine G.quiet follows (by kernel_rfl) ?_
      refine QSt0 ?_
      (refine GQ.indexSlice (j) 33 ((o + j * 33)) hT rfl rfl rfl rfl rfl rfl rfl rfl ?_ ?_ ?_ ?_; (focus omega); (focus omega); (focus omega))
      refine QSt1 ((pairAt hA).1) ?_
      (refine GQ.indexSlice (j) 33 ((o' + j * 33)) hT rfl rfl rfl rfl rfl rfl rfl rfl ?_ ?_ ?_ ?_; (focus omega); (focus omega); (focus omega))
      refine QSt1 ((pairAt hA').1) ?_
      by_cases hb : x.key = y.key
      · refine QSt0 ?_
        (refine GQ.indexSlice (j) 33 ((o + j * 33)) hT rfl rfl rfl rfl rfl rfl rfl rfl ?_ ?_ ?_ ?_; (focus omega); (focus omega); (focus omega))
        refine QSt1 ((pairAt hA).2) ?_
        (refine GQ.indexSlice (j) 33 ((o' + j * 33)) hT rfl rfl rfl rfl rfl rfl rfl rfl ?_ ?_ ?_ ?_; (focus omega); (focus omega); (focus omega))
        refine QSt1 ((pairAt hA').2) ?_
        refine GQ.call rfl rfl rfl (fun w' he' => (same_call ux uy _ _ _ _ w' (RdB.ext hux he') (RdB.ext huy he')).mono fun r w'' ⟨h1, h2⟩ => ⟨h1, by rw [h2]; exact Ext.refl _⟩) ?_
        cases hv : decide (x.val = y.val)
        · refine QSt0 ?_
          refine GQ.nil fun w2 he2 => ?_
          refine St0 ?_
          refine G.ret1 rfl rfl rfl rfl ⟨?_, he1.trans he2⟩
          rw [not_eq_at (i := j)]
          rw [hx, hy]
          intro e
          simp only [Option.some.injEq] at e
          rw [e] at hv
          simp at hv
        · refine QSt0 ?_
          refine GQ.nil fun w2 he2 => ?_
          refine St0 ?_
          refine G.sub (by (repeat (first | exact Fr.sub_nil _ | refine Fr.sub_cons rfl ?_))) (again (j + 1) _ _ (by omega) ⟨by omega, he1.trans he2, ?_, rfl⟩)
          intro i hi
          rcases Nat.lt_or_eq_of_le (Nat.lt_succ_iff.1 hi) with h1 | h1
          · exact heq i h1
          · subst h1
            rw [hx, hy]
            have : decide (x = y) = true := by rw [pair_eq, hv]; simp [hb]
            rw [of_decide_eq_true this]
      · refine QSt0 ?_
        refine GQ.nil fun w2 he2 => ?_
        refine St0 ?_
        refine G.ret1 rfl rfl rfl rfl ⟨?_, he1.trans he2⟩
        rw [not_eq_at (i := j)]
        rw [hx, hy]
        intro e
        simp only [Option.some.injEq] at e
        exact hb (by rw [e])
    · refine St0 ?_
      refine G.ret1 rfl rfl rfl rfl ⟨?_, he1⟩
      rw [all_eq hl' fun i hi => heq i (by omega)]
  · refine St0 ?_
    refine G.ret1 rfl rfl rfl rfl ⟨?_, Ext.refl w⟩
    rw [not_eq_len (by omega)]
end Go.Proofs.Ytefneilaongpbaa
