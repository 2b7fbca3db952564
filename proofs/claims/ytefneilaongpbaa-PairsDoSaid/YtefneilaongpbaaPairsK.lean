/-
  The document's Put and Drop.
-/
import Derived.Test.YtefneilaongpbaaPairsE
set_option linter.unusedVariables false
set_option linter.unusedSimpArgs false
set_option maxRecDepth 100000
set_option maxHeartbeats 4000000
namespace Go.Proofs.Ytefneilaongpbaa
open Go Go.Bd Go.RowKit
attribute [local irreducible] G GL GQ GS

theorem refPut_call (v u : Value) (ps : List Pair) (k : Dig) (bs : Bytes) (S S' : Where) (w : World) (h : RdP S w v ps) (hu : RdB S' w u bs) :
    Does Try.prog 35 #[v, dv k, u] w fun r w' => ∃ x, r = .tuple #[x, iv (putE ps k bs)] ∧ OwnP w.heap.size w' x (putL ps k bs) ∧ Ext w w' := by
  refine call_walk Try.func35 (by kernel_rfl) rfl Try.ntmps35 rfl ?_
  obtain ⟨p, c, rfl, hc⟩ := h.isSlice
  obtain ⟨pu, cu, rfl, hcu⟩ := RdF.isSlice hu
  refine St0 ?_
  refine GL.box rfl rfl rfl rfl fun b4 w1 hb4 hB4 he1 => ?_
  refine St0 ?_
  refine GL.call rfl rfl rfl (refMay5_call _ ps S w1 (h.ext he1)) ?_
  rintro r w2 ⟨rfl, he2⟩
  replace hB4 := hB4.ext he2
  have he := he1.trans he2
  cases hok : mapB ps
  · refine St0 ?_
    exact G.ret2 rfl rfl rfl rfl rfl ⟨_, by rw [(putE_bad (by simp [hok])).1], by rw [(putE_bad (by simp [hok])).2]; exact OwnP.bare _ _ none, he⟩
  have hM := mapB_iff.1 hok
  have hfew := hM.few
  refine St0 ?_
  refine GL.call rfl rfl rfl (refValue_call pu bs.length cu w2) ?_
  rintro r w3 ⟨rfl, rfl⟩
  cases hvb : valB bs.length
  · refine St0 ?_
    exact G.ret2 rfl rfl rfl rfl rfl ⟨_, by rw [(putE_bad (by simp [hvb])).1], by rw [(putE_bad (by simp [hvb])).2]; exact OwnP.bare _ _ none, he⟩
  have hvl := valB_le hvb
  have hboth : (mapB ps && valB bs.length) = true := by simp [hok, hvb]
  refine St1 (hB4.all) ?_
  refine GL.call rfl rfl rfl (with_call _ _ ps k bs S S' w3 (h.ext he) (hu.ext he) (by omega) (fun x hx => by have := valB_le (hM.valid x hx); omega) (by omega)) ?_
  rintro out w4 ⟨hout, he4⟩
  have hE := he.trans he4
  have hlen := put_len hM k bs
  obtain ⟨po, co, hov, hoc⟩ := hout.rd.isSlice
  subst hov
  refine St0 ?_
  by_cases hbig : ((withL (without ps k) k bs).length : Int) > 512
  · have := putE_full (k := k) (v := bs) hboth (by omega)
    refine St0 ?_
    exact G.ret2 rfl rfl rfl rfl rfl ⟨_, by rw [this.1], by rw [this.2]; exact OwnP.bare _ _ none, hE⟩
  · have := putE_ok (k := k) (v := bs) hboth (by omega)
    refine St0 ?_
    exact G.ret2 rfl rfl rfl rfl rfl ⟨_, by rw [this.1], by rw [this.2]; exact hout.mono he.size, hE⟩
theorem refDrop_call (v : Value) (ps : List Pair) (k : Dig) (S : Where) (w : World) (h : RdP S w v ps) :
    Does Try.prog 36 #[v, dv k] w fun r w' => ∃ x, r = .tuple #[x, iv (dropE ps k)] ∧ OwnP w.heap.size w' x (dropL ps k) ∧ Ext w w' := by
  refine call_walk Try.func36 (by kernel_rfl) rfl Try.ntmps36 rfl ?_
  obtain ⟨p, c, rfl, hc⟩ := h.isSlice
  refine St0 ?_
  refine GL.box rfl rfl rfl rfl fun b3 w1 hb3 hB3 he1 => ?_
  refine St0 ?_
  refine GL.call rfl rfl rfl (refMay5_call _ ps S w1 (h.ext he1)) ?_
  rintro r w2 ⟨rfl, he2⟩
  replace hB3 := hB3.ext he2
  have he := he1.trans he2
  cases hok : mapB ps
  · have e2 : dropE ps k = 8 := by simp [dropE, hok]
    refine St0 ?_
    exact G.ret2 rfl rfl rfl rfl rfl ⟨_, by rw [e2], by rw [show dropL ps k = [] by simp [dropL, e2]]; exact OwnP.bare _ _ none, he⟩
  have hM := mapB_iff.1 hok
  have hfew := hM.few
  refine St1 (hB3.all) ?_
  refine GL.call rfl rfl rfl (find5_call _ ps k S w2 (h.ext he) (by omega)) ?_
  rintro r w3 ⟨⟨i, rfl, hf⟩, he3⟩
  replace hB3 := hB3.ext he3
  have hE := he.trans he3
  rcases hf with ⟨j, x, rfl, hx, hk⟩ | ⟨rfl, hno⟩
  · obtain ⟨rfl, hh⟩ := found_ahead hM hx hk
    have e2 : dropE ps k = 0 := by simp [dropE, hok, hh]
    have e3 : dropL ps k = without ps k := by simp [dropL, e2]
    refine St1 (hB3.all) ?_
    refine GL.call rfl rfl rfl (without_call _ ps k S w3 (h.ext hE) (by omega) (fun x hx => by have := valB_le (hM.valid x hx); omega)) ?_
    rintro out w4 ⟨hout, he4⟩
    refine St0 ?_
    exact G.ret2 rfl rfl rfl rfl rfl ⟨_, by rw [e2], by rw [e3]; exact hout.mono hE.size, hE.trans he4⟩
  · have hh : hasK ps k = false := hasK_none hno
    have e2 : dropE ps k = 6 := by simp [dropE, hok, hh]
    refine St0 ?_
    exact G.ret2 rfl rfl rfl rfl rfl ⟨_, by rw [e2], by rw [show dropL ps k = [] by simp [dropL, e2]]; exact OwnP.bare _ _ none, hE⟩
end Go.Proofs.Ytefneilaongpbaa
