/-
  The law of putting and dropping: its walk.
-/
import Derived.Test.YtefneilaongpbaaPairsL
set_option linter.unusedVariables false
set_option linter.unusedSimpArgs false
set_option maxRecDepth 100000
set_option maxHeartbeats 8000000
namespace Go.Proofs.Ytefneilaongpbaa
open Go Go.Bd Go.RowKit
attribute [local irreducible] G GL GQ GS

theorem back_call (v u : Value) (ps : List Pair) (k o : Dig) (bs : Bytes) (w : World) (h : RdP any w v ps) (hu : RdB any w u bs) :
    Does Try.prog 5 #[v, dv k, u, dv o] w fun r w' => r = .bool true ∧ Ext w w' := by
  refine call_walk Try.func5 (by kernel_rfl) rfl Try.ntmps5 rfl ?_
  obtain ⟨p, c, rfl, hc⟩ := h.isSlice
  obtain ⟨pu, cu, rfl, hcu⟩ := RdF.isSlice hu
  refine St0 ?_
  refine GL.box rfl rfl rfl rfl fun b5 w1 hb5 hB5 he1 => ?_
  refine GL.box rfl rfl rfl rfl fun b7 w2 hb7 hB7 he2 => ?_
  replace hB5 := hB5.ext he2
  have e2 := he1.trans he2
  refine St0 ?_
  refine GL.call rfl rfl rfl (alive5_call w2) ?_
  rintro r w3 ⟨rfl, he3⟩
  replace hB5 := hB5.ext he3
  replace hB7 := hB7.ext he3
  have e3 := e2.trans he3
  refine St0 ?_
  refine GL.call rfl rfl rfl (great5_call _ ps 30 any w3 (h.ext e3) (by omega)) ?_
  rintro r w4 ⟨⟨g, rfl, hg⟩, rfl⟩
  cases g
  case true =>
    refine St0 ?_
    exact G.ret1 rfl rfl rfl rfl ⟨rfl, e3⟩
  obtain ⟨hl30, hv100⟩ := hg rfl
  refine St0 ?_
  by_cases hb : (bs.length : Int) > 100
  · refine St0 ?_
    exact G.ret1 rfl rfl rfl rfl ⟨rfl, e3⟩
  refine St1 (hB5.all) ?_
  refine GL.call rfl rfl rfl (put_call _ _ ps k bs any any w4 (h.ext e3) (hu.ext e3)) ?_
  rintro r w5 ⟨x, rfl, hx, he5⟩
  replace hB5 := hB5.ext he5
  replace hB7 := hB7.ext he5
  have e5 := e3.trans he5
  obtain ⟨px, cx, hxv, hxc⟩ := hx.rd.isSlice
  subst hxv
  by_cases hE : putE ps k bs = 0
  case neg =>
    have hL : putL ps k bs = [] := by simp [putL, hE]
    have hne : ¬ (putE ps k bs : Int) = 0 := hE
    rw [hL, List.length_nil]
    refine St0 ?_
    exact G.ret1 rfl rfl rfl rfl ⟨rfl, e5⟩
  rw [hE]
  have hmap := put_map hE
  have hgot := put_got hE
  have hdrop := put_drop hE
  obtain ⟨hps, hvb, hl512⟩ := putE_iff.1 hE
  generalize hQ : putL ps k bs = Q at hx hmap hgot hdrop hxc ⊢
  refine St1 (hB5.all) ?_
  refine GL.call rfl rfl rfl (get_call _ Q k _ w5 hx.rd) ?_
  rintro r w6 ⟨a, rfl, ha, he6⟩
  replace hB5 := hB5.ext he6
  replace hB7 := hB7.ext he6
  replace hx := hx.ext he6
  have e6 := e5.trans he6
  rw [hgot.1]
  rw [hgot.2] at ha
  refine St1 (hB7.all) ?_
  refine GL.call rfl rfl rfl (get_call _ ps o any w6 (h.ext e6)) ?_
  rintro r w7 ⟨b, rfl, hb7', he7⟩
  replace hB5 := hB5.ext he7
  replace hB7 := hB7.ext he7
  replace hx := hx.ext he7
  replace ha := ha.ext he7
  have e7 := e6.trans he7
  refine St1 (hB7.all) ?_
  refine GL.call rfl rfl rfl (get_call _ Q o _ w7 hx.rd) ?_
  rintro r w8 ⟨c', rfl, hc8, he8⟩
  replace hB5 := hB5.ext he8
  replace hB7 := hB7.ext he8
  replace hx := hx.ext he8
  replace ha := ha.ext he8
  replace hb7' := hb7'.ext he8
  have e8 := e7.trans he8
  refine St1 (hB5.all) ?_
  refine GL.call rfl rfl rfl (get_call _ ps k any w8 (h.ext e8)) ?_
  rintro r w9 ⟨d, rfl, hd9, he9⟩
  replace hB5 := hB5.ext he9
  replace hB7 := hB7.ext he9
  replace hx := hx.ext he9
  replace ha := ha.ext he9
  replace hb7' := hb7'.ext he9
  replace hc8 := hc8.ext he9
  have e9 := e8.trans he9
  refine St1 (hB5.all) ?_
  refine GL.call rfl rfl rfl (drop_call _ Q k _ w9 hx.rd) ?_
  rintro r w10 ⟨y, rfl, hy, he10⟩
  replace hB5 := hB5.ext he10
  replace hB7 := hB7.ext he10
  replace hx := hx.ext he10
  replace ha := ha.ext he10
  replace hb7' := hb7'.ext he10
  replace hc8 := hc8.ext he10
  have e10 := e9.trans he10
  rw [hdrop.1]
  rw [hdrop.2] at hy
  refine St0 ?_
  refine GL.call rfl rfl rfl (pcheck_call _ Q _ w10 hx.rd) ?_
  rintro r w11 ⟨rfl, he11⟩
  replace hB5 := hB5.ext he11
  replace hB7 := hB7.ext he11
  replace hx := hx.ext he11
  replace ha := ha.ext he11
  replace hb7' := hb7'.ext he11
  replace hc8 := hc8.ext he11
  replace hy := hy.ext he11
  have e11 := e10.trans he11
  rw [mapB_t hmap]
  have e0 : badE true = 0 := rfl
  rw [e0]
  refine St0 ?_
  refine GL.call rfl rfl rfl (same_call _ _ bs bs _ _ w11 ha.fresh (hu.ext e11)) ?_
  rintro r w12 ⟨rfl, rfl⟩
  rw [decide_eq_true rfl]
  refine St0 ?_
  cases hhad : gotB ps k
  · refine St0 ?_
    have hno : hasK ps k = false := by simpa [gotB, mapB_t hps] using hhad
    rw [hps.without_not hno] at hy
    refine GL.call rfl rfl rfl (refSame5_call _ _ ps ps _ any w12 hy.rd (h.ext e11) (by omega)) ?_
    rintro r w13 ⟨rfl, he13⟩
    replace hB5 := hB5.ext he13
    replace hB7 := hB7.ext he13
    replace hx := hx.ext he13
    replace ha := ha.ext he13
    replace hb7' := hb7'.ext he13
    replace hc8 := hc8.ext he13
    have e13 := e11.trans he13
    rw [decide_eq_true rfl]
    refine St0 ?_
    by_cases hok : o = k
    · refine St2 (hB7.all) (hB5.all) ?_
      exact G.ret1 rfl rfl rfl rfl ⟨rfl, e13⟩
    · have hoth := put_other hE hok
      rw [hQ] at hoth
      rw [hoth.2] at hc8
      rw [hoth.1]
      refine St2 (hB7.all) (hB5.all) ?_
      rw [beq_self_eq_true]
      refine St0 ?_
      refine GL.call rfl rfl rfl (same_call _ _ (gotV ps o) (gotV ps o) _ _ w13 hb7'.fresh hc8.fresh) ?_
      rintro r w14 ⟨rfl, rfl⟩
      rw [decide_eq_true rfl]
      refine St0 ?_
      exact G.ret1 rfl rfl rfl rfl ⟨rfl, e13⟩
  · refine St0 ?_
    by_cases hok : o = k
    · refine St2 (hB7.all) (hB5.all) ?_
      exact G.ret1 rfl rfl rfl rfl ⟨rfl, e11⟩
    · have hoth := put_other hE hok
      rw [hQ] at hoth
      rw [hoth.2] at hc8
      rw [hoth.1]
      refine St2 (hB7.all) (hB5.all) ?_
      rw [beq_self_eq_true]
      refine St0 ?_
      refine GL.call rfl rfl rfl (same_call _ _ (gotV ps o) (gotV ps o) _ _ w12 hb7'.fresh hc8.fresh) ?_
      rintro r w14 ⟨rfl, rfl⟩
      rw [decide_eq_true rfl]
      refine St0 ?_
      exact G.ret1 rfl rfl rfl rfl ⟨rfl, e11⟩
end Go.Proofs.Ytefneilaongpbaa
