/-
  Inputs stand in each other: the law's walk.
-/
import Derived.Test.YtefneilaongpbaaDoorVerE
set_option linter.unusedVariables false
set_option linter.unusedSimpArgs false
set_option maxRecDepth 100000
set_option maxHeartbeats 4000000
namespace Go.Proofs.YtefneilaongpbaaDoor
open Go Go.Bd Go.RowKit
attribute [local irreducible] G GL GQ GS shaD

theorem from_at (x : Prf) : ∀ (ss : List Dig) (i0 j : Nat) (s : Dig), ss[j]? = some s → ∃ t, (fromL x i0 ss)[j]? = some (upB x (i0 + j) (shaD t) s) ∧ (fromL x i0 ss)[j + 1]? = some t
  | [], _, j, s, h => by simp at h
  | s0 :: ss, i0, 0, s, h => by
    simp only [List.getElem?_cons_zero, Option.some.injEq] at h
    subst h
    exact ⟨_, rfl, by rw [fromL, List.getElem?_cons_succ]; exact fromL_head x (i0 + 1) ss⟩
  | s0 :: ss, i0, j + 1, s, h => by
    simp only [List.getElem?_cons_succ] at h
    obtain ⟨t, h1, h2⟩ := from_at x ss (i0 + 1) j s h
    refine ⟨t, ?_, ?_⟩
    · rw [fromL, List.getElem?_cons_succ, h1, show i0 + 1 + j = i0 + (j + 1) by omega]
    · rw [fromL, List.getElem?_cons_succ, h2]
theorem up_form (x : Prf) (i : Nat) (d s : Dig) : ∃ A B : Dig, upB x i d s = tagB 2 [A.1, B.1] ∧ ((A = d ∧ B = s) ∨ (A = s ∧ B = d)) := by
  unfold upB
  split
  · exact ⟨d, s, rfl, .inl ⟨rfl, rfl⟩⟩
  · exact ⟨s, d, rfl, .inr ⟨rfl, rfl⟩⟩
theorem flat2 (A B : Dig) : (flatP [A.1, B.1]).length = 72 := by
  simp [flatP, be4_len, A.2, B.2]
theorem verifyChain_call (x : Prf) (u s : Value) (w : World) (hx : PrfM any w x u s) (hK : Kt w) :
    Does Tryd.prog 8 #[prv x u s] w fun r w' => r = .bool true ∧ Ext w w' := by
  refine call_walk Tryd.func8 (by kernel_rfl) rfl Tryd.ntmps8 rfl ?_
  refine St0 ?_
  refine GL.box rfl rfl rfl rfl fun b1 w1 hb1 hB1 he1 => ?_
  refine St0 ?_
  refine GL.call rfl rfl rfl (vs := []) (alive8_call w1 (hK.ext he1)) ?_
  rintro r w2 ⟨rfl, he2⟩
  replace hB1 := hB1.ext he2
  have e2 := he1.trans he2
  refine St1 (hB1.all) ?_
  refine GL.call rfl rfl rfl (great7_call x u s _ w2 (hx.ext e2)) ?_
  rintro r w3 ⟨rfl, he3⟩
  replace hB1 := hB1.ext he3
  have e3 := e2.trans he3
  cases hg : decide (100 < x.val.length) || decide (300 < x.sides.length)
  case true =>
    refine St0 ?_
    exact G.ret1 rfl rfl rfl rfl ⟨rfl, e3⟩
  have hxv : x.val.length ≤ 100 ∧ x.sides.length ≤ 300 := by simpa using hg
  refine St1 (hB1.all) ?_
  refine GL.call rfl rfl rfl (inputs_call x u s _ w3 (hx.ext e3) (by omega) (by omega) (hK.ext e3)) ?_
  rintro r w4 ⟨v, rfl, hO, he4⟩
  replace hB1 := hB1.ext he4
  have e4 := e3.trans he4
  refine St1 (hB1.all) ?_
  refine GL.call rfl rfl rfl (vroot_call x u s _ w4 (hx.ext e4) (by omega) (by omega) (hK.ext e4)) ?_
  rintro r w5 ⟨rfl, he5⟩
  replace hB1 := hB1.ext he5
  replace hO := hO.ext he5
  have e5 := e4.trans he5
  refine St0 ?_
  refine GL.alloc hT rfl rfl rfl fun b6 w6 hb6 hB6 he6 => ?_
  have l6 := hB6.lt
  have l1 := hB1.lt
  have s5 := e5.size
  replace hB1 := hB1.ext he6
  refine GL.storeVar hT rfl rfl rfl rfl rfl (Dig.len _) (Dig.one _) hB6 (by rw [Dig.len]; rfl) fun w7 hc7 hB6 => ?_
  replace hB1 := hB1.chg hc7 (by omega)
  have e57 : Ext w5 w7 := hc7.below (by omega) he6
  have e7 := e5.trans e57
  replace hO := hO.ext e57
  clear hc7 he6 he5 he4 he3 he2 he1 e2 e3 e4
  obtain ⟨pv, cv, rfl⟩ := hO.shape
  cases hok : mayB x
  · have hin : inputsP x = [] := by rw [inputsP, hok]; rfl
    have e80 : badE false = 8 := rfl
    rw [hin, e80]
    refine St1 (hB1.all) ?_
    refine GL.call rfl rfl rfl (check_call x u s _ w7 (hx.ext e7)) ?_
    rintro r w8 ⟨rfl, he8⟩
    rw [hok, e80, show ([] : List Bytes).length = 0 from rfl]
    refine St0 ?_
    exact G.ret1 rfl rfl rfl rfl ⟨rfl, e7.trans he8⟩
  have e00 : badE true = 0 := rfl
  rw [e00]
  obtain ⟨hh, hl⟩ := inputsP_head hok
  have hin : inputsP x = fromP x := by rw [inputsP, hok]; rfl
  have hrt : rootV x = shaD ((fromP x).headD []) := by rw [rootV, hok]; rfl
  have hsm : ∀ y ∈ fromP x, y.length ≤ 2000 := fromL_small x (by omega) 0 x.sides
  obtain ⟨bo, oo, co, uo, hvo, huo, hAo⟩ := hO.rd.elem hh
  cases hvo
  have hbl : ((fromP x).headD []).length ≤ 2000 := hsm _ (List.mem_of_getElem? (fromL_head x 0 _))
  obtain ⟨hk, hen, hot, hvv, hs⟩ := pat hB1.all
  obtain ⟨ps, cs, rfl, hcs⟩ := RdF.isSlice hx.sides
  have hR := hO.rd
  rw [hl]
  have hadd : (x.sides.length : Int) + 1 = ((x.sides.length + 1 : Nat) : Int) := by omega
  refine St0 ?_
  refine G.drawS 22 [0, 1, 2, 3, 4, 5, 6, 7, 8, 9, 10, 13, 11, 12, 14, 15, 16, 17, 18, 19, 20, 21] [11] follows (by kernel_rfl) (by kernel_rfl) (by kernel_rfl) (by kernel_rfl) (by kernel_rfl) (by kernel_rfl) ?_
  refine SSt1 (hs) ?_
  (refine GS.indexSlice (0) 1 (oo) hT rfl rfl rfl rfl rfl rfl rfl rfl ?_ ?_ ?_ ?_; (focus omega); (focus omega); (focus omega))
  refine SSt2 (hAo) (hB6.all) ?_
  refine GS.op rfl fun w8 he8 => ?_
  refine GL.buildSlice [uo] hT rfl rfl rfl rfl rfl rfl rfl (fillL_one (RdF.some huo) rfl (madeLen _ _)) fun b9 w9 hb9 hB9 he9 => ?_
  refine GS.done he9 ?_
  have e79 := he8.trans he9
  refine GS.call (v := dv (rootV x)) rfl rfl rfl (fun w' he' => (shaOf_call _ _ any w' (bs1 (hB9.ext he') (RdB.ext huo (e79.trans he'))) (by omega) (hK.ext (e7.trans (e79.trans he')))).mono fun r w'' ⟨h1, h2⟩ => ⟨by rw [h1, hrt], h2⟩) ?_
  have hrr : rootV x = rootV x := rfl
  refine SSt2 ((hB1.ext e79).all) ((hB6.ext e79).all) ?_
  refine GS.call (v := .bool true) rfl rfl rfl (fun w' he' => (vfits_call x (rootV x) u _ _ w' (hx.ext (e7.trans (e79.trans he'))) (by omega) (by omega) (hK.ext (e7.trans (e79.trans he')))).mono fun r w'' ⟨h1, h2⟩ => ⟨by rw [h1, fitsB, hok]; simp, h2⟩) ?_
  refine SSt0 ?_
  refine GS.tail fun w10 he10 => ?_
  have e710 := e79.trans he10
  have hll : (fromP x).length = x.sides.length + 1 := by rw [← hin]; exact hl
  rw [hin] at hR
  clear hh hAo hB6 hrt hbl he8 he9 hB9 huo hO
  refine St0 ?_
  refine G.sub (f' := [(8, iv ((0 : Nat) : Int)), (4, .slice (some ⟨bo, oo, none⟩) (x.sides.length + 1) cv), (1, ptr b1 0), (3, .bool true)]) (by (repeat (first | exact Fr.sub_nil _ | refine Fr.sub_cons rfl ?_))) ?_
  refine G.rounds (α := Nat) (fun j f w' => j ≤ x.sides.length ∧ Ext w7 w' ∧ f = [(8, iv j), (4, .slice (some ⟨bo, oo, none⟩) (x.sides.length + 1) cv), (1, ptr b1 0), (3, .bool true)]) (fun j => x.sides.length - j) ?round 0 ⟨by omega, e710, rfl⟩
  clear e710 he10 e79
  rintro j f w11 ⟨hj, he11, rfl⟩ again
  by_cases hlt : (j : Int) < x.sides.length
  · obtain ⟨sd, hsd⟩ : ∃ sd, x.sides[j]? = some sd := ⟨_, List.getElem?_eq_getElem (by omega)⟩
    obtain ⟨t, h1, h2⟩ := from_at x x.sides 0 j sd hsd
    obtain ⟨A, B, hform, hAB⟩ := up_form x (0 + j) (shaD t) sd
    rw [hform] at h1
    obtain ⟨q1, p1, c1, u1, hv1, hu1, hA1⟩ := hR.elem h1
    obtain ⟨q2, p2, c2, u2, hv2, hu2, hA2⟩ := hR.elem h2
    obtain ⟨q3, p3, c3, hv3, hA3⟩ := RdD.elem hx.sides hsd
    cases hv1
    cases hv2
    cases hv3
    have htl := hsm t (List.mem_of_getElem? h2)
    have hf2 := flat2 A B
    have hpp : ∀ p ∈ [A.1, B.1], p.length ≤ 4096 := fun p hp => by
      simp only [List.mem_cons, List.not_mem_nil, or_false] at hp
      rcases hp with rfl | rfl
      · rw [A.2]; omega
      · rw [B.2]; omega
    refine St1 (hs.ext he11) ?_
    (refine GL.indexSlice (j) 1 ((oo + j)) hT rfl rfl rfl rfl rfl rfl rfl rfl ?_ ?_ ?_ ?_; (focus omega); (focus omega); (focus omega))
    refine St1 (hA1.ext he11) ?_
    refine GL.call rfl rfl rfl (parts_call 2 [A.1, B.1] u1 _ w11 (RdB.ext hu1 he11) hpp (by omega) (by simp)) ?_
    rintro r w12 ⟨vp, rfl, hvp, he12⟩
    rw [show (bv 2 : Value) = .int .u8 2 from rfl]
    have e12 := he11.trans he12
    refine St0 ?_
    (refine GL.indexSlice ((j + 1)) 1 ((oo + (j + 1))) hT rfl rfl rfl rfl rfl rfl rfl rfl ?_ ?_ ?_ ?_; (focus omega); (focus omega); (focus omega))
    refine St1 (hA2.ext e12) ?_
    refine GL.buildSlice [u2] hT rfl rfl rfl rfl rfl rfl rfl (fillL_one (RdF.some hu2) rfl (madeLen _ _)) fun b13 w13 hb13 hB13 he13 => ?_
    refine GL.call rfl rfl rfl (shaOf_call _ t any w13 (bs1 hB13 (RdB.ext hu2 (e12.trans he13))) (by omega) (hK.ext (e7.trans (e12.trans he13)))) ?_
    rintro r w14 ⟨rfl, he14⟩
    refine GL.alloc hT rfl rfl rfl fun b12 w15 hb12 hB12 he15 => ?_
    have l12 := hB12.lt
    have e1215 : Ext w12 w15 := he13.trans (he14.trans he15)
    have s14 := (he13.trans he14).size
    refine GL.storeVar hT rfl rfl rfl rfl rfl (Dig.len _) (Dig.one _) hB12 (by rw [Dig.len]; rfl) fun w16 hc16 hB12 => ?_
    have e1216 : Ext w12 w16 := hc16.below (by omega) e1215
    have e16 := e12.trans e1216
    have hvp' := hvp.ext e1216
    obtain ⟨g1, o1, k1, y1, hw1, hy1, hE1⟩ := hvp'.elem (i := 0) rfl
    obtain ⟨g2, o2, k2, y2, hw2, hy2, hE2⟩ := hvp'.elem (i := 1) rfl
    subst hw1
    cases hw2
    rw [show ([A.1, B.1] : List Bytes).length = 2 from rfl]
    refine St0 ?_
    refine G.quiet follows (by kernel_rfl) ?_
    refine QSt0 ?_
    (refine GQ.indexSlice (0) 1 (o1) hT rfl rfl rfl rfl rfl rfl rfl rfl ?_ ?_ ?_ ?_; (focus omega); (focus omega); (focus omega))
    refine QSt1 (hE1) ?_
    refine GQ.call rfl rfl rfl (fun w' he' => (same_call y1 _ A.1 (shaD t).1 _ _ w' (RdB.ext hy1 he') (rdKey (hB12.ext he').all)).mono fun r w'' ⟨h1, h2⟩ => ⟨h1, by rw [h2]; exact Ext.refl _⟩) ?_
    refine QSt0 ?_
    (refine GQ.indexSlice (1) 1 ((o1 + 1)) hT rfl rfl rfl rfl rfl rfl rfl rfl ?_ ?_ ?_ ?_; (focus omega); (focus omega); (focus omega))
    refine QSt1 (hE2) ?_
    refine GQ.call rfl rfl rfl (fun w' he' => (same_call y2 _ B.1 (shaD t).1 _ _ w' (RdB.ext hy2 he') (rdKey (hB12.ext he').all)).mono fun r w'' ⟨h1, h2⟩ => ⟨h1, by rw [h2]; exact Ext.refl _⟩) ?_
    refine QSt0 ?_
    refine GQ.nil fun w17 he17 => ?_
    refine St0 ?_
    have e17 := e16.trans he17
    refine G.quiet follows (by kernel_rfl) ?_
    refine QSt0 ?_
    (refine GQ.indexSlice (0) 1 (o1) hT rfl rfl rfl rfl rfl rfl rfl rfl ?_ ?_ ?_ ?_; (focus omega); (focus omega); (focus omega))
    refine QSt2 (hE1.ext he17) (hs.ext e17) ?_
    (refine GQ.indexSlice (j) 32 ((p3 + j * 32)) hT rfl rfl rfl rfl rfl rfl rfl rfl ?_ ?_ ?_ ?_; (focus omega); (focus omega); (focus omega))
    refine QSt0 ?_
    refine GQ.call rfl rfl rfl (fun w' he' => (same_call y1 _ A.1 sd.1 _ _ w' (RdB.ext hy1 (he17.trans he')) (rdKey (hA3.ext (e7.trans (e17.trans he'))))).mono fun r w'' ⟨h1, h2⟩ => ⟨h1, by rw [h2]; exact Ext.refl _⟩) ?_
    refine QSt0 ?_
    (refine GQ.indexSlice (1) 1 ((o1 + 1)) hT rfl rfl rfl rfl rfl rfl rfl rfl ?_ ?_ ?_ ?_; (focus omega); (focus omega); (focus omega))
    refine QSt2 (hE2.ext he17) (hs.ext e17) ?_
    (refine GQ.indexSlice (j) 32 ((p3 + j * 32)) hT rfl rfl rfl rfl rfl rfl rfl rfl ?_ ?_ ?_ ?_; (focus omega); (focus omega); (focus omega))
    refine QSt0 ?_
    refine GQ.call rfl rfl rfl (fun w' he' => (same_call y2 _ B.1 sd.1 _ _ w' (RdB.ext hy2 (he17.trans he')) (rdKey (hA3.ext (e7.trans (e17.trans he'))))).mono fun r w'' ⟨h1, h2⟩ => ⟨h1, by rw [h2]; exact Ext.refl _⟩) ?_
    refine QSt0 ?_
    refine GQ.nil fun w18 he18 => ?_
    have e18 := e17.trans he18
    rcases hAB with ⟨rfl, rfl⟩ | ⟨rfl, rfl⟩
    · rw [show decide ((shaD t).1 = (shaD t).1) = true by simp, show decide (B.1 = B.1) = true by simp]
      cases hb : decide (B.1 = (shaD t).1)
      · --
        refine St0 ?_
        exact G.sub (by (repeat (first | exact Fr.sub_nil _ | refine Fr.sub_cons rfl ?_))) (again (j + 1) _ _ (by omega) ⟨by omega, e18, rfl⟩)
      · cases hx : decide ((shaD t).1 = B.1)
        · --
          refine St0 ?_
          exact G.sub (by (repeat (first | exact Fr.sub_nil _ | refine Fr.sub_cons rfl ?_))) (again (j + 1) _ _ (by omega) ⟨by omega, e18, rfl⟩)
        · --
          refine St0 ?_
          exact G.sub (by (repeat (first | exact Fr.sub_nil _ | refine Fr.sub_cons rfl ?_))) (again (j + 1) _ _ (by omega) ⟨by omega, e18, rfl⟩)
    · rw [show decide ((shaD t).1 = (shaD t).1) = true by simp, show decide (A.1 = A.1) = true by simp]
      cases ha : decide (A.1 = (shaD t).1)
      · --
        refine St0 ?_
        exact G.sub (by (repeat (first | exact Fr.sub_nil _ | refine Fr.sub_cons rfl ?_))) (again (j + 1) _ _ (by omega) ⟨by omega, e18, rfl⟩)
      · cases hy : decide ((shaD t).1 = A.1)
        · --
          refine St0 ?_
          exact G.sub (by (repeat (first | exact Fr.sub_nil _ | refine Fr.sub_cons rfl ?_))) (again (j + 1) _ _ (by omega) ⟨by omega, e18, rfl⟩)
        · --
          refine St0 ?_
          exact G.sub (by (repeat (first | exact Fr.sub_nil _ | refine Fr.sub_cons rfl ?_))) (again (j + 1) _ _ (by omega) ⟨by omega, e18, rfl⟩)
  · refine St1 (hs.ext he11) ?_
    exact G.ret1 rfl rfl rfl rfl ⟨rfl, e7.trans he11⟩
end Go.Proofs.YtefneilaongpbaaDoor
