/-
  The law ClashNames: the plain part.
-/
import Derived.Test.YtefneilaongpbaaDoorTreeU
import Derived.Test.YtefneilaongpbaaDoorTreeW
set_option linter.unusedVariables false
set_option linter.unusedSimpArgs false
set_option maxRecDepth 100000
set_option maxHeartbeats 8000000
namespace Go.Proofs.YtefneilaongpbaaDoor
open Go Go.Bd Go.RowKit
attribute [local irreducible] G GL GQ GS
theorem none_ne_leaf : noneD ≠ leafD Dig.zero [97] := by
  intro h
  have h2 : (decide ((noneD.1.getD 0 0) = ((leafD Dig.zero [97]).1.getD 0 0))) = true := by rw [h]; exact decide_eq_true rfl
  have h3 : (decide ((noneD.1.getD 0 0) = ((leafD Dig.zero [97]).1.getD 0 0))) = false := by kernel_rfl
  rw [h3] at h2
  cases h2
attribute [local irreducible] shaD
def pZ : Pair := ⟨Dig.zero, [97]⟩
def Pk1 : Prf := ⟨key1 1, 0, Dig.zero, [], []⟩
def Pe3 : Prf := ⟨Dig.zero, 3, Dig.zero, [], []⟩
theorem own_may : mayB ownPrf = true := by rfl
theorem pk1_may : mayB Pk1 = true := by rfl
theorem pe3_may : mayB Pe3 = false := by rfl
theorem own_like : unlikeB ownPrf ownPrf = false := by simp [unlikeB]
theorem seek_own : seekR ownPrf ownPrf = ([], [], 2) := seekR_like (by rw [own_may]; rfl) (by rw [own_like, Bool.and_false])
theorem seek_k1 : seekR ownPrf Pk1 = ([], [], 2) := seekR_like (by rw [own_may, pk1_may]; rfl) (by
  have : decide (ownPrf.key = Pk1.key) = false := by rfl
  rw [this, Bool.false_and])
theorem seek_e3 : seekR ownPrf Pe3 = ([], [], 8) := seekR_bad (by rw [pe3_may, Bool.and_false])
theorem put_z : withL (without [] Dig.zero) Dig.zero [97] = [pZ] := rfl
theorem madeZ {ns : List Node} {r : Int} (h : TreeOk ns r) (ha : allT ns r = [pZ]) : proofN ns r Dig.zero = ownPrf := by
  unfold proofN endN sidesN
  rw [treeB_t h, if_pos rfl, if_pos rfl, if_pos rfl, ha, wayAt_one]
  simp [endNode, leafOf, proofX, pZ, ownPrf]
theorem of_own {ns : List Node} {r : Int} (h : TreeOk ns r) (ha : allT ns r = [pZ]) : ofR ns r ownPrf = ([], [], 6) := by
  unfold ofR
  rw [show ownPrf.key = Dig.zero from rfl, madeZ h ha, own_like, treeB_t h, own_may]
  simp
theorem of_no {ns : List Node} {r : Int} (h : TreeOk ns r) (ha : allT ns r = [pZ]) : ofR ns r noPrf = ([], [], 6) := by
  have hf : fitsB noPrf (rootAt 0 (allT ns r)) = false := by
    unfold fitsB
    rw [ha, rootAt_one, noPrf_root]
    have : decide (noneD = leafD pZ.key pZ.val) = false := decide_eq_false none_ne_leaf
    rw [this, Bool.and_false]
  unfold ofR
  rw [hf, treeB_t h, noPrf_may]
  simp
theorem names9_call (w : World) (hK : Kt w) : Does Tryd.prog 21 #[] w fun r w' => r = .bool true ∧ Ext w w' := by
  refine call_walk (vs := []) Tryd.func21 (by kernel_rfl) rfl Tryd.ntmps21 rfl ?_
  refine St0 ?_
  refine GL.call rfl rfl rfl (vs := []) (own_call w) ?_
  rintro _ w1 ⟨u1, rfl, hu1, he1⟩
  refine GL.call rfl rfl rfl (vs := []) (own_call w1) ?_
  rintro _ w2 ⟨u2, rfl, hu2, he2⟩
  have hE2 := he1.trans he2
  refine GL.call rfl rfl rfl (seek_call ownPrf ownPrf u1 nil u2 nil any any w2 ⟨RdB.ext hu1 he2, RdF.nil _ _ _ _⟩ ⟨hu2, RdF.nil _ _ _ _⟩ (by decide) (by decide) (by decide) (by decide) (hK.ext hE2)) ?_
  rintro _ w3 ⟨vx1, vy1, rfl, -, -, he3⟩
  rw [show (((seekR ownPrf ownPrf).2.2 : Nat) : Int) = 2 by rw [seek_own]; rfl]
  have hE3 := hE2.trans he3
  clear hu1 hu2 he1 he2
  refine St0 ?_
  refine GL.call rfl rfl rfl (vs := []) (own_call w3) ?_
  rintro _ w4 ⟨u3, rfl, hu3, he4⟩
  have hE4 := hE3.trans he4
  refine GL.buildArr (key1 1).cells hT rfl rfl rfl rfl rfl rfl (by rw [key1_cells]; rfl) ?_
  refine GL.build (pcells Pk1 nil nil) hT rfl rfl rfl rfl rfl rfl (prf_fillK (key1 1)) ?_
  refine GL.call rfl rfl rfl (seek_call ownPrf Pk1 u3 nil nil nil any any w4 ⟨hu3, RdF.nil _ _ _ _⟩ ⟨RdF.nil _ _ _ _, RdF.nil _ _ _ _⟩ (by decide) (by decide) (by decide) (by decide) (hK.ext hE4)) ?_
  rintro _ w5 ⟨vx2, vy2, rfl, -, -, he5⟩
  rw [show (((seekR ownPrf Pk1).2.2 : Nat) : Int) = 2 by rw [seek_k1]; rfl]
  have hE5 := hE4.trans he5
  clear hu3
  refine St0 ?_
  refine GL.call rfl rfl rfl (vs := []) (own_call w5) ?_
  rintro _ w6 ⟨u4, rfl, hu4, he6⟩
  have hE6 := hE5.trans he6
  refine GL.build (pcells Pe3 nil nil) hT rfl rfl rfl rfl rfl rfl (by show _ = some (Dig.zero.cells ++ (bv 3 :: (Dig.zero.cells ++ [nil, nil]))); rw [Dig.zero_cells]; rfl) ?_
  refine GL.call rfl rfl rfl (seek_call ownPrf Pe3 u4 nil nil nil any any w6 ⟨hu4, RdF.nil _ _ _ _⟩ ⟨RdF.nil _ _ _ _, RdF.nil _ _ _ _⟩ (by decide) (by decide) (by decide) (by decide) (hK.ext hE6)) ?_
  rintro _ w7 ⟨vx3, vy3, rfl, -, -, he7⟩
  rw [show (((seekR ownPrf Pe3).2.2 : Nat) : Int) = 8 by rw [seek_e3]; rfl]
  have hE7 := hE6.trans he7
  have s7 := hE7.size
  clear hu4
  refine St0 ?_
  refine GL.build [nil, iv 0] hT rfl rfl rfl rfl rfl rfl rfl ?_
  refine GL.buildArr Dig.zero.cells hT rfl rfl rfl rfl rfl rfl (by rw [Dig.zero_cells]; rfl) ?_
  refine GL.buildSlice [bv 97] hT rfl rfl rfl rfl rfl rfl rfl (fillL_one rfl rfl (madeLen _ _)) fun b1 w8 hb1 hB1 he8 => ?_
  refine GL.mark hT rfl rfl rfl rfl rfl rfl rfl hB1 fun w9 hc9 hA1 => ?_
  have he79 : Ext w7 w9 := hc9.below (by omega) he8
  have hE9 := hE7.trans he79
  refine GL.call rfl rfl rfl (put6_call nil _ 0 [] Dig.zero [97] _ any w9 (OwnN.bare w9.heap.size w9 none).rd ⟨_, 1, rfl, Nat.le_refl _, .inr ⟨b1, 0, rfl, hA1⟩⟩ (by simp) (by decide)) ?_
  rintro _ wa ⟨ns, to, u, rfl, ho, hg, -, hea⟩
  have e0 : putE6 [] 0 [97] = 0 := by unfold putE6; rw [treeB_t empty_ok]; rfl
  replace hg := hg e0
  rw [empty_all, put_z] at hg
  rw [e0]
  have hok := hg.ok empty_ok (by simp)
  have hall := allT_eq hg.stand
  have hEa := hE9.trans hea
  have sa := hEa.size
  refine St0 ?_
  refine GL.alloc hT rfl rfl rfl fun b10 wb hb10 hB10 heb => ?_
  replace ho := ho.ext heb
  refine GL.storeVar (vs := [u, iv to]) hT rfl rfl rfl rfl rfl rfl (by intro q hq; simp at hq; rcases hq with rfl | rfl; exact ho.one; rfl) hB10 rfl fun wc hcc hB10' => ?_
  replace ho := ho.chg hB10 rfl hcc
  have hEc : Ext w wc := hcc.below (by omega) (hEa.trans heb)
  clear hcc hB10 hg sa hB1 hc9 hA1
  refine St0 ?_
  refine G.drawN 10 [] [(0, .bool false), (3, iv 2), (6, iv 2), (9, iv 8), (10, ptr b10 0), (11, iv 0)] (fun i v w' => match i with
    | 0 => tv u to = v
    | 1 => ∃ u', v = prv ownPrf u' nil ∧ RdB any w' u' [97]
    | 2 => ∃ vx vy, v = .tuple #[vx, vy, iv 6]
    | 3 => ∃ vx vy, v = .tuple #[vx, vy, iv 6]
    | 6 => iv 6 = v
    | 9 => iv 6 = v
    | _ => True) follows (by kernel_rfl) (by kernel_rfl) (by kernel_rfl) (by kernel_rfl) (by kernel_rfl) (by (repeat (first | exact Fr.sub_nil _ | refine Fr.sub_cons rfl ?_))) ?mono ?old ?obs ?fin
  case mono =>
    intro i v w1 w2 he h
    rcases i with _ | _ | _ | _ | _ | _ | _ | _ | _ | _ | i
    all_goals first | exact h | skip
    obtain ⟨u', h1, h2⟩ := h; exact ⟨u', h1, RdB.ext h2 he⟩
  case old => intro i v w' hi h; simp at hi
  case obs =>
    intro w0 he0
    have hE0 := hEc.trans he0
    refine ⟨fun w' he' => ?_, fun w' he' => ?_, fun w' he' => ?_, fun w' he' => ?_, fun w' he' => ?_, fun w' he' => ?_, fun w' he' => ?_, fun w' he' => ?_, fun w' he' => ?_, fun w' he' => ?_, trivial⟩
    · refine St1 ((hB10'.ext (he0.trans he')).all) ?_
      exact GL.fact rfl (Ext.refl _) ⟨rfl, fun h => absurd h (by decide)⟩
    · refine GL.call rfl rfl rfl (vs := []) (own_call w') ?_
      rintro _ w'' ⟨u', rfl, hu', he''⟩
      exact GL.fact rfl he'' ⟨⟨u', rfl, hu'⟩, fun h => absurd h (by decide)⟩
    · rintro v rfl v ⟨u', rfl, hu'⟩
      refine GL.call rfl rfl rfl (clashOf_call u to ns ownPrf u' nil _ any w' (ho.ext (he0.trans he')).rd ⟨hu', RdF.nil _ _ _ _⟩ (by decide) (by decide) (hK.ext (hE0.trans he'))) ?_
      rintro _ w'' ⟨vx, vy, rfl, -, -, he''⟩
      rw [show (((ofR ns to ownPrf).2.2 : Nat) : Int) = 6 by rw [of_own hok hall]; rfl]
      exact GL.fact rfl he'' ⟨⟨vx, vy, rfl⟩, fun h => absurd h (by decide)⟩
    · rintro v ⟨vx, vy, rfl⟩
      refine St0 ?_
      exact GL.fact rfl (Ext.refl _) ⟨⟨vx, vy, rfl⟩, fun h => absurd h (by decide)⟩
    · rintro v ⟨vx, vy, rfl⟩
      refine St0 ?_
      exact GL.fact rfl (Ext.refl _) ⟨trivial, fun h => absurd h (by decide)⟩
    · rintro v ⟨vx, vy, rfl⟩
      refine St0 ?_
      exact GL.fact rfl (Ext.refl _) ⟨trivial, fun h => absurd h (by decide)⟩
    · rintro v ⟨vx, vy, rfl⟩
      refine St0 ?_
      exact GL.fact rfl (Ext.refl _) ⟨rfl, fun h => absurd h (by decide)⟩
    · rintro v -
      refine St0 ?_
      exact GL.fact rfl (Ext.refl _) ⟨trivial, fun h => absurd h (by decide)⟩
    · rintro v -
      refine St0 ?_
      exact GL.fact rfl (Ext.refl _) ⟨trivial, fun h => absurd h (by decide)⟩
    · rintro v rfl
      refine St0 ?_
      exact GL.fact rfl (Ext.refl _) ⟨rfl, fun h => absurd h (by decide)⟩
  case fin =>
    rintro wd hed v0 - v1 - v2 - v3 - v4 - v5 - v6 - v7 - v8 - v9 rfl hun
    replace hB10' := hB10'.ext hed
    replace ho := ho.ext hed
    have hEd := hEc.trans hed
    refine St1 (hB10'.all) ?_
    refine GL.build (pcells noPrf nil nil) hT rfl rfl rfl rfl rfl rfl (by show _ = some (Dig.zero.cells ++ (bv 0 :: (Dig.zero.cells ++ [nil, nil]))); rw [Dig.zero_cells]; rfl) ?_
    refine GL.call rfl rfl rfl (clashOf_call u to ns noPrf nil nil _ any wd ho.rd (noPrf_m wd) (by decide) (by decide) (hK.ext hEd)) ?_
    rintro _ we ⟨vx, vy, rfl, -, -, hee⟩
    rw [show (((ofR ns to noPrf).2.2 : Nat) : Int) = 6 by rw [of_no hok hall]; rfl]
    have hEe := hEd.trans hee
    refine St0 ?_
    refine GL.call rfl rfl rfl (vs := []) (alive9_call we (hK.ext hEe)) ?_
    rintro _ wf ⟨rfl, hef⟩
    refine St0 ?_
    exact G.ret1 rfl rfl rfl rfl ⟨rfl, hEe.trans hef⟩
end Go.Proofs.YtefneilaongpbaaDoor
