/-
  The law ProofNames: the chapter's examples.
-/
import Derived.Test.YtefneilaongpbaaDoorTreeV
set_option linter.unusedVariables false
set_option linter.unusedSimpArgs false
set_option maxRecDepth 100000
set_option maxHeartbeats 8000000
namespace Go.Proofs.YtefneilaongpbaaDoor
open Go Go.Bd Go.RowKit
attribute [local irreducible] G GL GQ GS shaD
def k4 : Dig := key1 4
def k201 : Dig := key1 201
def P4 : Prf := ⟨k4, 2, k3, [97], [leafD k200 [98]]⟩
def P201 : Prf := ⟨k201, 2, k200, [98], [leafD k3 [97]]⟩
def P0 : Prf := ⟨k3, 0, Dig.zero, [], []⟩
theorem b4 : k4.bit 0 = 0 := by rfl
theorem b201 : k201.bit 0 = 1 := by rfl
theorem k3_ne4 : k3 ≠ k4 := key1_ne (by decide)
theorem k200_ne201 : k200 ≠ k201 := key1_ne (by decide)
theorem wayP4 : wayAt 0 [pA, pB] k4 = (some pA, [leafD k200 [98]]) := by
  rw [wayAt_two (by omega) (Nat.le_refl _), b4, f0P, show (1 - 0 : Nat) = 1 from rfl, f1P, wayAt_one, rootAt_one]; rfl
theorem wayP201 : wayAt 0 [pA, pB] k201 = (some pB, [leafD k3 [97]]) := by
  rw [wayAt_two (by omega) (Nat.le_refl _), b201, f1P, show (1 - 1 : Nat) = 0 from rfl, f0P, wayAt_one, rootAt_one]; rfl
theorem madeK4 {ns : List Node} {r : Int} (h : TreeOk ns r) (ha : allT ns r = [pA, pB]) : proofN ns r k4 = P4 := by
  unfold proofN endN sidesN
  rw [treeB_t h, if_pos rfl, if_pos rfl, if_pos rfl, ha, wayP4]
  simp [endNode, leafOf, proofX, pA, P4, k3_ne4]
theorem madeK201 {ns : List Node} {r : Int} (h : TreeOk ns r) (ha : allT ns r = [pA, pB]) : proofN ns r k201 = P201 := by
  unfold proofN endN sidesN
  rw [treeB_t h, if_pos rfl, if_pos rfl, if_pos rfl, ha, wayP201]
  simp [endNode, leafOf, proofX, pB, P201, k200_ne201]
theorem madeK0 : proofN [] 0 k3 = P0 := by
  unfold proofN endN sidesN
  rw [treeB_t empty_ok, if_pos rfl, if_pos rfl, if_pos rfl, empty_all, wayAt_nil]
  simp [endNode, proofX, P0]
theorem P4_told : toldB P4 = false := by
  have : decide (P4.en = 1) = false := by rfl
  unfold toldB; rw [this, Bool.and_false]
theorem P0_told : toldB P0 = false := by
  have : decide (P0.en = 1) = false := by rfl
  unfold toldB; rw [this, Bool.and_false]
theorem prf_fill4 (k o : Dig) (e : UInt8) (bs : Bytes) (ds : List Dig) (p p' : Option Addr) (n c n' c' : Nat) : fillL ([(0, 32), (32, 1), (33, 32), (65, 1), (66, 1)][·]?) ti35.zero [(0, dv k), (1, bv e), (2, dv o), (3, .slice p n c), (4, .slice p' n' c')] = some (pcells ⟨k, e, o, bs, ds⟩ (.slice p n c) (.slice p' n' c')) := by
  obtain ⟨l, hl⟩ := k
  obtain ⟨m, hm⟩ := o
  match l, hl, m, hm with
  | [_, _, _, _, _, _, _, _, _, _, _, _, _, _, _, _, _, _, _, _, _, _, _, _, _, _, _, _, _, _, _, _], _, [_, _, _, _, _, _, _, _, _, _, _, _, _, _, _, _, _, _, _, _, _, _, _, _, _, _, _, _, _, _, _, _], _ => rfl
theorem prf_fillK (k : Dig) : fillL ([(0, 32), (32, 1), (33, 32), (65, 1), (66, 1)][·]?) ti35.zero [(0, dv k)] = some (pcells ⟨k, 0, Dig.zero, [], []⟩ nil nil) := by
  obtain ⟨l, hl⟩ := k
  match l, hl with
  | [_, _, _, _, _, _, _, _, _, _, _, _, _, _, _, _, _, _, _, _, _, _, _, _, _, _, _, _, _, _, _, _], _ => rfl
def PE : Prf := ⟨Dig.zero, 1, Dig.zero, [], []⟩
theorem PE_may : mayB PE = false := by rfl
theorem names7_call (w : World) (hK : Kt w) : Does Tryd.prog 11 #[] w fun r w' => r = .bool true ∧ Ext w w' := by
  refine call_walk (vs := []) Tryd.func11 (by kernel_rfl) rfl Tryd.ntmps11 rfl ?_
  refine St0 ?_
  refine GL.call rfl rfl rfl (vs := []) (two7_call w) ?_
  rintro _ w1 ⟨v, to, ns, rfl, ho, hok, hall, he1⟩
  refine GL.buildArr k4.cells hT rfl rfl rfl rfl rfl rfl (by rw [k4, key1_cells]; rfl) ?_
  refine GL.call rfl rfl rfl (make7_call v to ns k4 _ w1 ho.rd (hK.ext he1)) ?_
  rintro _ w2 ⟨u1, s1, rfl, hu1, hs1, he2⟩
  rw [madeK4 hok hall] at hu1 hs1 ⊢
  rw [treeB_t hok, show badE true = 0 from rfl]
  have hE2 := he1.trans he2
  have z2 := hE2.size
  refine St0 ?_
  refine GL.alloc hT rfl rfl rfl fun b1 w3 hb1 hB1 he3 => ?_
  refine GL.storeVar hT rfl rfl rfl rfl rfl (pcells_len _ _ _) (pcells_one _ (RdF.one (Own.fresh hu1)) (RdF.one (Own.fresh hs1))) hB1 (by rw [pcells_len]; decide) fun w4 hc4 hB1 => ?_
  have hE24 : Ext w2 w4 := hc4.below (by omega) he3
  have hE4 := hE2.trans hE24
  have hm1 : PrfM any w4 P4 u1 s1 := ⟨RdF.imp (Own.ext hu1 hE24).fresh fun _ _ _ => trivial, RdF.imp (Own.ext hs1 hE24).fresh fun _ _ _ => trivial⟩
  clear hu1 hs1 hc4 ho hall hok hb1
  clear z2
  refine St0 ?_
  refine GL.call rfl rfl rfl (vs := []) (two7_call w4) ?_
  rintro _ w5 ⟨v', to', ns', rfl, ho, hok, hall, he5⟩
  refine GL.buildArr k201.cells hT rfl rfl rfl rfl rfl rfl (by rw [k201, key1_cells]; rfl) ?_
  have hE5 := hE4.trans he5
  refine GL.call rfl rfl rfl (make7_call v' to' ns' k201 _ w5 ho.rd (hK.ext hE5)) ?_
  rintro _ w6 ⟨u2, s2, rfl, hu2, hs2, he6⟩
  rw [madeK201 hok hall] at hu2 hs2 ⊢
  rw [treeB_t hok, show badE true = 0 from rfl]
  have he56 := he5.trans he6
  have hE6 := hE4.trans he56
  replace hB1 := hB1.ext he56
  replace hm1 := hm1.ext he56
  refine St0 ?_
  refine GL.alloc hT rfl rfl rfl fun b2 w7 hb2 hB2 he7 => ?_
  refine GL.storeVar hT rfl rfl rfl rfl rfl (pcells_len _ _ _) (pcells_one _ (RdF.one (Own.fresh hu2)) (RdF.one (Own.fresh hs2))) hB2 (by rw [pcells_len]; decide) fun w8 hc8 hB2 => ?_
  have hE68 : Ext w6 w8 := hc8.below (by omega) he7
  have hE8 := hE6.trans hE68
  replace hB1 := hB1.ext hE68
  replace hm1 := hm1.ext hE68
  have hm2 : PrfM any w8 P201 u2 s2 := ⟨RdF.imp (Own.ext hu2 hE68).fresh fun _ _ _ => trivial, RdF.imp (Own.ext hs2 hE68).fresh fun _ _ _ => trivial⟩
  clear hu2 hs2 hc8 ho hall hok hb2
  refine St0 ?_
  refine GL.build [nil, iv 0] hT rfl rfl rfl rfl rfl rfl rfl ?_
  refine GL.buildArr k3.cells hT rfl rfl rfl rfl rfl rfl (by rw [k3, key1_cells]; rfl) ?_
  refine GL.call rfl rfl rfl (make7_call nil 0 [] k3 _ w8 (OwnN.bare w8.heap.size w8 none).rd (hK.ext hE8)) ?_
  rintro _ w9 ⟨u3, s3, rfl, hu3, hs3, he9⟩
  rw [madeK0] at hu3 hs3 ⊢
  rw [treeB_t empty_ok, show badE true = 0 from rfl]
  replace hB1 := hB1.ext he9
  replace hm1 := hm1.ext he9
  replace hB2 := hB2.ext he9
  replace hm2 := hm2.ext he9
  have hE9 := hE8.trans he9
  refine St0 ?_
  refine GL.alloc hT rfl rfl rfl fun b5 wa hb5 hB5 hea => ?_
  refine GL.storeVar hT rfl rfl rfl rfl rfl (pcells_len _ _ _) (pcells_one _ (RdF.one (Own.fresh hu3)) (RdF.one (Own.fresh hs3))) hB5 (by rw [pcells_len]; decide) fun wb hcb hB5 => ?_
  have hx9b : Ext w9 wb := hcb.below (by omega) hea
  have hEb := hE9.trans hx9b
  replace hB1 := hB1.ext hx9b
  replace hm1 := hm1.ext hx9b
  replace hB2 := hB2.ext hx9b
  replace hm2 := hm2.ext hx9b
  have hm5 : PrfM any wb P0 u3 s3 := ⟨RdF.imp (Own.ext hu3 hx9b).fresh fun _ _ _ => trivial, RdF.imp (Own.ext hs3 hx9b).fresh fun _ _ _ => trivial⟩
  clear hu3 hs3 hcb hb5
  refine St1 (hB1.all) ?_
  refine GL.call rfl rfl rfl (told_call P4 u1 s1 any wb hm1 (by decide)) ?_
  rintro _ wc ⟨vt, rfl, -, hec⟩
  rw [P4_told]
  replace hB1 := hB1.ext hec
  replace hm1 := hm1.ext hec
  replace hB2 := hB2.ext hec
  replace hm2 := hm2.ext hec
  replace hB5 := hB5.ext hec
  replace hm5 := hm5.ext hec
  have hEc := hEb.trans hec
  refine St1 (hB5.all) ?_
  refine GL.call rfl rfl rfl (told_call P0 u3 s3 any wc hm5 (by decide)) ?_
  rintro _ wd ⟨vt', rfl, -, hed⟩
  rw [P0_told]
  replace hB1 := hB1.ext hed
  replace hm1 := hm1.ext hed
  replace hB2 := hB2.ext hed
  replace hm2 := hm2.ext hed
  replace hB5 := hB5.ext hed
  replace hm5 := hm5.ext hed
  have hEd := hEc.trans hed
  have zd := hEd.size
  refine St0 ?_
  refine G.drawK 8 wd.heap.size [] [(0, .bool false),(1, ptr b1 0),(2, iv 0),(3, ptr b2 0),(4, iv 0),(5, ptr b5 0),(6, iv 0),(8, .bool false),(10, .bool false)] (fun i v w' => match i with
    | 0 => prv P4 u1 s1 = v
    | 1 => dv k4 = v
    | 2 => dv k3 = v
    | 3 => ∃ b, Value.slice (some ⟨b, 0, none⟩) 1 1 = v ∧ wd.heap.size ≤ b ∧ ∃ fr, w'.heap[b]? = some (Obj.cells [bv 97].toArray 5 fr)
    | 4 => RdB any w' v [97]
    | 5 => RdD any w' v [leafD k200 [98]]
    | 6 => ∃ u s, prv P4 u s = v ∧ PrfM any w' P4 u s
    | _ => Value.bool true = v) follows (by kernel_rfl) (by kernel_rfl) (by kernel_rfl) (by kernel_rfl) (by kernel_rfl) (by (repeat (first | exact Fr.sub_nil _ | refine Fr.sub_cons rfl ?_))) (Nat.le_refl _) ?mono ?old ?obs ?fin
  case mono =>
    intro i v w1 w2 he h
    rcases i with _ | _ | _ | _ | _ | _ | _ | i
    all_goals first | exact h | skip
    · obtain ⟨b, h1, h2, fr, h3⟩ := h
      obtain ⟨fr', h4, _⟩ := he.cells _ _ _ _ h3
      exact ⟨b, h1, h2, fr', h4⟩
    · exact he.rdF h
    · exact he.rdF h
    · obtain ⟨u, s, h1, h2⟩ := h; exact ⟨u, s, h1, he.rdF h2.val, he.rdF h2.sides⟩
  case old => intro i v w' hi h; simp at hi
  case obs =>
    intro w0 he0
    have hs0 := he0.size
    have hE0 := hEd.trans he0
    have hKs : ∀ w', Soft wd.heap.size w0 w' → Ext w w' := fun w' h' => Below.trans hE0 (h'.below.mono (by omega))
    refine ⟨fun w' he' => ?_, fun w' he' => ?_, fun w' he' => ?_, fun w' he' => ?_, fun w' he' => ?_, fun w' he' => ?_, fun w' he' => ?_, fun w' he' => ?_, trivial⟩
    · refine St1 (he'.at (hB1.ext he0).all) ?_
      exact GL.factK rfl (Soft.refl _ _) ⟨rfl, fun h => absurd h (by decide)⟩
    · refine GL.buildArr k4.cells hT rfl rfl rfl rfl rfl rfl (by rw [k4, key1_cells]; rfl) ?_
      exact GL.factK rfl (Soft.refl _ _) ⟨rfl, fun h => absurd h (by decide)⟩
    · refine GL.buildArr k3.cells hT rfl rfl rfl rfl rfl rfl (by rw [k3, key1_cells]; rfl) ?_
      exact GL.factK rfl (Soft.refl _ _) ⟨rfl, fun h => absurd h (by decide)⟩
    · have := he'.size
      refine GL.buildSlice [bv 97] hT rfl rfl rfl rfl rfl rfl rfl (fillL_one rfl rfl (madeLen _ _)) fun b w'' hb hB he'' => ?_
      exact GL.factK rfl (Soft.ofExt (by omega) he'') ⟨⟨b, rfl, by omega, _, hB⟩, fun h => absurd h (by decide)⟩
    · rintro v ⟨b, rfl, hb, fr, hB⟩
      refine GL.markK (cs := [bv 97]) hT rfl rfl rfl rfl rfl rfl rfl hB fun w'' hc hfr => ?_
      obtain ⟨fr', hfr'⟩ := hfr
      exact GL.factK rfl (Soft.mark hb hB hc ⟨fr', hfr'⟩) ⟨⟨_, 1, rfl, Nat.le_refl _, .inr ⟨b, 0, rfl, _, _, fr', hfr', trivial, fun j v hj => by rw [Nat.zero_add, List.getElem?_toArray]; exact hj⟩⟩, fun h => absurd h (by decide)⟩
    · have := he'.size
      refine GL.call rfl rfl rfl (side7_call 200 ⟨#[98]⟩ w' (by decide) (hK.ext (hKs w' he'))) ?_
      rintro r w'' ⟨hr, he''⟩
      exact GL.factK rfl (Soft.ofExt (by omega) he'') ⟨RdF.imp hr.fresh fun _ _ _ => trivial, fun h => absurd h (by decide)⟩
    · rintro v rfl v rfl u hu s hs
      obtain ⟨pu, cu, rfl, hcu⟩ := RdF.isSlice hu
      obtain ⟨ps, cs, rfl, hcs⟩ := RdF.isSlice hs
      refine GL.build (pcells P4 (.slice pu 1 cu) (.slice ps 1 cs)) hT rfl rfl rfl rfl rfl rfl (prf_fill4 k4 k3 2 _ _ _ _ _ _ _ _) ?_
      exact GL.factK rfl (Soft.refl _ _) ⟨⟨_, _, rfl, hu, hs⟩, fun h => absurd h (by decide)⟩
    · rintro v rfl v ⟨u, s, rfl, hm⟩
      have := he'.size
      refine GL.call rfl rfl rfl (ref7Same_call P4 P4 u1 s1 u s any any w' ⟨he'.rdF (hm1.ext he0).val, he'.rdF (hm1.ext he0).sides⟩ hm (by decide) (by decide)) ?_
      rintro r w'' ⟨rfl, he''⟩
      rw [decide_eq_true rfl]
      exact GL.factK rfl (Soft.ofExt (by omega) he'') ⟨rfl, fun h => absurd h (by decide)⟩
  case fin =>
    rintro we hee v0 - v1 - v2 - v3 - v4 - v5 - v6 - v7 rfl hun
    have hEe : Ext w we := Below.trans hEd (hee.below.mono (by omega))
    replace hB2 := hee.blk hB2 (by decide)
    replace hB5 := hee.blk hB5 (by decide)
    replace hm2 : PrfM any we P201 u2 s2 := ⟨hee.rdF hm2.val, hee.rdF hm2.sides⟩
    replace hm5 : PrfM any we P0 u3 s3 := ⟨hee.rdF hm5.val, hee.rdF hm5.sides⟩
    have ze := hEe.size
    clear hee hB1 hm1 zd
    refine St0 ?_
    refine G.drawK 8 we.heap.size [] [(0, .bool false),(2, iv 0),(3, ptr b2 0),(4, iv 0),(5, ptr b5 0),(6, iv 0),(8, .bool false),(10, .bool false),(11, .bool true)] (fun i v w' => match i with
      | 0 => prv P201 u2 s2 = v
      | 1 => dv k201 = v
      | 2 => dv k200 = v
      | 3 => ∃ b, Value.slice (some ⟨b, 0, none⟩) 1 1 = v ∧ we.heap.size ≤ b ∧ ∃ fr, w'.heap[b]? = some (Obj.cells [bv 98].toArray 5 fr)
      | 4 => RdB any w' v [98]
      | 5 => RdD any w' v [leafD k3 [97]]
      | 6 => ∃ u s, prv P201 u s = v ∧ PrfM any w' P201 u s
      | _ => Value.bool true = v) follows (by kernel_rfl) (by kernel_rfl) (by kernel_rfl) (by kernel_rfl) (by kernel_rfl) (by (repeat (first | exact Fr.sub_nil _ | refine Fr.sub_cons rfl ?_))) (Nat.le_refl _) ?mono ?old ?obs ?fin
    case mono =>
      intro i v w1 w2 he h
      rcases i with _ | _ | _ | _ | _ | _ | _ | i
      all_goals first | exact h | skip
      · obtain ⟨b, h1, h2, fr, h3⟩ := h
        obtain ⟨fr', h4, _⟩ := he.cells _ _ _ _ h3
        exact ⟨b, h1, h2, fr', h4⟩
      · exact he.rdF h
      · exact he.rdF h
      · obtain ⟨u, s, h1, h2⟩ := h; exact ⟨u, s, h1, he.rdF h2.val, he.rdF h2.sides⟩
    case old => intro i v w' hi h; simp at hi
    case obs =>
      intro w0 he0
      have hs0 := he0.size
      have hE0 := hEe.trans he0
      have hKs : ∀ w', Soft we.heap.size w0 w' → Ext w w' := fun w' h' => Below.trans hE0 (h'.below.mono (by omega))
      refine ⟨fun w' he' => ?_, fun w' he' => ?_, fun w' he' => ?_, fun w' he' => ?_, fun w' he' => ?_, fun w' he' => ?_, fun w' he' => ?_, fun w' he' => ?_, trivial⟩
      · refine St1 (he'.at (hB2.ext he0).all) ?_
        exact GL.factK rfl (Soft.refl _ _) ⟨rfl, fun h => absurd h (by decide)⟩
      · refine GL.buildArr k201.cells hT rfl rfl rfl rfl rfl rfl (by rw [k201, key1_cells]; rfl) ?_
        exact GL.factK rfl (Soft.refl _ _) ⟨rfl, fun h => absurd h (by decide)⟩
      · refine GL.buildArr k200.cells hT rfl rfl rfl rfl rfl rfl (by rw [k200, key1_cells]; rfl) ?_
        exact GL.factK rfl (Soft.refl _ _) ⟨rfl, fun h => absurd h (by decide)⟩
      · have := he'.size
        refine GL.buildSlice [bv 98] hT rfl rfl rfl rfl rfl rfl rfl (fillL_one rfl rfl (madeLen _ _)) fun b w'' hb hB he'' => ?_
        exact GL.factK rfl (Soft.ofExt (by omega) he'') ⟨⟨b, rfl, by omega, _, hB⟩, fun h => absurd h (by decide)⟩
      · rintro v ⟨b, rfl, hb, fr, hB⟩
        refine GL.markK (cs := [bv 98]) hT rfl rfl rfl rfl rfl rfl rfl hB fun w'' hc hfr => ?_
        obtain ⟨fr', hfr'⟩ := hfr
        exact GL.factK rfl (Soft.mark hb hB hc ⟨fr', hfr'⟩) ⟨⟨_, 1, rfl, Nat.le_refl _, .inr ⟨b, 0, rfl, _, _, fr', hfr', trivial, fun j v hj => by rw [Nat.zero_add, List.getElem?_toArray]; exact hj⟩⟩, fun h => absurd h (by decide)⟩
      · have := he'.size
        refine GL.call rfl rfl rfl (side7_call 3 ⟨#[97]⟩ w' (by decide) (hK.ext (hKs w' he'))) ?_
        rintro r w'' ⟨hr, he''⟩
        exact GL.factK rfl (Soft.ofExt (by omega) he'') ⟨RdF.imp hr.fresh fun _ _ _ => trivial, fun h => absurd h (by decide)⟩
      · rintro v rfl v rfl u hu s hs
        obtain ⟨pu, cu, rfl, hcu⟩ := RdF.isSlice hu
        obtain ⟨ps, cs, rfl, hcs⟩ := RdF.isSlice hs
        refine GL.build (pcells P201 (.slice pu 1 cu) (.slice ps 1 cs)) hT rfl rfl rfl rfl rfl rfl (prf_fill4 k201 k200 2 _ _ _ _ _ _ _ _) ?_
        exact GL.factK rfl (Soft.refl _ _) ⟨⟨_, _, rfl, hu, hs⟩, fun h => absurd h (by decide)⟩
      · rintro v rfl v ⟨u, s, rfl, hm⟩
        have := he'.size
        refine GL.call rfl rfl rfl (ref7Same_call P201 P201 u2 s2 u s any any w' ⟨he'.rdF (hm2.ext he0).val, he'.rdF (hm2.ext he0).sides⟩ hm (by decide) (by decide)) ?_
        rintro r w'' ⟨rfl, he''⟩
        rw [decide_eq_true rfl]
        exact GL.factK rfl (Soft.ofExt (by omega) he'') ⟨rfl, fun h => absurd h (by decide)⟩
    case fin =>
      rintro wf hef v0 - v1 - v2 - v3 - v4 - v5 - v6 - v7 rfl hun
      have hEf : Ext w wf := Below.trans hEe (hef.below.mono (by omega))
      replace hB5 := hef.blk hB5 (by decide)
      replace hm5 : PrfM any wf P0 u3 s3 := ⟨hef.rdF hm5.val, hef.rdF hm5.sides⟩
      clear hef hB2 hm2 ze
      refine St0 ?_
      refine GL.call rfl rfl rfl (vs := []) (alive7_call wf (hK.ext hEf)) ?_
      rintro _ wg ⟨rfl, heg⟩
      replace hB5 := hB5.ext heg
      replace hm5 := hm5.ext heg
      have hEg := hEf.trans heg
      refine St1 (hB5.all) ?_
      refine GL.buildArr k3.cells hT rfl rfl rfl rfl rfl rfl (by rw [k3, key1_cells]; rfl) ?_
      refine GL.build (pcells P0 nil nil) hT rfl rfl rfl rfl rfl rfl (prf_fillK k3) ?_
      refine GL.call rfl rfl rfl (ref7Same_call P0 P0 u3 s3 nil nil any any wg hm5 ⟨RdF.nil _ _ _ _, RdF.nil _ _ _ _⟩ (by decide) (by decide)) ?_
      rintro _ wh ⟨rfl, heh⟩
      rw [decide_eq_true rfl]
      refine St0 ?_
      refine GL.build (pcells PE nil nil) hT rfl rfl rfl rfl rfl rfl (by show _ = some (Dig.zero.cells ++ (bv 1 :: (Dig.zero.cells ++ [nil, nil]))); rw [Dig.zero_cells]; rfl) ?_
      refine GL.call rfl rfl rfl (check_call PE nil nil any wh ⟨RdF.nil _ _ _ _, RdF.nil _ _ _ _⟩) ?_
      rintro _ wi ⟨rfl, hei⟩
      rw [PE_may, show badE false = 8 from rfl]
      refine St0 ?_
      exact G.ret1 rfl rfl rfl rfl ⟨rfl, hEg.trans (heh.trans hei)⟩
end Go.Proofs.YtefneilaongpbaaDoor
