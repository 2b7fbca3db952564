/-
  Chapter 07's example of two pairs, law07.alive, and the law ProofTrue.
-/
import Derived.Test.YtefneilaongpbaaDoorTreeS
set_option linter.unusedVariables false
set_option linter.unusedSimpArgs false
set_option maxRecDepth 100000
set_option maxHeartbeats 8000000
namespace Go.Proofs.YtefneilaongpbaaDoor
open Go Go.Bd Go.RowKit
attribute [local irreducible] G GL GQ GS shaD
def pA : Pair := ⟨k3, [97]⟩
def pB : Pair := ⟨k200, [98]⟩
theorem k3_lt : k3.num < k200.num := key1_num (by decide)
theorem k3_ne : k3 ≠ k200 := key1_ne (by decide)
theorem b3 : k3.bit 0 = 0 := by rfl
theorem b200 : k200.bit 0 = 1 := by rfl
theorem f0P : [pA, pB].filter (bitIs 0 0) = [pA] := by simp [pA, pB, bitIs, b3, b200]
theorem f1P : [pA, pB].filter (bitIs 0 1) = [pB] := by simp [pA, pB, bitIs, b3, b200]
theorem wayP3 : wayAt 0 [pA, pB] k3 = (some pA, [leafD k200 [98]]) := by
  rw [wayAt_two (by omega) (Nat.le_refl _), b3, f0P, show (1 - 0 : Nat) = 1 from rfl, f1P, wayAt_one, rootAt_one]; rfl
theorem wayP200 : wayAt 0 [pA, pB] k200 = (some pB, [leafD k3 [97]]) := by
  rw [wayAt_two (by omega) (Nat.le_refl _), b200, f1P, show (1 - 1 : Nat) = 0 from rfl, f0P, wayAt_one, rootAt_one]; rfl
theorem empty_ok : TreeOk [] 0 := ⟨by simp, by omega, by simp, .nil _, ⟨[], .none 0 dig0⟩⟩
theorem empty_all : allT [] 0 = [] := allT_eq (.none 0 dig0)
theorem put_a : withL (without [] k3) k3 [97] = [pA] := rfl
theorem put_b : withL (without [pA] k200) k200 [98] = [pA, pB] := by
  have h1 : without [pA] k200 = [pA] := by simp [without, pA, k3_ne]
  have h2 : front [pA] k200 = 1 := by simp [front, pA, aheadB, k3_lt]
  rw [h1]; unfold withL; rw [h2]; rfl
theorem made3 {ns : List Node} {r : Int} (h : TreeOk ns r) (ha : allT ns r = [pA, pB]) : proofN ns r k3 = ⟨k3, 1, Dig.zero, [97], [leafD k200 [98]]⟩ := by
  unfold proofN endN sidesN
  rw [treeB_t h, if_pos rfl, if_pos rfl, if_pos rfl, ha, wayP3]
  simp [endNode, leafOf, proofX, pA]
theorem made200 {ns : List Node} {r : Int} (h : TreeOk ns r) (ha : allT ns r = [pA, pB]) : proofN ns r k200 = ⟨k200, 1, Dig.zero, [98], [leafD k3 [97]]⟩ := by
  unfold proofN endN sidesN
  rw [treeB_t h, if_pos rfl, if_pos rfl, if_pos rfl, ha, wayP200]
  simp [endNode, leafOf, proofX, pB]
theorem two7_call (w : World) : Does Tryd.prog 56 #[] w fun q w' => ∃ (v : Value) (to : Int) (ns : List Node), q = tv v to ∧ OwnN w.heap.size w' v ns ∧ TreeOk ns to ∧ allT ns to = [pA, pB] ∧ Ext w w' := by
  refine call_walk (vs := []) Tryd.func56 (by kernel_rfl) rfl Tryd.ntmps56 rfl ?_
  refine St0 ?_
  refine GL.alloc hT rfl rfl rfl fun b0 w1 hb0 hB0 he1 => ?_
  have l0 := hB0.lt
  refine St0 ?_
  refine GL.build [nil, iv 0] hT rfl rfl rfl rfl rfl rfl rfl ?_
  refine GL.buildArr k3.cells hT rfl rfl rfl rfl rfl rfl (by rw [k3, key1_cells]; rfl) ?_
  refine GL.buildSlice [bv 97] hT rfl rfl rfl rfl rfl rfl rfl (fillL_one rfl rfl (madeLen _ _)) fun b1 w2 hb1 hB1 he2 => ?_
  refine GL.mark hT rfl rfl rfl rfl rfl rfl rfl hB1 fun w3 hc3 hA1 => ?_
  have s1 := he1.size
  have s2 := he2.size
  have he13 : Ext w1 w3 := hc3.below (by omega) he2
  replace hB0 := hB0.ext he13
  have hE3 := he1.trans he13
  refine GL.call rfl rfl rfl (put6_call nil _ 0 [] k3 [97] _ any w3 (OwnN.bare w3.heap.size w3 none).rd ⟨_, 1, rfl, Nat.le_refl _, .inr ⟨b1, 0, rfl, hA1⟩⟩ (by simp) (by decide)) ?_
  rintro _ w4 ⟨ns, to, u, rfl, ho, hg, -, he4⟩
  have e0 : putE6 [] 0 [97] = 0 := by unfold putE6; rw [treeB_t empty_ok]; rfl
  replace hg := hg e0
  rw [empty_all, put_a] at hg
  rw [e0]
  have hok := hg.ok empty_ok (by simp)
  have hall := allT_eq hg.stand
  have hE4 := hE3.trans he4
  replace hB0 := hB0.ext he4
  have s4 := hE4.size
  have s3 := hE3.size
  have q13 := he13.size
  have q4 := he4.size
  refine St0 ?_
  refine GL.alloc hT rfl rfl rfl fun b2 w5 hb2 hB2 he5 => ?_
  have l2 := hB2.lt
  have s5 := he5.size
  replace ho := ho.ext he5
  replace hB0 := hB0.ext he5
  refine GL.storeVar (vs := [u, iv to]) hT rfl rfl rfl rfl rfl rfl (by intro q hq; simp at hq; rcases hq with rfl | rfl; exact ho.one; rfl) hB2 rfl fun w6 hc6 hB2' => ?_
  replace ho := ho.chg hB2 rfl hc6
  replace hB0 := hB0.chg hc6 (by omega)
  have hE6 : Ext w w6 := hc6.below (by omega) (hE4.trans he5)
  have s6 := hE6.size
  have c6 := hc6.size
  refine St1 (hB2'.all) ?_
  refine GL.buildArr k200.cells hT rfl rfl rfl rfl rfl rfl (by rw [k200, key1_cells]; rfl) ?_
  refine GL.buildSlice [bv 98] hT rfl rfl rfl rfl rfl rfl rfl (fillL_one rfl rfl (madeLen _ _)) fun b3 w7 hb3 hB3 he7 => ?_
  refine GL.mark hT rfl rfl rfl rfl rfl rfl rfl hB3 fun w8 hc8 hA3 => ?_
  have he68 : Ext w6 w8 := hc8.below (by omega) he7
  have hE8 := hE6.trans he68
  replace hB0 := hB0.ext he68
  replace hB2' := hB2'.ext he68
  have hl257 : ns.length ≤ 257 := by obtain ⟨⟨ms, h1, _, h2⟩, _, _⟩ := hg; rw [h1, List.nil_append]; exact h2
  have hvals : ∀ x ∈ ns, x.val.length ≤ 140737488355328 := fun x hx => by
    obtain ⟨i, hi⟩ := List.mem_iff_getElem?.1 hx
    cases hl : x.leaf
    · obtain ⟨_, _, _, _, _, _, _, _, h8⟩ := hok.one.fork (n := 0) hi hl
      rw [h8]; simp
    · have h9 := (hok.one.leaf hi hl).1
      simp only [valB, Bool.and_eq_true, decide_eq_true_eq] at h9; omega
  refine GL.call rfl rfl rfl (put6_call u _ to ns k200 [98] _ any w8 (ho.ext he68).rd ⟨_, 1, rfl, Nat.le_refl _, .inr ⟨b3, 0, rfl, hA3⟩⟩ hvals (by decide)) ?_
  rintro _ w9 ⟨ns', to', u', rfl, ho', hg', -, he9⟩
  have e9 : putE6 ns to [98] = 0 := by unfold putE6; rw [treeB_t hok, if_neg (by omega : ¬ ns.length > 261844)]; rfl
  replace hg' := hg' e9
  rw [hall, put_b] at hg'
  rw [e9]
  have hok' := hg'.ok hok (by omega)
  have hall' := allT_eq hg'.stand
  have hE9 := hE8.trans he9
  replace hB0 := hB0.ext he9
  replace hB2' := hB2'.ext he9
  have m0 := hB0.lt
  have m2 := hB2'.lt
  have s8 := hE8.size
  replace ho' : OwnN w.heap.size w9 u' ns' := ho'.mono (by omega)
  refine St0 ?_
  refine GL.storeVar (vs := [u', iv to']) hT rfl rfl rfl rfl rfl rfl (by intro q hq; simp at hq; rcases hq with rfl | rfl; exact ho'.one; rfl) hB2' rfl fun wa hca hB2a => ?_
  replace ho' := ho'.chg hB2' rfl hca
  replace hB0 := hB0.chg hca (by omega)
  have hEa : Ext w wa := hca.below (by omega) hE9
  refine St1 (hB2a.all) ?_
  refine GL.storeVar (vs := [u', iv to']) hT rfl rfl rfl rfl rfl rfl (by intro q hq; simp at hq; rcases hq with rfl | rfl; exact ho'.one; rfl) hB0 rfl fun wb hcb hB0b => ?_
  replace ho' := ho'.chg hB0 rfl hcb
  have hEb : Ext w wb := hcb.below (by omega) hEa
  refine St0 ?_
  exact G.retN rfl rfl hT rfl rfl rfl rfl hB0b.all rfl ⟨u', to', ns', rfl, ho', hok', hall', hEb⟩
theorem side7_call (k : UInt8) (s : ByteArray) (w : World) (hl : s.size ≤ 1000) (hK : Kt w) : Does Tryd.prog 58 #[bv k, .string s] w fun q w' => OwnD w.heap.size w' q [leafD (key1 k) s.data.toList] ∧ Ext w w' := by
  refine call_walk Tryd.func58 (by kernel_rfl) rfl Tryd.ntmps58 rfl ?_
  refine St0 ?_
  refine GL.buildArr (key1 k).cells hT rfl rfl rfl rfl rfl rfl (by rw [key1_cells]; rfl) ?_
  refine GL.alloc hT rfl rfl rfl fun b5 w1 hb5 hB5 he1 => ?_
  refine GL.storeVar hT rfl rfl rfl rfl rfl (Dig.len (key1 k)) (Dig.one _) hB5 (by rw [Dig.len]; rfl) fun w2 hc2 hB5 => ?_
  have hE2 : Ext w w2 := hc2.below (by omega) he1
  have s2 := hE2.size
  refine St0 ?_
  refine GL.strBytes hT rfl rfl Tryd.underlying9 rfl rfl rfl rfl rfl fun v w3 hv he3 => ?_
  have s3 := he3.size
  replace hB5 := hB5.ext he3
  refine GL.buildSlice ([.slice (some ⟨b5, 0, none⟩) 32 32] ++ [v]) hT rfl rfl rfl rfl rfl rfl rfl (fillL_two rfl rfl (RdF.some hv) rfl (madeLen _ _)) fun b6 w4 hb6 hB6 he4 => ?_
  have hE4 := hE2.trans (he3.trans he4)
  replace hB5 := hB5.ext he4
  refine GL.call rfl rfl rfl (tagOf_call 1 _ [(key1 k).1, s.data.toList] any w4 (bs2 hB6 (rdKey hB5.all) (RdB.ext hv he4)) (by simp) ?_ (hK.ext hE4)) ?_
  · have hb4 : ∀ q, (be4 q).length = 4 := fun q => rfl
    simp [tagB, hb4, (key1 k).2]
    omega
  rintro _ w5 ⟨rfl, he5⟩
  have hE5 := hE4.trans he5
  have s5 := hE5.size
  refine St0 ?_
  refine GL.buildSlice (leafD (key1 k) s.data.toList).cells hT rfl rfl rfl rfl rfl rfl rfl (fillL_one rfl (Dig.len _) (madeLen _ _)) fun b7 w6 hb7 hB7 he6 => ?_
  refine St0 ?_
  exact G.ret1 rfl rfl rfl rfl ⟨Own.of_blk (n := 1) (cap := 1) (rest := []) (by omega) (Nat.le_refl _) (by simp [dcells_length]) (by simpa [dcells] using hB7) rfl, hE5.trans he6⟩

/-! ### law07.alive -/
def P3 : Prf := ⟨k3, 1, Dig.zero, [97], [leafD k200 [98]]⟩
def P200 : Prf := ⟨k200, 1, Dig.zero, [98], [leafD k3 [97]]⟩
theorem P3_told : toldB P3 = true := by rfl
theorem P3_val : toldV P3 = [97] := by unfold toldV; rw [P3_told]; rfl
theorem prf_fill3 (k : Dig) (e : UInt8) (bs : Bytes) (ds : List Dig) (p p' : Option Addr) (n c n' c' : Nat) : fillL ([(0, 32), (32, 1), (33, 32), (65, 1), (66, 1)][·]?) ti35.zero [(0, dv k), (1, bv e), (3, .slice p n c), (4, .slice p' n' c')] = some (pcells ⟨k, e, Dig.zero, bs, ds⟩ (.slice p n c) (.slice p' n' c')) := by
  obtain ⟨l, hl⟩ := k
  match l, hl with
  | [_, _, _, _, _, _, _, _, _, _, _, _, _, _, _, _, _, _, _, _, _, _, _, _, _, _, _, _, _, _, _, _], _ => rfl
theorem alive7_call (w : World) (hK : Kt w) : Does Tryd.prog 59 #[] w fun r w' => r = .bool true ∧ Ext w w' := by
  refine call_walk (vs := []) Tryd.func59 (by kernel_rfl) rfl Tryd.ntmps59 rfl ?_
  refine St0 ?_
  refine GL.call rfl rfl rfl (vs := []) (two7_call w) ?_
  rintro _ w1 ⟨v, to, ns, rfl, ho, hok, hall, he1⟩
  refine GL.buildArr k3.cells hT rfl rfl rfl rfl rfl rfl (by rw [k3, key1_cells]; rfl) ?_
  refine GL.call rfl rfl rfl (make7_call v to ns k3 _ w1 ho.rd (hK.ext he1)) ?_
  rintro _ w2 ⟨u1, s1, rfl, hu1, hs1, he2⟩
  rw [show proofN ns to k3 = P3 from made3 hok hall] at hu1 hs1 ⊢
  rw [treeB_t hok, show badE true = 0 from rfl]
  have hE2 := he1.trans he2
  have z2 := hE2.size
  refine St0 ?_
  refine GL.alloc hT rfl rfl rfl fun b1 w3 hb1 hB1 he3 => ?_
  refine GL.storeVar hT rfl rfl rfl rfl rfl (pcells_len _ _ _) (pcells_one _ (RdF.one (Own.fresh hu1)) (RdF.one (Own.fresh hs1))) hB1 (by rw [pcells_len]; decide) fun w4 hc4 hB1 => ?_
  have hE24 : Ext w2 w4 := hc4.below (by omega) he3
  have hE4 := hE2.trans hE24
  have hm4 : PrfM any w4 P3 u1 s1 := ⟨RdF.imp (Own.ext hu1 hE24).fresh fun _ _ _ => trivial, RdF.imp (Own.ext hs1 hE24).fresh fun _ _ _ => trivial⟩
  clear hu1 hs1 hc4
  refine St1 (hB1.all) ?_
  refine GL.call rfl rfl rfl (told_call P3 u1 s1 any w4 hm4 (by decide)) ?_
  rintro _ w5 ⟨vt, rfl, hvt, he5⟩
  rw [P3_told]
  rw [P3_val] at hvt
  replace hB1 := hB1.ext he5
  replace hm4 : PrfM any w5 P3 u1 s1 := hm4.ext he5
  have hE5 := hE4.trans he5
  have hvt' : RdB any w5 vt [97] := RdF.imp hvt.fresh fun _ _ _ => trivial
  have z5 := hE5.size
  refine St0 ?_
  refine G.drawK 19 w5.heap.size [] [(1, ptr b1 0), (2, iv 0), (3, vt), (4, .bool true), (0, .bool false)] (fun i v w' => match i with
    | 0 => iv 0 = v
    | 3 => prv P3 u1 s1 = v
    | 4 => dv k3 = v
    | 5 => ∃ b, Value.slice (some ⟨b, 0, none⟩) 1 1 = v ∧ w5.heap.size ≤ b ∧ ∃ fr, w'.heap[b]? = some (Obj.cells [bv 97].toArray 5 fr)
    | 6 => RdB any w' v [97]
    | 7 => RdD any w' v [leafD k200 [98]]
    | 8 => ∃ u s, prv P3 u s = v ∧ PrfM any w' P3 u s
    | 15 => vt = v
    | 16 => sv [97] = v
    | _ => Value.bool true = v) follows (by kernel_rfl) (by kernel_rfl) (by kernel_rfl) (by kernel_rfl) (by kernel_rfl) (by (repeat (first | exact Fr.sub_nil _ | refine Fr.sub_cons rfl ?_))) (Nat.le_refl _) ?mono ?old ?obs ?fin
  case mono =>
    intro i v w1 w2 he h
    rcases i with _ | _ | _ | _ | _ | _ | _ | _ | _ | _ | _ | _ | _ | _ | _ | _ | _ | i
    all_goals first | exact h | skip
    · obtain ⟨b, h1, h2, fr, h3⟩ := h
      obtain ⟨fr', h4, _⟩ := he.cells _ _ _ _ h3
      exact ⟨b, h1, h2, fr', h4⟩
    · exact he.rdF h
    · exact he.rdF h
    · obtain ⟨u, s, h1, h2⟩ := h; exact ⟨u, s, h1, he.rdF h2.val, he.rdF h2.sides⟩
  case old => intro i v w' hi h; simp at hi
  case obs =>
    intro w0 he0
    have hs0 := he0.size
    have hE0 := hE5.trans he0
    have hKs : ∀ w', Soft w5.heap.size w0 w' → Ext w w' := fun w' h' => Below.trans hE0 (h'.below.mono (by omega))
    refine ⟨fun w' he' => ?_, fun w' he' => ?_, fun w' he' => ?_, fun w' he' => ?_, fun w' he' => ?_, fun w' he' => ?_, fun w' he' => ?_, fun w' he' => ?_, fun w' he' => ?_, fun w' he' => ?_, fun w' he' => ?_, fun w' he' => ?_, fun w' he' => ?_, fun w' he' => ?_, fun w' he' => ?_, fun w' he' => ?_, fun w' he' => ?_, fun w' he' => ?_, fun w' he' => ?_, trivial⟩
    · refine St0 ?_
      exact GL.factK rfl (Soft.refl _ _) ⟨rfl, fun h => absurd h (by decide)⟩
    · rintro v rfl
      refine St0 ?_
      exact GL.factK rfl (Soft.refl _ _) ⟨rfl, fun h => absurd h (by decide)⟩
    · rintro v rfl
      refine St0 ?_
      exact GL.factK rfl (Soft.refl _ _) ⟨rfl, fun h => absurd h (by decide)⟩
    · rintro v rfl
      refine St1 (he'.at (hB1.ext he0).all) ?_
      exact GL.factK rfl (Soft.refl _ _) ⟨rfl, fun h => absurd h (by decide)⟩
    · rintro v rfl
      refine GL.buildArr k3.cells hT rfl rfl rfl rfl rfl rfl (by rw [k3, key1_cells]; rfl) ?_
      exact GL.factK rfl (Soft.refl _ _) ⟨rfl, fun h => absurd h (by decide)⟩
    · rintro v rfl
      have := he'.size
      refine GL.buildSlice [bv 97] hT rfl rfl rfl rfl rfl rfl rfl (fillL_one rfl rfl (madeLen _ _)) fun b w'' hb hB he'' => ?_
      exact GL.factK rfl (Soft.ofExt (by omega) he'') ⟨⟨b, rfl, by omega, _, hB⟩, fun h => absurd h (by decide)⟩
    · rintro v ⟨b, rfl, hb, fr, hB⟩ v rfl
      refine GL.markK (cs := [bv 97]) hT rfl rfl rfl rfl rfl rfl rfl hB fun w'' hc hfr => ?_
      obtain ⟨fr', hfr'⟩ := hfr
      exact GL.factK rfl (Soft.mark hb hB hc ⟨fr', hfr'⟩) ⟨⟨_, 1, rfl, Nat.le_refl _, .inr ⟨b, 0, rfl, _, _, fr', hfr', trivial, fun j v hj => by rw [Nat.zero_add, List.getElem?_toArray]; exact hj⟩⟩, fun h => absurd h (by decide)⟩
    · rintro v rfl
      have := he'.size
      refine GL.call rfl rfl rfl (side7_call 200 ⟨#[98]⟩ w' (by decide) (hK.ext (hKs w' he'))) ?_
      rintro r w'' ⟨hr, he''⟩
      exact GL.factK rfl (Soft.ofExt (by omega) he'') ⟨RdF.imp hr.fresh fun _ _ _ => trivial, fun h => absurd h (by decide)⟩
    · rintro v rfl u hu s hs v rfl
      obtain ⟨pu, cu, rfl, hcu⟩ := RdF.isSlice hu
      obtain ⟨ps, cs, rfl, hcs⟩ := RdF.isSlice hs
      refine GL.build (pcells P3 (.slice pu 1 cu) (.slice ps 1 cs)) hT rfl rfl rfl rfl rfl rfl (prf_fill3 k3 1 _ _ _ _ _ _ _ _) ?_
      exact GL.factK rfl (Soft.refl _ _) ⟨⟨_, _, rfl, hu, hs⟩, fun h => absurd h (by decide)⟩
    · rintro v rfl v ⟨u, s, rfl, hm⟩ v rfl
      have := he'.size
      refine GL.call rfl rfl rfl (ref7Same_call P3 P3 u1 s1 u s any any w' ⟨he'.rdF (hm4.ext he0).val, he'.rdF (hm4.ext he0).sides⟩ hm (by decide) (by decide)) ?_
      rintro r w'' ⟨rfl, he''⟩
      rw [decide_eq_true rfl]
      exact GL.factK rfl (Soft.ofExt (by omega) he'') ⟨rfl, fun h => absurd h (by decide)⟩
    · rintro v rfl v rfl
      refine St0 ?_
      exact GL.factK rfl (Soft.refl _ _) ⟨rfl, fun h => absurd h (by decide)⟩
    · rintro v rfl
      refine St0 ?_
      exact GL.factK rfl (Soft.refl _ _) ⟨rfl, fun h => absurd h (by decide)⟩
    · rintro v rfl
      refine St0 ?_
      exact GL.factK rfl (Soft.refl _ _) ⟨rfl, fun h => absurd h (by decide)⟩
    · rintro v rfl v rfl
      refine St0 ?_
      exact GL.factK rfl (Soft.refl _ _) ⟨rfl, fun h => absurd h (by decide)⟩
    · rintro v rfl
      refine St0 ?_
      exact GL.factK rfl (Soft.refl _ _) ⟨rfl, fun h => absurd h (by decide)⟩
    · rintro v rfl
      refine St0 ?_
      exact GL.factK rfl (Soft.refl _ _) ⟨rfl, fun h => absurd h (by decide)⟩
    · rintro v rfl v rfl
      refine GL.toString hT rfl rfl rfl rfl rfl rfl Tryd.underlying9 rfl (he'.rdF (hvt'.ext he0)) ?_
      exact GL.factK rfl (Soft.refl _ _) ⟨rfl, fun h => absurd h (by decide)⟩
    · rintro v rfl v rfl
      refine GL.eqstr rfl rfl rfl rfl ?_
      exact GL.factK rfl (Soft.refl _ _) ⟨rfl, fun h => absurd h (by decide)⟩
    · rintro v rfl v rfl
      refine St0 ?_
      exact GL.factK rfl (Soft.refl _ _) ⟨rfl, fun h => absurd h (by decide)⟩
  case fin =>
    rintro w6 he6 v0 - v1 - v2 - v3 - v4 - v5 - v6 - v7 - v8 - v9 - v10 - v11 - v12 - v13 - v14 - v15 - v16 - v17 - v18 rfl hun
    have e6 : Ext w w6 := Below.trans hE5 (he6.below.mono (by omega))
    refine St0 ?_
    exact G.ret1 rfl rfl rfl rfl ⟨rfl, e6⟩

/-! ### The law ProofTrue -/
theorem true7_call (v : Value) (r : Int) (ns : List Node) (k : Dig) (w : World) (h : RdN any w v ns) (hK : Kt w) :
    Does Tryd.prog 15 #[tv v r, dv k] w fun q w' => q = .bool true ∧ Ext w w' := by
  refine call_walk Tryd.func15 (by kernel_rfl) rfl Tryd.ntmps15 rfl ?_
  obtain ⟨p, c, rfl, hc⟩ := h.isSlice
  refine St0 ?_
  refine GL.box (vs := [.slice p ns.length c, iv r]) rfl rfl rfl rfl fun b2 w1 hb2 hB2 he1 => ?_
  refine GL.box rfl rfl rfl rfl fun b3 w2 hb3 hB3 he2 => ?_
  replace hB2 := hB2.ext he2
  have hE2 := he1.trans he2
  refine St0 ?_
  refine GL.call rfl rfl rfl (vs := []) (alive7_call w2 (hK.ext hE2)) ?_
  rintro _ w3 ⟨rfl, he3⟩
  replace hB2 := hB2.ext he3
  replace hB3 := hB3.ext he3
  have hE3 := hE2.trans he3
  refine St1 (hB2.all) ?_
  refine GL.call rfl rfl rfl (great6_call ns _ r 600 any w3 (h.ext hE3) (by omega)) ?_
  rintro _ w4 ⟨⟨g, rfl, hg⟩, he4⟩
  replace hB2 := hB2.ext he4
  replace hB3 := hB3.ext he4
  have hE4 := hE3.trans he4
  cases g
  case true =>
    refine St0 ?_
    exact G.ret1 rfl rfl rfl rfl ⟨rfl, hE4⟩
  refine St2 (hB2.all) (hB3.all) ?_
  refine GL.call rfl rfl rfl (make7_call _ r ns k any w4 (h.ext hE4) (hK.ext hE4)) ?_
  rintro _ w5 ⟨u1, s1, rfl, hu1, hs1, he5⟩
  have l2 := hB2.lt
  have l3 := hB3.lt
  replace hB2 := hB2.ext he5
  replace hB3 := hB3.ext he5
  have hE5 := hE4.trans he5
  have s5 := he5.size
  obtain ⟨hnl, hsl⟩ := proofN_small ns r k
  have hbad := fun h => proofN_bad (ns := ns) (r := r) h k
  have htold := fun h => made_told (ns := ns) (r := r) h k
  have hkey := fun h => proofN_key (ns := ns) (r := r) h k
  have hmay := fun h => made_may (ns := ns) (r := r) h k
  generalize proofN ns r k = N at *
  refine St0 ?_
  refine GL.alloc hT rfl rfl rfl fun b6 w6 hb6 hB6 he6 => ?_
  replace hB2 := hB2.ext he6
  replace hB3 := hB3.ext he6
  refine GL.storeVar hT rfl rfl rfl rfl rfl (pcells_len _ _ _) (pcells_one _ (RdF.one (Own.fresh hu1)) (RdF.one (Own.fresh hs1))) hB6 (by rw [pcells_len]; decide) fun w7 hc7 hB6 => ?_
  have hE57 : Ext w5 w7 := hc7.below (by omega) he6
  replace hB2 := hB2.chg hc7 (by omega)
  replace hB3 := hB3.chg hc7 (by omega)
  have hE7 := hE5.trans hE57
  have hm : PrfM any w7 N u1 s1 := ⟨RdF.imp (Own.ext hu1 hE57).fresh fun _ _ _ => trivial, RdF.imp (Own.ext hs1 hE57).fresh fun _ _ _ => trivial⟩
  clear hu1 hs1 hc7 s5 l2 l3 hb6
  cases hTB : treeB ns r
  · rw [show badE false = 8 from rfl]
    obtain rfl := hbad hTB
    refine St1 (hB2.all) ?_
    refine GL.call rfl rfl rfl (check6_call ns _ r any w7 (h.ext hE7)) ?_
    rintro _ w8 ⟨rfl, he8⟩
    rw [hTB, show badE false = 8 from rfl]
    replace hB6 := hB6.ext he8
    replace hm := hm.ext he8
    refine St1 (hB6.all) ?_
    refine GL.build (pcells noPrf nil nil) hT rfl rfl rfl rfl rfl rfl (by show _ = some (Dig.zero.cells ++ (bv 0 :: (Dig.zero.cells ++ [nil, nil]))); rw [Dig.zero_cells]; rfl) ?_
    refine GL.call rfl rfl rfl (ref7Same_call noPrf noPrf u1 s1 nil nil any any w8 hm (noPrf_m w8) (by decide) (by decide)) ?_
    rintro _ w9 ⟨rfl, he9⟩
    rw [decide_eq_true rfl]
    refine St0 ?_
    exact G.ret1 rfl rfl rfl rfl ⟨rfl, hE7.trans (he8.trans he9)⟩
  rw [show badE true = 0 from rfl]
  have hok := treeB_iff.1 hTB
  obtain ⟨t1, t2⟩ := htold hok
  have hk := hkey hok
  have hmy := hmay hok
  clear htold hbad hkey hmay
  refine St1 (hB6.all) ?_
  refine GL.call rfl rfl rfl (told_call N u1 s1 any w7 hm (by omega)) ?_
  rintro _ w8 ⟨vt, rfl, hvt, he8⟩
  replace hB2 := hB2.ext he8
  replace hB3 := hB3.ext he8
  replace hB6 := hB6.ext he8
  replace hm := hm.ext he8
  have hE8 := hE7.trans he8
  refine St2 (hB2.all) (hB3.all) ?_
  refine GL.call rfl rfl rfl (get6_call _ r ns k any w8 (h.ext hE8)) ?_
  rintro _ w9 ⟨vg, rfl, hvg, he9⟩
  replace hB2 := hB2.ext he9
  replace hB3 := hB3.ext he9
  replace hB6 := hB6.ext he9
  replace hm := hm.ext he9
  replace hvt := hvt.ext he9
  have hE9 := hE8.trans he9
  refine St1 (hB6.all) ?_
  refine GL.call rfl rfl rfl (check_call N u1 s1 any w9 hm) ?_
  rintro _ wa ⟨rfl, hea⟩
  rw [hmy, show badE true = 0 from rfl]
  replace hB3 := hB3.ext hea
  replace hB6 := hB6.ext hea
  replace hvt := hvt.ext hea
  replace hvg := hvg.ext hea
  have hEa := hE9.trans hea
  obtain ⟨hkk, _⟩ := pat hB6.all
  rw [hk] at hkk
  rw [t1]
  rw [t2] at hvt
  generalize gotB6 ns r k = gb at *
  generalize gotV6 ns r k = gv at *
  have hqq : k = k := rfl
  cases gb
  · refine St2 (hkk) (hB3.all) ?_
    refine GL.call rfl rfl rfl (same_call vt vg _ _ _ _ wa hvt.fresh hvg.fresh) ?_
    rintro _ wb ⟨rfl, rfl⟩
    rw [decide_eq_true rfl]
    refine St0 ?_
    exact G.ret1 rfl rfl rfl rfl ⟨rfl, hEa⟩
  · refine St2 (hkk) (hB3.all) ?_
    refine GL.call rfl rfl rfl (same_call vt vg _ _ _ _ wa hvt.fresh hvg.fresh) ?_
    rintro _ wb ⟨rfl, rfl⟩
    rw [decide_eq_true rfl]
    refine St0 ?_
    exact G.ret1 rfl rfl rfl rfl ⟨rfl, hEa⟩
end Go.Proofs.YtefneilaongpbaaDoor
