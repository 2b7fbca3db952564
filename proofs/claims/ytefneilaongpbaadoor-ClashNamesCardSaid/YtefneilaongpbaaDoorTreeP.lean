import Derived.Test.YtefneilaongpbaaDoorTreeL
import Derived.Test.YtefneilaongpbaaDoorVerA
/-
  Making a proof: the program's and the document's.
-/
set_option linter.unusedVariables false
set_option linter.unusedSimpArgs false
set_option maxRecDepth 100000
set_option maxHeartbeats 4000000
namespace Go.Proofs.YtefneilaongpbaaDoor
open Go Go.Bd Go.RowKit
attribute [local irreducible] G GL GQ GS shaD

/-- The proof of a key whose road ends at a node. -/
def proofX (k : Dig) (x : Node) (ds : List Dig) : Prf := if x.leaf then (if x.key = k then ⟨k, 1, Dig.zero, x.val, ds⟩ else ⟨k, 2, x.key, x.val, ds⟩) else ⟨k, 0, Dig.zero, [], ds⟩
noncomputable def proofN (ns : List Node) (r : Int) (k : Dig) : Prf := if treeB ns r then proofX k (endN ns r k) (sidesN ns r k) else noPrf
theorem pcells_split (p : Prf) (u s : Value) : pcells p u s = p.key.cells ++ ([bv p.en] ++ (p.other.cells ++ [u, s])) := by simp [pcells]
theorem pcells_en (p : Prf) (u s : Value) (e : UInt8) : (pcells p u s).set 32 (bv e) = pcells { p with en := e } u s := by
  rw [pcells_split, pcells_split]
  rw [List.set_append_right _ _ (by simp [Dig.len])]
  simp [Dig.len]
theorem pcells_val (p : Prf) (u u' s : Value) : (pcells p u s).set 65 u' = pcells p u' s := by
  have e : ∀ u, pcells p u s = (p.key.cells ++ (bv p.en :: p.other.cells)) ++ (u :: [s]) := fun u => by simp [pcells]
  rw [e, e, List.set_append_right _ _ (by simp [Dig.len])]
  simp [Dig.len]
theorem pcells_v (p : Prf) (v : Bytes) (u s : Value) : pcells { p with val := v } u s = pcells p u s := rfl
theorem pcells_other (p : Prf) (u s : Value) (o : Dig) : splice (pcells p u s) 33 o.cells = pcells { p with other := o } u s := by
  have h := splice_at (A := p.key.cells ++ [bv p.en]) (B := p.other.cells) (C := [u, s]) (ys := o.cells) (o := 33) (by simp [Dig.len]) (by rw [Dig.len, Dig.len])
  have e1 : pcells p u s = (p.key.cells ++ [bv p.en]) ++ (p.other.cells ++ [u, s]) := by simp [pcells]
  have e2 : pcells { p with other := o } u s = (p.key.cells ++ [bv p.en]) ++ (o.cells ++ [u, s]) := by simp [pcells]
  rw [e1, e2, h]
theorem pcells_en' (p : Prf) (u s : Value) (e : UInt8) : splice (pcells p u s) 32 [bv e] = pcells { p with en := e } u s := by
  have h := splice_at (A := p.key.cells) (B := [bv p.en]) (C := p.other.cells ++ [u, s]) (ys := [bv e]) (o := 32) (Dig.len _) rfl
  rw [pcells_split, h, pcells_split]
theorem end7_call (bm : Nat) (k : Dig) (ds : List Dig) (s : Value) (x : Node) (ux : Value) (w : World) (hm : Blk w bm 148 (pcells ⟨k, 0, Dig.zero, [], ds⟩ nil s)) (hxs : ux.cells = #[ux]) (hx1 : ux.oneCell' = true) :
    Does Tryd.prog 111 #[ptr bm 0, ndv x ux] w fun _ w' => Blk w' bm 148 (pcells (proofX k x ds) (if x.leaf then ux else nil) s) ∧ Mk bm none w w' := by
  refine call_walk Tryd.func111 (by kernel_rfl) rfl Tryd.ntmps111 rfl ?_
  refine St0 ?_
  refine GL.box (vs := ncells x ux) rfl rfl rfl rfl fun b3 w1 hb3 hB3 he1 => ?_
  have lm := hm.lt
  replace hm := hm.ext he1
  have hN := nAt hB3.all
  have hlf := hN.leaf
  cases hl : x.leaf
  · rw [hl] at hlf
    refine St1 (hlf) ?_
    refine G.ret0 rfl rfl rfl ⟨?_, Mk.of_ext _ _ he1⟩
    unfold proofX
    rw [hl]
    simp only [Bool.false_eq_true, if_false]
    exact hm
  rw [hl] at hlf
  have hk0 := (pat hm.all).1
  refine St1 (hlf) ?_
  by_cases hk : x.key = k
  · refine G.quiet follows (by kernel_rfl) ?_
    refine QSt2 (hN.key) (hk0) ?_
    refine GQ.nil fun w2 he2 => ?_
    replace hm := hm.ext he2
    refine St0 ?_
    refine GL.store1 (v := bv 1) hT rfl rfl rfl rfl rfl rfl rfl hm (by rw [pcells_len]; decide) fun w3 hc3 hm3 => ?_
    rw [pcells_en] at hm3
    have he2' := he1.trans he2
    have hB3' := (hB3.ext he2).chg hc3 (by omega)
    refine St1 ((nAt hB3'.all).val) ?_
    refine GL.store1 hT rfl rfl rfl rfl rfl hxs hx1 hm3 (by rw [pcells_len]; decide) fun w4 hc4 hm4 => ?_
    rw [pcells_val] at hm4
    refine St0 ?_
    refine G.end0 rfl rfl rfl ⟨?_, ((Mk.of_ext _ _ he2').trans (Mk.of_chg none hc3) (.inl rfl)).trans (Mk.of_chg none hc4) (.inl rfl)⟩
    unfold proofX
    rw [hl, if_pos rfl, if_pos rfl, if_pos hk]
    exact hm4
  · refine G.quiet follows (by kernel_rfl) ?_
    refine QSt2 (hN.key) (hk0) ?_
    refine GQ.nil fun w2 he2 => ?_
    replace hm := hm.ext he2
    replace hB3 := hB3.ext he2
    refine St0 ?_
    refine G.drawW 7 11 [0, 2, 2, 5, 0, 0, 0, 3, 1, 1, 1, 4] [(0, ptr bm 0), (3, ptr b3 0)] (fun i v => match i with
      | 0 => ptr bm 0 = v | 1 => ptr bm 0 = v | 2 => ptr b3 1 = v | 3 => dv x.key = v | 4 => ptr bm 0 = v | 5 => ptr bm 0 = v | 6 => ptr bm 32 = v | 8 => ptr bm 0 = v | 9 => ptr bm 0 = v | 10 => ptr bm 33 = v | _ => True) follows (by kernel_rfl) (by kernel_rfl) (by (repeat (first | exact Fr.sub_nil _ | refine Fr.sub_cons rfl ?_))) ?_
    intro w0 he0
    have hm0 := hm.ext he0
    have hb0 := hB3.ext he0
    have hm1 := blk_put (o := 32) (vs := [bv 2]) hm0
    rw [pcells_en'] at hm1
    have hm2 := blk_put (o := 33) (vs := x.key.cells) hm1
    rw [pcells_other] at hm2
    have hc1 := chg_put w0 bm 32 [bv 2]
    have hc2 := chg_put (World.put w0 bm 32 [bv 2]) bm 33 x.key.cells
    have hb1 := hb0.chg hc1 (by omega)
    have hb2 := hb1.chg hc2 (by omega)
    refine ⟨World.put w0 bm 32 [bv 2], World.put (World.put w0 bm 32 [bv 2]) bm 33 x.key.cells, ⟨?_, fun w' => ?_, fun w' => ?_, ⟨?_, ?_⟩, ?_, ?_, ?_, ?_, ?_, ?_, ?_, ?_, trivial⟩, ?_⟩
    · refine St0 ?_
      exact GL.val rfl rfl
    · refine St0 ?_
      exact GL.val rfl rfl
    · refine St0 ?_
      exact GL.val rfl rfl
    · rintro v rfl
      refine St1 ((nAt hb0.all).key) ?_
      exact GL.val rfl rfl
    · rintro v rfl
      refine St1 ((nAt hb1.all).key) ?_
      exact GL.val rfl rfl
    · rintro v rfl
      refine St0 ?_
      exact GL.val rfl rfl
    · rintro v rfl
      refine St0 ?_
      exact GL.val rfl rfl
    · rintro v rfl
      refine St0 ?_
      exact GL.val rfl rfl
    · rintro v rfl
      refine GL.storeX (vs := [bv 2]) hT rfl rfl rfl rfl rfl rfl (by intro q hq; simp at hq; subst hq; rfl) hm0 (by rw [pcells_len]; decide) ?_
      exact GL.stop (by (repeat (first | exact Fr.sub_nil _ | refine Fr.sub_cons rfl ?_)))
    · rintro v rfl
      refine St0 ?_
      exact GL.val rfl rfl
    · rintro v rfl
      refine St0 ?_
      exact GL.val rfl rfl
    · rintro v rfl
      refine St0 ?_
      exact GL.val rfl rfl
    · rintro v rfl v rfl
      refine GL.storeX (vs := x.key.cells) hT rfl rfl rfl rfl rfl (Dig.len _) (Dig.one _) hm1 (by rw [pcells_len, Dig.len]; decide) ?_
      exact GL.stop (by (repeat (first | exact Fr.sub_nil _ | refine Fr.sub_cons rfl ?_)))
    generalize World.put (World.put w0 bm 32 [bv 2]) bm 33 x.key.cells = w5 at *
    generalize World.put w0 bm 32 [bv 2] = w4 at *
    refine St1 ((nAt hb2.all).val) ?_
    refine GL.store1 hT rfl rfl rfl rfl rfl hxs hx1 hm2 (by rw [pcells_len]; decide) fun w6 hc6 hm6 => ?_
    rw [pcells_val] at hm6
    refine St0 ?_
    refine G.end0 rfl rfl rfl ⟨?_, (((Mk.of_ext _ _ (he1.trans (he2.trans he0))).trans (Mk.of_chg none hc1) (.inl rfl)).trans (Mk.of_chg none hc2) (.inl rfl)).trans (Mk.of_chg none hc6) (.inl rfl)⟩
    unfold proofX
    rw [hl, if_pos rfl, if_pos rfl, if_neg hk]
    exact hm6
theorem fill_whole {n : Nat} {z vs : List Value} {v : Value} (hv : v.cells = vs.toArray) (hl : vs.length = n) (hz : z.length = n) : fillL ([(0, n)][·]?) z [(0, v)] = some vs := by
  have c : v.cells.size = n := by rw [hv]; simpa using hl
  have e : splice z 0 v.cells.toList = vs := by
    rw [hv]
    simp only [splice, List.take_zero, List.nil_append, Nat.zero_add]
    rw [List.drop_of_length_le (by rw [hz, ← hl]; simp)]
    simp
  simp only [fillL, List.getElem?_cons_zero]
  rw [if_neg (by rw [c, hz]; omega), e]
theorem prf_fill7 (k : Dig) (ds : List Dig) {s : Value} (hs : s.cells = #[s]) : fillL ([(0, 32), (32, 1), (33, 32), (65, 1), (66, 1)][·]?) ti35.zero [(0, dv k), (4, s)] = some (pcells ⟨k, 0, Dig.zero, [], ds⟩ nil s) := by
  have h1 : (dv k).cells.size = 32 := by simp [Value.cells, Dig.len]
  have h2 : s.cells.size = 1 := by rw [hs]; rfl
  have ez : ti35.zero = [] ++ (List.replicate 32 (Value.int .u8 0) ++ (bv 0 :: (List.replicate 32 (Value.int .u8 0) ++ [nil, nil]))) := rfl
  have e1 : splice ti35.zero 0 (dv k).cells.toList = k.cells ++ (bv 0 :: (List.replicate 32 (Value.int .u8 0) ++ [nil, nil])) := by
    rw [ez]; exact splice_at (A := []) rfl (by simp [Value.cells, Dig.len])
  have e2 : splice (k.cells ++ (bv 0 :: (List.replicate 32 (Value.int .u8 0) ++ [nil, nil]))) 66 s.cells.toList = pcells ⟨k, 0, Dig.zero, [], ds⟩ nil s := by
    have := splice_at (A := k.cells ++ (bv 0 :: (List.replicate 32 (Value.int .u8 0) ++ [nil]))) (B := [nil]) (C := []) (ys := s.cells.toList) (o := 66) (by simp [Dig.len]) (by rw [hs]; rfl)
    rw [hs] at this
    rw [hs]
    have hz := Dig.zero_cells
    simp only [pcells, hz]
    simpa using this
  have l1 : ti35.zero.length = 67 := by decide
  have l2 : (k.cells ++ (bv 0 :: (List.replicate 32 (Value.int .u8 0) ++ [nil, nil]))).length = 67 := by simp [Dig.len]
  simp only [fillL, List.getElem?_cons_zero, List.getElem?_cons_succ]
  rw [if_neg (by rw [h1, l1]; decide), e1, if_neg (by rw [h2, l2]; decide), e2]
theorem nilB (B : Nat) (w : World) : OwnB B w nil [] := Own.bare B w none 1 _
theorem make7_call (v : Value) (r : Int) (ns : List Node) (k : Dig) (S : Where) (w : World) (h : RdN S w v ns) (hK : Kt w) :
    Does Tryd.prog 51 #[tv v r, dv k] w fun q w' => ∃ u s, q = .tuple #[prv (proofN ns r k) u s, iv (badE (treeB ns r))] ∧ OwnB w.heap.size w' u (proofN ns r k).val ∧ OwnD w.heap.size w' s (proofN ns r k).sides ∧ Ext w w' := by
  refine call_walk Tryd.func51 (by kernel_rfl) rfl Tryd.ntmps51 rfl ?_
  obtain ⟨p, c, rfl, hc⟩ := h.isSlice
  refine St0 ?_
  refine GL.box (vs := [.slice p ns.length c, iv r]) rfl rfl rfl rfl fun b2 w1 hb2 hB2 he1 => ?_
  refine GL.box rfl rfl rfl rfl fun b3 w2 hb3 hB3 he2 => ?_
  refine GL.alloc hT rfl rfl rfl fun b4 w3 hb4 hB4 he3 => ?_
  replace hB2 := hB2.ext he2
  replace hB2 := hB2.ext he3
  replace hB3 := hB3.ext he3
  have hE3 := (he1.trans he2).trans he3
  have s1 := he1.size
  have s2 := he2.size
  have s3 := he3.size
  refine St2 (hB2.all) (hB3.all) ?_
  refine GL.call rfl rfl rfl (road6_call _ r ns k S w3 (h.ext hE3) (hK.ext hE3)) ?_
  rintro q1 w4 ⟨he4, hq1⟩
  obtain ⟨u1, s1', rfl, hu1, hs1⟩ := road_uni hq1
  replace hB3 := hB3.ext he4
  replace hB4 := hB4.ext he4
  have hE4 := hE3.trans he4
  refine St0 ?_
  refine GL.alloc hT rfl rfl rfl fun b6 w5 hb6 hB6 he5 => ?_
  have l4 := hB4.lt
  have s4 := he4.size
  refine St0 ?_
  refine GL.storeVar hT rfl rfl rfl rfl rfl (ncells_len _ _) (ncells_one _ hu1.one) hB6 (by rw [ncells_len]; decide) fun w6 hc6 hB6 => ?_
  have hE46 : Ext w4 w6 := hc6.below (by omega) he5
  replace hB3 := hB3.ext hE46
  replace hB4 := hB4.ext hE46
  replace hu1 := hu1.ext hE46
  replace hs1 := hs1.ext hE46
  have hE6 := hE4.trans hE46
  have hsz := hE3.size
  cases hok : treeB ns r
  · have e0 : badE false = 8 := rfl
    rw [e0]
    have hpn : proofN ns r k = noPrf := by unfold proofN; rw [hok]; rfl
    rw [hpn]
    refine St0 ?_
    refine GL.build (pcells noPrf nil nil) hT rfl rfl rfl rfl rfl rfl (by show _ = some (Dig.zero.cells ++ (bv 0 :: (Dig.zero.cells ++ [nil, nil]))); rw [Dig.zero_cells]; rfl) ?_
    refine St0 ?_
    refine GL.storeVar hT rfl rfl rfl rfl rfl (pcells_len _ _ _) (pcells_one _ rfl rfl) hB4 (by rw [pcells_len]; decide) fun w7 hc7 hB7 => ?_
    refine St0 ?_
    exact G.retNt rfl rfl hT rfl rfl rfl rfl rfl hB7.all (pcells_len _ _ _) ⟨nil, nil, rfl, nilB _ _, Own.bare _ _ none 32 _, hc7.below (by omega) hE6⟩
  · have e0 : badE true = 0 := rfl
    rw [e0]
    have hpn : proofN ns r k = proofX k (endN ns r k) (sidesN ns r k) := by unfold proofN; rw [hok]; rfl
    rw [hpn]
    generalize endN ns r k = X at *
    generalize sidesN ns r k = Ds at *
    refine St1 (hB3.all) ?_
    refine GL.build (pcells ⟨k, 0, Dig.zero, [], Ds⟩ nil s1') hT rfl rfl rfl rfl rfl rfl (prf_fill7 k Ds (RdF.some (Own.fresh hs1))) ?_
    refine GL.build (pcells ⟨k, 0, Dig.zero, [], Ds⟩ nil s1') hT rfl rfl rfl rfl rfl rfl (fill_whole rfl (pcells_len _ _ _) rfl) ?_
    refine GL.box (vs := pcells ⟨k, 0, Dig.zero, [], Ds⟩ nil s1') rfl rfl rfl rfl fun bm w7 hbm hBm he7 => ?_
    have l6 := hB6.lt
    have l4' := hB4.lt
    replace hB4 := hB4.ext he7
    replace hB6 := hB6.ext he7
    replace hu1 := hu1.ext he7
    replace hs1 := hs1.ext he7
    have hE7 := hE6.trans he7
    refine St1 (hB6.all) ?_
    refine GL.call rfl rfl rfl (end7_call bm k Ds s1' X u1 w7 hBm (RdF.some (Own.fresh hu1)) (RdF.one (Own.fresh hu1))) ?_
    rintro _ w8 ⟨hm8, hk8⟩
    have s6 := hE6.size
    have s46 := hE46.size
    have lm := hm8.lt
    replace hB4 := hk8.blk hB4 (by omega) (by simp)
    have hkeep : ∀ {uu : Value} {bs : Bytes}, OwnB w3.heap.size w7 uu bs → OwnB w3.heap.size w8 uu bs := fun ho => ho.keep (fun g hg hl => hk8.block g hl (fun e => by subst e; exact ho.ne_blk hBm (by decide) hg) (by simp)) (by decide)
    replace hu1 := hkeep hu1
    replace hs1 : OwnD w3.heap.size w8 s1' Ds := hs1.keep (fun g hg hl => hk8.block g hl (fun e => by subst e; exact hs1.ne_blk hBm (by decide) hg) (by simp)) (by decide)
    have hE8 : Ext w w8 := hk8.below (by omega) (fun _ h => by cases h) hE7.size hE7
    have hval : OwnB w3.heap.size w8 (if X.leaf then u1 else nil) (proofX k X Ds).val := by
      unfold proofX
      cases hXl : X.leaf
      · simp only [Bool.false_eq_true, if_false]; exact nilB _ _
      · simp only [if_true]
        split <;> exact hu1
    have hsd : (proofX k X Ds).sides = Ds := by unfold proofX; split <;> (try split) <;> rfl
    refine St1 (hm8.all) ?_
    refine GL.storeVar hT rfl rfl rfl rfl rfl (pcells_len _ _ _) (pcells_one _ (RdF.one (Own.fresh hval)) (RdF.one (Own.fresh hs1))) hB4 (by rw [pcells_len]; decide) fun w9 hc9 hB9 => ?_
    refine St0 ?_
    exact G.retNt rfl rfl hT rfl rfl rfl rfl rfl hB9.all (pcells_len _ _ _) ⟨_, s1', rfl, (hval.keepBlk hB4 (by decide) hc9).mono hsz, by rw [hsd]; exact (hs1.keepBlk hB4 (by decide) hc9).mono hsz, hc9.below (by omega) hE8⟩
end Go.Proofs.YtefneilaongpbaaDoor
/-
  Making a proof: the document's; the laws' walks.
-/
set_option linter.unusedVariables false
set_option linter.unusedSimpArgs false
set_option maxRecDepth 100000
set_option maxHeartbeats 4000000
namespace Go.Proofs.YtefneilaongpbaaDoor
open Go Go.Bd Go.RowKit
attribute [local irreducible] G GL GQ GS shaD

theorem refOf7_call (v : Value) (r : Int) (ns : List Node) (k : Dig) (S : Where) (w : World) (h : RdN S w v ns) (hT' : TreeOk ns r) :
    Does Tryd.prog 112 #[tv v r, dv k] w fun q w' => ∃ u s, q = prv (proofN ns r k) u s ∧ OwnB w.heap.size w' u (proofN ns r k).val ∧ OwnD w.heap.size w' s (proofN ns r k).sides ∧ Ext w w' := by
  refine call_walk Tryd.func112 (by kernel_rfl) rfl Tryd.ntmps112 rfl ?_
  obtain ⟨p, c, rfl, hc⟩ := h.isSlice
  have hpn : proofN ns r k = proofX k (endNode (wayAt 0 (allT ns r) k).1) (wayAt 0 (allT ns r) k).2 := by unfold proofN endN sidesN; rw [treeB_t hT']; rfl
  rw [hpn]
  refine St0 ?_
  refine GL.box (vs := [.slice p ns.length c, iv r]) rfl rfl rfl rfl fun b2 w1 hb2 hB2 he1 => ?_
  refine GL.box rfl rfl rfl rfl fun b3 w2 hb3 hB3 he2 => ?_
  refine GL.alloc hT rfl rfl rfl fun b4 w3 hb4 hB4 he3 => ?_
  replace hB2 := hB2.ext he2
  replace hB2 := hB2.ext he3
  replace hB3 := hB3.ext he3
  have hE3 := (he1.trans he2).trans he3
  have s1 := he1.size
  have s2 := he2.size
  have s3 := he3.size
  have l4 := hB4.lt
  refine St2 (hB2.all) (hB3.all) ?_
  refine GL.call rfl rfl rfl (refWay6_call _ r ns k S w3 (h.ext hE3) hT') ?_
  rintro _ w4 ⟨m, s, rfl, hos, hend, he4⟩
  replace hB2 := hB2.ext he4
  replace hB3 := hB3.ext he4
  replace hB4 := hB4.ext he4
  have hE4 := hE3.trans he4
  have s4 := he4.size
  have hsz := hE3.size
  generalize (wayAt 0 (allT ns r) k).2 = Ds at *
  refine St1 (hB3.all) ?_
  refine GL.build (pcells ⟨k, 0, Dig.zero, [], Ds⟩ nil s) hT rfl rfl rfl rfl rfl rfl (prf_fill7 k Ds (RdF.some (Own.fresh hos))) ?_
  refine GL.alloc hT rfl rfl rfl fun b7 w5 hb7 hB7 he5 => ?_
  have l7 := hB7.lt
  refine St0 ?_
  refine GL.storeVar hT rfl rfl rfl rfl rfl (pcells_len _ _ _) (pcells_one _ rfl (RdF.one (Own.fresh hos))) hB7 (by rw [pcells_len]; decide) fun w6 hc6 hB7 => ?_
  have hE46 : Ext w4 w6 := hc6.below (by omega) he5
  replace hB2 := hB2.ext hE46
  replace hB3 := hB3.ext hE46
  replace hB4 := hB4.ext hE46
  replace hos := hos.ext hE46
  have hE6 := hE4.trans hE46
  have s6 := hE46.size
  by_cases hm0 : (m : Int) = 0
  · have hnone : (wayAt 0 (allT ns r) k).1 = none := by
      cases hq : (wayAt 0 (allT ns r) k).1 with
      | none => rfl
      | some x => rw [hq] at hend; obtain ⟨i, y, h1, _⟩ := hend; omega
    have hnil := nilB w3.heap.size w6
    refine St0 ?_
    refine St1 (hB7.all) ?_
    refine GL.storeVar hT rfl rfl rfl rfl rfl (pcells_len _ _ _) (pcells_one _ (RdF.one (Own.fresh hnil)) (RdF.one (Own.fresh hos))) hB4 (by rw [pcells_len]; decide) fun wz hcz hBz => ?_
    refine St0 ?_
    rw [hnone]
    exact G.retN rfl rfl hT rfl rfl rfl rfl hBz.all (pcells_len _ _ _) ⟨nil, s, rfl, nilB _ _, (hos.keepBlk hB4 (by decide) hcz).mono hsz, hcz.below (by omega) hE6⟩
  · obtain ⟨x, hsome, i, y, rfl, hy, hly, hxy⟩ : ∃ x, (wayAt 0 (allT ns r) k).1 = some x ∧ ∃ i y, m = i + 1 ∧ ns[i]? = some y ∧ y.leaf = true ∧ x = ⟨y.key, y.val⟩ := by
      cases hq : (wayAt 0 (allT ns r) k).1 with
      | none => rw [hq] at hend; have : m = 0 := hend; omega
      | some x => rw [hq] at hend; exact ⟨x, rfl, hend⟩
    have hxe := leaf_eq hT'.one hy hly
    have hvl := valB_le (hT'.one.leaf hy hly).1
    have hil := (List.getElem?_eq_some_iff.1 hy).1
    have hfew := hT'.few
    obtain ⟨bb, o, c', u, hv, hu, hA⟩ := h.elem hy
    cases hv
    replace hA := hA.ext hE6
    have hen : endNode (some ⟨y.key, y.val⟩) = y := hxe.symm
    rw [hsome, hxy, hen]
    refine St1 ((tvAt hB2.all).1) ?_
    (refine GL.indexSlice (i) 36 ((o + i * 36)) hT rfl rfl rfl rfl rfl rfl rfl rfl ?_ ?_ ?_ ?_; (focus omega); (focus omega); (focus omega))
    refine St1 (hA) ?_
    refine GL.alloc hT rfl rfl rfl fun b8 w7 hb8 hB8 he7 => ?_
    refine St0 ?_
    refine GL.storeVar hT rfl rfl rfl rfl rfl (ncells_len _ _) (ncells_one _ hu.one) hB8 (by rw [ncells_len]; decide) fun w8 hc8 hB8 => ?_
    have hE68 : Ext w6 w8 := hc8.below (by omega) he7
    have l7' := hB7.lt
    replace hB3 := hB3.ext hE68
    replace hB4 := hB4.ext hE68
    replace hB7 := hB7.ext hE68
    replace hos := hos.ext hE68
    have hE8 := hE6.trans hE68
    refine St1 ((nAt hB8.all).val) ?_
    refine GL.call rfl rfl rfl (refTwin_call u y.val S w8 (hu.ext hE8) (by omega)) ?_
    rintro u' w9 ⟨hu', he9⟩
    have s8 := hE8.size
    have s68 := hE68.size
    replace hB3 := hB3.ext he9
    replace hB4 := hB4.ext he9
    replace hB7 := hB7.ext he9
    replace hB8 := hB8.ext he9
    replace hos := hos.ext he9
    have hE9 := hE8.trans he9
    refine St0 ?_
    refine GL.store1 hT rfl rfl rfl rfl rfl (RdF.some (Own.fresh hu')) (RdF.one (Own.fresh hu')) hB7 (by rw [pcells_len]; decide) fun wa hca hBa => ?_
    rw [pcells_val] at hBa
    have hEa : Ext w wa := hca.below (by omega) hE9
    replace hB3 := hB3.chg hca (by omega)
    replace hB4 := hB4.chg hca (by omega)
    replace hB8 := hB8.chg hca (by omega)
    replace hos := hos.keepBlk hB7 (by decide) hca
    replace hu' := hu'.keepBlk hB7 (by decide) hca
    refine St0 ?_
    refine GL.store1 (v := bv 1) hT rfl rfl rfl rfl rfl rfl rfl hBa (by rw [pcells_len]; decide) fun wb hcb hBb => ?_
    rw [pcells_en] at hBb
    have hEb : Ext w wb := hcb.below (by omega) hEa
    replace hB3 := hB3.chg hcb (by omega)
    replace hB4 := hB4.chg hcb (by omega)
    replace hB8 := hB8.chg hcb (by omega)
    replace hos := hos.keepBlk hBa (by decide) hcb
    replace hu' := hu'.keepBlk hBa (by decide) hcb
    by_cases hk : y.key = k
    · refine St2 ((nAt hB8.all).key) (hB3.all) ?_
      refine St1 (hBb.all) ?_
      refine GL.storeVar hT rfl rfl rfl rfl rfl (pcells_len _ _ _) (pcells_one _ (RdF.one (Own.fresh hu')) (RdF.one (Own.fresh hos))) hB4 (by rw [pcells_len]; decide) fun wz hcz hBz => ?_
      refine St0 ?_
      have hpx : proofX k y Ds = ⟨k, 1, Dig.zero, y.val, Ds⟩ := by unfold proofX; rw [hly, if_pos rfl, if_pos hk]
      rw [hpx]
      exact G.retN rfl rfl hT rfl rfl rfl rfl hBz.all (pcells_len _ _ _) ⟨u', s, rfl, (hu'.keepBlk hB4 (by decide) hcz).mono s8, (hos.keepBlk hB4 (by decide) hcz).mono hsz, hcz.below (by omega) hEb⟩
    · refine St2 ((nAt hB8.all).key) (hB3.all) ?_
      refine GL.store1 (v := bv 2) hT rfl rfl rfl rfl rfl rfl rfl hBb (by rw [pcells_len]; decide) fun wc hcc hBc => ?_
      rw [pcells_en] at hBc
      have hEc : Ext w wc := hcc.below (by omega) hEb
      replace hB4 := hB4.chg hcc (by omega)
      replace hB8 := hB8.chg hcc (by omega)
      replace hos := hos.keepBlk hBb (by decide) hcc
      replace hu' := hu'.keepBlk hBb (by decide) hcc
      refine St1 ((nAt hB8.all).key) ?_
      refine GL.storeIn hT rfl rfl rfl rfl rfl (Dig.len _) (Dig.one _) hBc (by rw [pcells_len, Dig.len]; decide) fun wd hcd hBd => ?_
      rw [pcells_other] at hBd
      have hEd : Ext w wd := hcd.below (by omega) hEc
      replace hB4 := hB4.chg hcd (by omega)
      replace hos := hos.keepBlk hBc (by decide) hcd
      replace hu' := hu'.keepBlk hBc (by decide) hcd
      refine St0 ?_
      refine St1 (hBd.all) ?_
      refine GL.storeVar hT rfl rfl rfl rfl rfl (pcells_len _ _ _) (pcells_one _ (RdF.one (Own.fresh hu')) (RdF.one (Own.fresh hos))) hB4 (by rw [pcells_len]; decide) fun wz hcz hBz => ?_
      refine St0 ?_
      have hpx : proofX k y Ds = ⟨k, 2, y.key, y.val, Ds⟩ := by unfold proofX; rw [hly, if_pos rfl, if_neg hk]
      rw [hpx]
      exact G.retN rfl rfl hT rfl rfl rfl rfl hBz.all (pcells_len _ _ _) ⟨u', s, rfl, (hu'.keepBlk hB4 (by decide) hcz).mono s8, (hos.keepBlk hB4 (by decide) hcz).mono hsz, hcz.below (by omega) hEd⟩
theorem refMake7_call (v : Value) (r : Int) (ns : List Node) (k : Dig) (S : Where) (w : World) (h : RdN S w v ns) :
    Does Tryd.prog 52 #[tv v r, dv k] w fun q w' => ∃ u s, q = .tuple #[prv (proofN ns r k) u s, iv (badE (treeB ns r))] ∧ OwnB w.heap.size w' u (proofN ns r k).val ∧ OwnD w.heap.size w' s (proofN ns r k).sides ∧ Ext w w' := by
  refine call_walk Tryd.func52 (by kernel_rfl) rfl Tryd.ntmps52 rfl ?_
  obtain ⟨p, c, rfl, hc⟩ := h.isSlice
  refine St0 ?_
  refine GL.box (vs := [.slice p ns.length c, iv r]) rfl rfl rfl rfl fun b2 w1 hb2 hB2 he1 => ?_
  refine GL.box rfl rfl rfl rfl fun b3 w2 hb3 hB3 he2 => ?_
  refine GL.alloc hT rfl rfl rfl fun b4 w3 hb4 hB4 he3 => ?_
  replace hB2 := hB2.ext he2
  replace hB2 := hB2.ext he3
  replace hB3 := hB3.ext he3
  have hE3 := (he1.trans he2).trans he3
  have s1 := he1.size
  have s2 := he2.size
  refine St1 (hB2.all) ?_
  refine GL.call rfl rfl rfl (refMay6_call ns _ r S w3 (h.ext hE3)) ?_
  rintro _ w4 ⟨rfl, he4⟩
  replace hB2 := hB2.ext he4
  replace hB3 := hB3.ext he4
  replace hB4 := hB4.ext he4
  have hE4 := hE3.trans he4
  cases hok : treeB ns r
  · have hpn : proofN ns r k = noPrf := by unfold proofN; rw [hok]; rfl
    rw [hpn]
    refine St0 ?_
    refine GL.build (pcells noPrf nil nil) hT rfl rfl rfl rfl rfl rfl (by show _ = some (Dig.zero.cells ++ (bv 0 :: (Dig.zero.cells ++ [nil, nil]))); rw [Dig.zero_cells]; rfl) ?_
    refine GL.storeVar hT rfl rfl rfl rfl rfl (pcells_len _ _ _) (pcells_one _ rfl rfl) hB4 (by rw [pcells_len]; decide) fun w7 hc7 hB7 => ?_
    refine St0 ?_
    exact G.retNt rfl rfl hT rfl rfl rfl rfl rfl hB7.all (pcells_len _ _ _) ⟨nil, nil, rfl, nilB _ _, Own.bare _ _ none 32 _, hc7.below (by omega) hE4⟩
  · refine St2 (hB2.all) (hB3.all) ?_
    refine GL.call rfl rfl rfl (refOf7_call _ r ns k S w4 (h.ext hE4) (treeB_iff.1 hok)) ?_
    rintro _ w5 ⟨u, s, rfl, hu, hs, he5⟩
    replace hB4 := hB4.ext he5
    have s4 := hE4.size
    refine GL.storeVar hT rfl rfl rfl rfl rfl (pcells_len _ _ _) (pcells_one _ (RdF.one (Own.fresh hu)) (RdF.one (Own.fresh hs))) hB4 (by rw [pcells_len]; decide) fun w7 hc7 hB7 => ?_
    refine St0 ?_
    exact G.retNt rfl rfl hT rfl rfl rfl rfl rfl hB7.all (pcells_len _ _ _) ⟨u, s, rfl, (hu.keepBlk hB4 (by decide) hc7).mono s4, (hs.keepBlk hB4 (by decide) hc7).mono s4, hc7.below (by omega) (hE4.trans he5)⟩
end Go.Proofs.YtefneilaongpbaaDoor
/-
  What is made: the laws ProofMakes and VerifyMade.
-/
set_option linter.unusedVariables false
set_option linter.unusedSimpArgs false
set_option maxRecDepth 100000
set_option maxHeartbeats 8000000
namespace Go.Proofs.YtefneilaongpbaaDoor
open Go Go.Bd Go.RowKit
attribute [local irreducible] G GL GQ GS shaD

theorem dig_zero : Dig.zero = dig0 := rfl
theorem endNode_val (e : Option Pair) : (endNode e).val = match e with | none => [] | some x => x.val := by cases e <;> rfl
theorem proofX_en (k : Dig) (e : Option Pair) (ds : List Dig) : proofX k (endNode e) ds = match e with
    | none => ⟨k, 0, Dig.zero, [], ds⟩
    | some x => if x.key = k then ⟨k, 1, Dig.zero, x.val, ds⟩ else ⟨k, 2, x.key, x.val, ds⟩ := by
  cases e with
  | none => rfl
  | some x => by_cases hk : x.key = k <;> simp [proofX, endNode, leafOf, hk]
theorem proofN_ok {ns : List Node} {r : Int} (h : TreeOk ns r) (k : Dig) : proofN ns r k = proofX k (endNode (wayAt 0 (allT ns r) k).1) (wayAt 0 (allT ns r) k).2 := by
  unfold proofN endN sidesN; rw [treeB_t h]; rfl
theorem proofN_bad {ns : List Node} {r : Int} (h : treeB ns r = false) (k : Dig) : proofN ns r k = noPrf := by unfold proofN; rw [h]; rfl
theorem proofX_sides (k : Dig) (x : Node) (ds : List Dig) : (proofX k x ds).sides = ds := by unfold proofX; split <;> (try split) <;> rfl
theorem proofX_key (k : Dig) (x : Node) (ds : List Dig) : (proofX k x ds).key = k := by unfold proofX; split <;> (try split) <;> rfl
theorem proofN_small (ns : List Node) (r : Int) (k : Dig) : (proofN ns r k).val.length ≤ 64 ∧ (proofN ns r k).sides.length ≤ 256 := by
  cases hok : treeB ns r
  · rw [proofN_bad hok]; exact ⟨by simp [noPrf], by simp [noPrf]⟩
  · have h := treeB_iff.1 hok
    have h1 := endN_small ns r k
    have h2 := sidesN_len ns r k
    have e : proofN ns r k = proofX k (endN ns r k) (sidesN ns r k) := by unfold proofN; rw [hok]; rfl
    rw [e]
    refine ⟨?_, by rw [proofX_sides]; exact h2⟩
    unfold proofX
    split
    · split <;> exact h1
    · simp
/-- The inputs' digests go up the road. -/
theorem from_up (x : Prf) : ∀ (i : Nat) (ss : List Dig), shaD ((fromL x i ss).headD []) = upD x.key i ss (shaD (lowF x))
  | i, [] => rfl
  | i, s :: ss => by
    have ih := from_up x (i + 1) ss
    simp only [fromL, List.headD_cons, upD]
    rw [ih]
    have hb := x.key.bit_lt i
    unfold upB twoD
    by_cases h : x.key.bit i = 1
    · rw [if_neg (by omega), if_pos h]
    · rw [if_pos (by omega), if_neg h]
theorem low_end (k : Dig) (e : Option Pair) (ds : List Dig) : shaD (lowF (proofX k (endNode e) ds)) = endD e := by
  rw [proofX_en]
  cases e with
  | none => rfl
  | some x =>
    simp only
    by_cases hk : x.key = k
    · rw [if_pos hk]
      subst hk
      simp [lowF, endD, leafD]
    · rw [if_neg hk]
      simp [lowF, endD, leafD]
theorem pre0 (a b : Dig) : Pre 0 a b := fun j hj => by omega
theorem TreeOk.wayEnd {ns : List Node} {r : Int} (h : TreeOk ns r) (k : Dig) : match (wayAt 0 (allT ns r) k).1 with
    | none => ∀ x ∈ allT ns r, x.key ≠ k
    | some x => x ∈ allT ns r ∧ Pre (wayAt 0 (allT ns r) k).2.length x.key k ∧ (x.key ≠ k → ∀ y ∈ allT ns r, y.key ≠ k) := by
  have h2 := way_end k 256 0 (allT ns r) rfl (by omega) h.pw (fun x _ => pre0 _ _)
  cases hq : (wayAt 0 (allT ns r) k).1 with
  | none => rw [hq] at h2; exact h2
  | some x =>
    rw [hq] at h2
    obtain ⟨h3, h4, h5⟩ := h2
    exact ⟨h3, by simpa using h4, h5⟩
/-- What is made may be. -/
theorem made_may {ns : List Node} {r : Int} (h : TreeOk ns r) (k : Dig) : mayB (proofN ns r k) = true := by
  rw [proofN_ok h]
  have hw := h.way k
  have he := h.wayEnd k
  have hv := h.valid
  generalize (wayAt 0 (allT ns r) k).2 = Ds at *
  generalize (wayAt 0 (allT ns r) k).1 = e at *
  rw [proofX_en]
  cases e with
  | none => simp [mayB, endB]; exact hw.1
  | some x =>
    simp only at he ⊢
    have hx := hv x he.1
    by_cases hk : x.key = k
    · rw [if_pos hk]
      simp [mayB, endB, hx]
      exact hw.1
    · rw [if_neg hk]
      have := (pre_iff (a := x.key) (b := k) hw.1).2 he.2.1
      simp [mayB, endB, hx, hk, this]
      exact hw.1
theorem made_root {ns : List Node} {r : Int} (h : TreeOk ns r) (k : Dig) : rootV (proofN ns r k) = rootAt 0 (allT ns r) := by
  unfold rootV
  rw [made_may h, if_pos rfl]
  unfold fromP
  rw [from_up, proofN_ok h, low_end, proofX_sides, proofX_key]
  exact way_root k 256 0 (allT ns r) rfl (by omega) ⟨h.pw, fun x _ y _ => pre0 _ _⟩
theorem made_fits {ns : List Node} {r : Int} (h : TreeOk ns r) (k : Dig) : fitsB (proofN ns r k) (rootAt 0 (allT ns r)) = true := by
  unfold fitsB
  rw [made_may h, made_root h, decide_eq_true rfl]; rfl

noncomputable def sumN (ns : List Node) (r : Int) : Dig := if treeB ns r then rootAt 0 (allT ns r) else Dig.zero
theorem tsum6_call (v : Value) (r : Int) (ns : List Node) (S : Where) (w : World) (h : RdN S w v ns) (hK : Kt w) :
    Does Tryd.prog 60 #[tv v r] w fun q w' => q = .tuple #[dv (sumN ns r), iv (badE (treeB ns r))] ∧ Ext w w' := by
  refine call_walk Tryd.func60 (by kernel_rfl) rfl Tryd.ntmps60 rfl ?_
  obtain ⟨p, c, rfl, hc⟩ := h.isSlice
  refine St0 ?_
  refine GL.box (vs := [.slice p ns.length c, iv r]) rfl rfl rfl rfl fun b1 w1 hb1 hB1 he1 => ?_
  refine GL.alloc hT rfl rfl rfl fun b2 w2 hb2 hB2 he2 => ?_
  have s1 := he1.size
  replace hB1 := hB1.ext he2
  have hE2 := he1.trans he2
  refine St1 (hB1.all) ?_
  refine GL.call rfl rfl rfl (check6_call ns _ r S w2 (h.ext hE2)) ?_
  rintro _ w3 ⟨rfl, he3⟩
  replace hB1 := hB1.ext he3
  replace hB2 := hB2.ext he3
  have hE3 := hE2.trans he3
  cases hok : treeB ns r
  · have e0 : badE false = 8 := rfl
    have e1 : sumN ns r = Dig.zero := by unfold sumN; rw [hok]; rfl
    rw [e0, e1]
    refine St0 ?_
    refine GL.storeVar hT rfl rfl rfl rfl rfl (Dig.len _) (Dig.one _) hB2 (by rw [Dig.len]; decide) fun w4 hc4 hB4 => ?_
    refine St0 ?_
    exact G.retNt rfl rfl hT rfl rfl rfl rfl rfl hB4.all (Dig.len _) ⟨rfl, hc4.below (by omega) hE3⟩
  · have e0 : badE true = 0 := rfl
    have e1 : sumN ns r = rootAt 0 (allT ns r) := by unfold sumN; rw [hok]; rfl
    have hT' := treeB_iff.1 hok
    have hpos := hT'.pos
    have hfew := hT'.few
    obtain ⟨n0, rfl⟩ : ∃ n0 : Nat, r = n0 := ⟨r.toNat, by omega⟩
    rw [e0, e1]
    refine St2 (hB1.all) ((tvAt hB1.all).2) ?_
    refine GL.call rfl rfl rfl (sum6_call ns hT'.one (by omega) (n0 + 1) n0 0 dig0 (allT ns n0) _ n0 S w3 (by omega) hT'.all zb0 (h.ext hE3) (hK.ext hE3)) ?_
    rintro _ w4 ⟨rfl, he4⟩
    replace hB2 := hB2.ext he4
    refine GL.storeVar hT rfl rfl rfl rfl rfl (Dig.len _) (Dig.one _) hB2 (by rw [Dig.len]; decide) fun w5 hc5 hB5 => ?_
    refine St0 ?_
    exact G.retNt rfl rfl hT rfl rfl rfl rfl rfl hB5.all (Dig.len _) ⟨rfl, hc5.below (by omega) (hE3.trans he4)⟩
theorem made8_call (v : Value) (r : Int) (ns : List Node) (k : Dig) (w : World) (h : RdN any w v ns) (hK : Kt w) :
    Does Tryd.prog 12 #[tv v r, dv k] w fun q w' => q = .bool true ∧ Ext w w' := by
  refine call_walk Tryd.func12 (by kernel_rfl) rfl Tryd.ntmps12 rfl ?_
  obtain ⟨p, c, rfl, hc⟩ := h.isSlice
  refine St0 ?_
  refine GL.box (vs := [.slice p ns.length c, iv r]) rfl rfl rfl rfl fun b2 w1 hb2 hB2 he1 => ?_
  refine GL.box rfl rfl rfl rfl fun b3 w2 hb3 hB3 he2 => ?_
  replace hB2 := hB2.ext he2
  have hE2 := he1.trans he2
  refine St0 ?_
  refine GL.call (vs := []) rfl rfl rfl (alive8_call w2 (hK.ext hE2)) ?_
  rintro _ w3 ⟨rfl, he3⟩
  replace hB2 := hB2.ext he3
  replace hB3 := hB3.ext he3
  have hE3 := hE2.trans he3
  refine St1 (hB2.all) ?_
  refine GL.call rfl rfl rfl (great6_call ns _ r 600 any w3 (h.ext hE3) (by omega)) ?_
  rintro _ w4 ⟨⟨g, rfl, hg⟩, he4⟩
  replace hB2 := hB2.ext he4
  replace hB3 := hB3.ext he4
  have hE4 := hE3.trans he4
  cases g
  case true =>
    refine St0 ?_
    exact G.ret1 rfl rfl rfl rfl ⟨rfl, hE4⟩
  refine St2 (hB2.all) (hB3.all) ?_
  refine GL.call rfl rfl rfl (make7_call _ r ns k any w4 (h.ext hE4) (hK.ext hE4)) ?_
  rintro _ w5 ⟨u, s, rfl, hu, hs, he5⟩
  replace hB2 := hB2.ext he5
  have hE5 := hE4.trans he5
  obtain ⟨hvl, hsl⟩ := proofN_small ns r k
  refine St0 ?_
  refine GL.alloc hT rfl rfl rfl fun b6 w6 hb6 hB6 he6 => ?_
  refine St0 ?_
  refine GL.storeVar hT rfl rfl rfl rfl rfl (pcells_len _ _ _) (pcells_one _ (RdF.one (Own.fresh hu)) (RdF.one (Own.fresh hs))) hB6 (by rw [pcells_len]; decide) fun w7 hc7 hB6 => ?_
  have hE57 : Ext w5 w7 := hc7.below (by omega) he6
  replace hB2 := hB2.ext hE57
  have hE7 := hE5.trans hE57
  refine St1 (hB2.all) ?_
  refine GL.call rfl rfl rfl (tsum6_call _ r ns any w7 (h.ext hE7) (hK.ext hE7)) ?_
  rintro _ w8 ⟨rfl, he8⟩
  replace hB6 := hB6.ext he8
  have hE8 := hE7.trans he8
  refine St0 ?_
  refine GL.alloc hT rfl rfl rfl fun b8 w9 hb8 hB8 he9 => ?_
  refine St0 ?_
  refine GL.storeVar hT rfl rfl rfl rfl rfl (Dig.len _) (Dig.one _) hB8 (by rw [Dig.len]; decide) fun wa hca hB8 => ?_
  have hE8a : Ext w8 wa := hca.below (by omega) he9
  replace hB6 := hB6.ext hE8a
  have hEa := hE8.trans hE8a
  have x5a := hE57.trans (he8.trans hE8a)
  cases hok : treeB ns r
  · have e0 : badE false = 8 := rfl
    rw [e0]
    refine St0 ?_
    exact G.ret1 rfl rfl rfl rfl ⟨rfl, hEa⟩
  · have e0 : badE true = 0 := rfl
    have hT' := treeB_iff.1 hok
    have e1 : sumN ns r = rootAt 0 (allT ns r) := by unfold sumN; rw [hok]; rfl
    rw [e1] at hB8
    rw [e0]
    refine St2 (hB6.all) (hB8.all) ?_
    refine GL.call rfl rfl rfl (vfits_call (proofN ns r k) (rootAt 0 (allT ns r)) u s _ wa ⟨(Own.ext hu x5a).fresh, (Own.ext hs x5a).fresh⟩ (by omega) (by omega) (hK.ext hEa)) ?_
    rintro _ wb ⟨rfl, heb⟩
    rw [made_fits hT']
    refine St0 ?_
    exact G.ret1 rfl rfl rfl rfl ⟨rfl, hEa.trans heb⟩
theorem makes7law_call (v : Value) (r : Int) (ns : List Node) (k : Dig) (w : World) (h : RdN any w v ns) (hK : Kt w) :
    Does Tryd.prog 9 #[tv v r, dv k] w fun q w' => q = .bool true ∧ Ext w w' := by
  refine call_walk Tryd.func9 (by kernel_rfl) rfl Tryd.ntmps9 rfl ?_
  obtain ⟨p, c, rfl, hc⟩ := h.isSlice
  refine St0 ?_
  refine GL.box (vs := [.slice p ns.length c, iv r]) rfl rfl rfl rfl fun b2 w1 hb2 hB2 he1 => ?_
  refine GL.box rfl rfl rfl rfl fun b3 w2 hb3 hB3 he2 => ?_
  replace hB2 := hB2.ext he2
  have hE2 := he1.trans he2
  refine St1 (hB2.all) ?_
  refine GL.call rfl rfl rfl (great6_call ns _ r 600 any w2 (h.ext hE2) (by omega)) ?_
  rintro _ w3 ⟨⟨g, rfl, hg⟩, he3⟩
  replace hB2 := hB2.ext he3
  replace hB3 := hB3.ext he3
  have hE3 := hE2.trans he3
  cases g
  case true =>
    refine St0 ?_
    exact G.ret1 rfl rfl rfl rfl ⟨rfl, hE3⟩
  obtain ⟨hl600, hv100⟩ := hg rfl
  have hv47 : ∀ x ∈ ns, x.val.length ≤ 140737488355328 := fun x hx => by have := hv100 x hx; omega
  refine St1 (hB2.all) ?_
  refine GL.call rfl rfl rfl (refTwin6_call _ r ns any w3 (h.ext hE3) (by omega) hv47) ?_
  rintro _ w4 ⟨uo, rfl, ho, he4⟩
  refine GL.alloc hT rfl rfl rfl fun b5 w5 hb5 hB5 he5 => ?_
  have l5w := hB5.lt
  have s5 := he5.size
  refine GL.storeVar (vs := [uo, iv r]) hT rfl rfl rfl rfl rfl rfl (by intro q hq; simp at hq; rcases hq with rfl | rfl; exact ho.one; rfl) hB5 rfl fun w6 hc6 hB5 => ?_
  have hE46 : Ext w4 w6 := hc6.below (by omega) he5
  have s46 := hE46.size
  have ho6 := ownN_same6 (U := w4.heap.size) (w' := w6) (ownN_trunc6 ho (Nat.le_refl _)) (fun q _ hq => hE46.block q hq)
  have hx36 := he4.trans hE46
  replace hB2 := hB2.ext hx36
  replace hB3 := hB3.ext hx36
  have hE6 := hE3.trans hx36
  refine St2 (hB5.all) (hB3.all) ?_
  refine GL.call rfl rfl rfl (make7_call uo r ns k _ w6 (ownN_full6 ho6).rd (hK.ext hE6)) ?_
  rintro _ w7 ⟨u1, s1, rfl, hu1, hs1, he7⟩
  have l6 := hB5.lt
  have s7 := he7.size
  replace hB2 := hB2.ext he7
  replace hB3 := hB3.ext he7
  replace hB5 := hB5.ext he7
  have hE7 := hE6.trans he7
  obtain ⟨hnl, hsl⟩ := proofN_small ns r k
  have hu7 := own_trunc hu1 (Nat.le_refl _)
  refine St0 ?_
  refine GL.alloc hT rfl rfl rfl fun b6 w8 hb6 hB6 he8 => ?_
  have s8 := he8.size
  refine St0 ?_
  refine GL.storeVar hT rfl rfl rfl rfl rfl (pcells_len _ _ _) (pcells_one _ (RdF.one (Own.fresh hu1)) (RdF.one (Own.fresh hs1))) hB6 (by rw [pcells_len]; decide) fun w9 hc9 hB6 => ?_
  have hE79 : Ext w7 w9 := hc9.below (by omega) he8
  replace hB2 := hB2.ext hE79
  replace hB3 := hB3.ext hE79
  replace hB5 := hB5.ext hE79
  have hE9 := hE7.trans hE79
  refine St2 (hB2.all) (hB3.all) ?_
  refine GL.call rfl rfl rfl (refMake7_call _ r ns k any w9 (h.ext hE9)) ?_
  rintro _ wa ⟨u2, s2, rfl, hu2, hs2, hea⟩
  replace hB2 := hB2.ext hea
  replace hB5 := hB5.ext hea
  replace hB6 := hB6.ext hea
  have hEa := hE9.trans hea
  generalize proofN ns r k = N at hu1 hu7 hnl hu2 hB6 hs1 hsl hs2
  have s9 := hE79.size
  have sa := hea.size
  refine St0 ?_
  refine GL.alloc hT rfl rfl rfl fun b9 wb hb9 hB9 heb => ?_
  refine St0 ?_
  refine GL.storeVar hT rfl rfl rfl rfl rfl (pcells_len _ _ _) (pcells_one _ (RdF.one (Own.fresh hu2)) (RdF.one (Own.fresh hs2))) hB9 (by rw [pcells_len]; decide) fun wc hcc hB9 => ?_
  have hEac : Ext wa wc := hcc.below (by omega) heb
  replace hB2 := hB2.ext hEac
  replace hB5 := hB5.ext hEac
  replace hB6 := hB6.ext hEac
  have hEc := hEa.trans hEac
  have x7c := hE79.trans (hea.trans hEac)
  refine St2 (hB6.all) (hB9.all) ?_
  refine GL.call rfl rfl rfl (ref7Same_call N N u1 s1 u2 s2 _ _ wc ⟨(Own.ext hu1 x7c).fresh, (Own.ext hs1 x7c).fresh⟩ ⟨(Own.ext hu2 hEac).fresh, (Own.ext hs2 hEac).fresh⟩ (by omega) (by omega)) ?_
  rintro _ wd ⟨rfl, hed⟩
  rw [decide_eq_true rfl]
  replace hB2 := hB2.ext hed
  replace hB5 := hB5.ext hed
  replace hB6 := hB6.ext hed
  have hEd := hEc.trans hed
  have x7d := x7c.trans hed
  have hud := own_same5 (w' := wd) hu7 (fun q _ hq => x7d.block q (by omega))
  have x6d := he7.trans x7d
  have hod := ownN_same6 (w' := wd) ho6 (fun q _ hq => x6d.block q (by omega))
  obtain ⟨pu, cu, hsh⟩ := (own_full hud).shape
  have lb5 : b5 < w6.heap.size := l6
  have lb2 := he1.size
  have sd := hEc.size
  have sdd := hed.size
  have sac := hEac.size
  have z3 := hE3.size
  have z4 := he4.size
  have hb6n : w7.heap.size ≤ b6 := by omega
  clear hu1 hu2 hs1 hs2 hu7 ho6 ho
  refine St0 ?_
  refine G.sub (f' := [(11, iv ((0 : Nat) : Int)), (10, .bool true), (2, ptr b2 0), (5, ptr b5 0), (6, ptr b6 0)]) (by (repeat (first | exact Fr.sub_nil _ | refine Fr.sub_cons rfl ?_))) ?_
  refine G.rounds (α := Nat) (fun j f w' => j ≤ N.val.length ∧ Only w6.heap.size w7.heap.size wd w' ∧ (∃ bs' : Bytes, bs'.length = N.val.length ∧ OwnB w6.heap.size (trunc w7.heap.size w') u1 bs') ∧ f = [(11, iv j), (10, .bool true), (2, ptr b2 0), (5, ptr b5 0), (6, ptr b6 0)]) (fun j => N.val.length - j) ?round 0 ⟨by omega, Only.refl _ _ _, ⟨N.val, rfl, hud⟩, rfl⟩
  rintro j f we ⟨hj, hon, ⟨bs', hbl, hb'⟩, rfl⟩ again
  have ze := hon.size
  have hB6e : Blk we b6 35 (pcells N u1 s1) := hB6.keep (hon.block b6 hB6.lt (.inr hb6n))
  have n6v := (pat hB6e.all).2.2.2.1
  obtain ⟨pe, ce, he'⟩ := (own_full hb').shape
  rw [hbl] at he'
  subst he'
  refine St1 (n6v) ?_
  by_cases hlt : (j : Int) < N.val.length
  · obtain ⟨g', cap, cc, y, hv', hBg, hgU, hBlk, hjc, hAt, hset⟩ := ownB_turn hb' (j := j) (by omega)
    rw [hbl] at hv'
    cases hv'
    refine St0 ?_
    refine G.quietTail 9 follows (by kernel_rfl) (by kernel_rfl) (by kernel_rfl) (by kernel_rfl) ?_
    refine QSt1 (n6v) ?_
    (refine GQ.indexSlice (j) 1 (j) hT rfl rfl rfl rfl rfl rfl rfl rfl ?_ ?_ ?_ ?_; (focus omega); (focus omega); (focus omega))
    refine QSt1 (hAt) ?_
    refine GQ.bin rfl rfl rfl rfl (fun w => run_add1_u8 y w) ?_
    refine GQ.tail fun wf hef => ?_
    (refine GL.indexSlice (j) 1 (j) hT rfl rfl rfl rfl rfl rfl rfl rfl ?_ ?_ ?_ ?_; (focus omega); (focus omega); (focus omega))
    refine GL.store1 hT rfl rfl rfl rfl rfl rfl rfl (hBlk.ext hef) hjc fun wg hcg hBg' => ?_
    refine St0 ?_
    obtain ⟨bs2, hl2, hb2⟩ := hset wg (y + 1) hBg'
    exact G.sub (by (repeat (first | exact Fr.sub_nil _ | refine Fr.sub_cons rfl ?_))) (again (j + 1) _ _ (by omega) ⟨by omega, (hon.trans (Only.ext hef)).trans (Only.chg hcg hBg hgU), ⟨bs2, by omega, hb2⟩, rfl⟩)
  · have hoe := ownN_same6 (w' := we) hod (fun q _ hq => hon.block q (by omega) (.inl (by omega)))
    have hB5e : Blk we b5 52 [uo, iv r] := hB5.keep (hon.block b5 hB5.lt (.inl (by omega)))
    have hB2e : Blk we b2 52 [.slice p ns.length c, iv r] := hB2.keep (hon.block b2 hB2.lt (.inl (by omega)))
    have hEe := below_of_only hon hEd (by omega)
    refine St2 (hB5e.all) (hB2e.all) ?_
    refine GL.call rfl rfl rfl (refSame6_call uo _ r r ns ns _ any we (ownN_full6 hoe).rd (h.ext hEe) (by omega)) ?_
    rintro _ wf ⟨rfl, hef⟩
    rw [decide_eq_true ⟨rfl, rfl⟩]
    refine St0 ?_
    exact G.ret1 rfl rfl rfl rfl ⟨rfl, hEe.trans hef⟩
end Go.Proofs.YtefneilaongpbaaDoor
