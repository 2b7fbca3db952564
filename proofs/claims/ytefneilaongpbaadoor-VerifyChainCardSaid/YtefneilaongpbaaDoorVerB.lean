/-
  The program's list of what is digested, and a proof's root by it.
-/
import Derived.Test.YtefneilaongpbaaDoorVerA
set_option linter.unusedVariables false
set_option linter.unusedSimpArgs false
set_option maxRecDepth 100000
set_option maxHeartbeats 4000000
namespace Go.Proofs.YtefneilaongpbaaDoor
open Go Go.Bd Go.RowKit
attribute [local irreducible] G GL GQ

theorem vend_call (x : Prf) (u s : Value) (S : Where) (w : World) (h : PrfM S w x u s) (hl : x.val.length ≤ 1000) : Does Tryd.prog 89 #[prv x u s] w fun r w' => OwnB w.heap.size w' r (lowF x) ∧ Ext w w' := by
  refine call_walk Tryd.func89 (by kernel_rfl) rfl Tryd.ntmps89 rfl ?_
  obtain ⟨pu, cu, rfl, hcu⟩ := RdF.isSlice h.val
  refine St0 ?_
  refine GL.box rfl rfl rfl rfl fun b w1 hb hB he => ?_
  obtain ⟨hk, hen, ho, hv, hs⟩ := pat hB.all
  have s1 := he.size
  refine St1 (hen) ?_
  by_cases h1 : (x.en.toNat : Int) = 1
  · refine St0 ?_
    refine G.quietTail 4 follows (by kernel_rfl) (by kernel_rfl) (by kernel_rfl) (by kernel_rfl) ?_
    refine QSt1 (hv) ?_
    refine GQ.tail fun w2 he2 => ?_
    refine GL.buildSlice ([.slice (some ⟨b, 0, none⟩) 32 32] ++ [.slice pu x.val.length cu]) hT rfl rfl rfl rfl rfl rfl rfl (fillL_two rfl rfl rfl rfl (madeLen _ _)) fun b3 w3 hb3 hB3 he3 => ?_
    have he23 := he2.trans he3
    refine GL.call rfl rfl rfl (tagBytes_call 1 _ [x.key.1, x.val] any w3 (bs2 hB3 (rdKey (hk.ext he23)) (RdB.ext h.val (he.trans he23))) (by simp) (leaf_len _ hl)) ?_
    rintro r w4 ⟨ho4, he4⟩
    have s3 := he23.size
    refine St0 ?_
    exact G.ret1 rfl rfl rfl rfl ⟨by rw [lowF, if_pos (en1.1 h1)]; exact ho4.mono (by omega), he.trans (he23.trans he4)⟩
  have h1' := mt en1.2 h1
  refine St0 ?_
  by_cases h2 : (x.en.toNat : Int) = 2
  · refine St0 ?_
    refine G.quietTail 4 follows (by kernel_rfl) (by kernel_rfl) (by kernel_rfl) (by kernel_rfl) ?_
    refine QSt1 (hv) ?_
    refine GQ.tail fun w2 he2 => ?_
    refine GL.buildSlice ([.slice (some ⟨b, 33, none⟩) 32 32] ++ [.slice pu x.val.length cu]) hT rfl rfl rfl rfl rfl rfl rfl (fillL_two rfl rfl rfl rfl (madeLen _ _)) fun b3 w3 hb3 hB3 he3 => ?_
    have he23 := he2.trans he3
    refine GL.call rfl rfl rfl (tagBytes_call 1 _ [x.other.1, x.val] any w3 (bs2 hB3 (rdKey (ho.ext he23)) (RdB.ext h.val (he.trans he23))) (by simp) (leaf_len _ hl)) ?_
    rintro r w4 ⟨ho4, he4⟩
    have s3 := he23.size
    refine St0 ?_
    exact G.ret1 rfl rfl rfl rfl ⟨by rw [lowF, if_neg h1', if_pos (en2.1 h2)]; exact ho4.mono (by omega), he.trans (he23.trans he4)⟩
  have h2' := mt en2.2 h2
  refine St0 ?_
  refine GL.call rfl rfl rfl (tagBytes_call 0 (.slice none 0 0) [] any w1 (bs0 _ _ _) (by simp) (by decide)) ?_
  rintro r w4 ⟨ho4, he4⟩
  refine St0 ?_
  exact G.ret1 rfl rfl rfl rfl ⟨by rw [lowF, if_neg h1', if_neg h2']; exact ho4.mono (by omega), he.trans he4⟩

/-! one link up -/
theorem splice_low (a b x y : List Value) (ha : a.length = 32) (hb : b.length = 32) (hx : x.length = 32) (hy : y.length = 32) : splice (splice (a ++ b) 0 x) 32 y = x ++ y := by
  simp [splice, ha, hb, hx, hy, List.take_append, List.drop_append, List.take_of_length_le, List.drop_of_length_le]
theorem splice_high (a b x y : List Value) (ha : a.length = 32) (hb : b.length = 32) (hx : x.length = 32) (hy : y.length = 32) : splice (splice (a ++ b) 32 x) 0 y = y ++ x := by
  simp [splice, ha, hb, hx, hy, List.take_append, List.drop_append, List.take_of_length_le, List.drop_of_length_le]
theorem zero2 : ti120.zero = Dig.zero.cells ++ Dig.zero.cells := by rw [Dig.zero_cells]; rfl
theorem rev_last {x : Prf} {i : Nat} {ss : List Dig} {xs : List Bytes} (h : xs = (fromL x i ss).reverse) : xs[xs.length - 1]? = some ((fromL x i ss).headD []) ∧ xs.length = ss.length + 1 := by
  have hl : xs.length = ss.length + 1 := by rw [h, List.length_reverse, fromL_len]
  refine ⟨?_, hl⟩
  rw [h, List.length_reverse, fromL_len, List.getElem?_reverse (by rw [fromL_len]; omega), fromL_len, show ss.length + 1 - 1 - (ss.length + 1 - 1) = 0 by omega, fromL_head]
theorem up_call (x : Prf) (u s : Value) (i : Nat) (sd : Dig) (ss : List Dig) (b1 b5 : Nat) (o : Value) (U : Nat) (w : World) (hx : x.sides[i]? = some sd) (hi : i < 256) (hss : ss = x.sides.drop (i + 1)) (hm : PrfM any w x u s) (hP : At any w b1 0 (pcells x u s)) (h1 : b1 < U) (hU : U ≤ b5)
    (hB5 : Blk w b5 38 [o]) (ho : OwnBs U w o (fromL x (i + 1) ss).reverse) (hsl : ss.length ≤ 300) (hv : x.val.length ≤ 1000) (hK : Kt w) :
    Does Tryd.prog 90 #[iv i, ptr b5 0, ptr b1 0] w fun r w' => (∃ o', Blk w' b5 38 [o'] ∧ OwnBs U w' o' (fromL x i (sd :: ss)).reverse) ∧ Below U w w' := by
  refine call_walk Tryd.func90 (by kernel_rfl) rfl Tryd.ntmps90 rfl ?_
  obtain ⟨p, c, rfl⟩ := ho.shape
  obtain ⟨hlast, hlen⟩ := rev_last (x := x) (i := i + 1) (ss := ss) rfl
  have l5 := hB5.lt
  obtain ⟨hk, hen, hot, hv', hsd⟩ := pat hP
  obtain ⟨bo, oo, co, uo, hvo, huo, hAo⟩ := ho.rd.elem hlast
  have h_sides := RdD.elem hm.sides hx
  have hilt : i < x.sides.length := (List.getElem?_eq_some_iff.1 hx).1
  cases hvo
  have hsmall := fromL_small x hv (i + 1) ss
  generalize hN : (fromL x (i + 1) ss).reverse.length = N at *
  have hbl : ((fromL x (i + 1) ss).headD []).length ≤ 2000 := hsmall _ (List.mem_of_getElem? (fromL_head x (i + 1) ss))
  refine St1 (hB5.all) ?_
  (refine GL.indexSlice ((N - 1)) 1 ((oo + (N - 1))) hT rfl rfl rfl rfl rfl rfl rfl rfl ?_ ?_ ?_ ?_; (focus omega); (focus omega); (focus omega))
  refine St1 (hAo) ?_
  refine GL.buildSlice [uo] hT rfl rfl rfl rfl rfl rfl rfl (fillL_one (RdF.some huo) rfl (madeLen _ _)) fun b14 w2 hb14 hB14 he2 => ?_
  refine GL.call rfl rfl rfl (shaOf_call _ _ any w2 (bs1 hB14 (RdB.ext huo he2)) (by omega) (hK.ext he2)) ?_
  rintro r w3 ⟨rfl, he3⟩
  have he := he2.trans he3
  refine GL.alloc hT rfl rfl rfl fun b4 w4 hb4 hB4 he4 => ?_
  have l4 := hB4.lt
  refine GL.storeVar hT rfl rfl rfl rfl rfl (Dig.len _) (Dig.one _) hB4 (by rw [Dig.len]; rfl) fun w5 hc5 hB5' => ?_
  have s3 := he.size
  have s4 := he4.size
  have hw5 : Ext w w5 := hc5.below (by omega) (he.trans he4)
  refine St1 ((hk.ext hw5)) ?_
  refine GL.call rfl rfl rfl (bit_call x.key i hi w5) ?_
  rintro r w6 ⟨rfl, he6⟩
  refine St0 ?_
  refine GL.alloc hT rfl rfl rfl fun b7 w7 hb7 hB7 he7 => ?_
  have l7 := hB7.lt
  have s5 := hw5.size
  have s6 := he6.size
  have s7 := he7.size
  have hB47 := (hB5'.ext he6).ext he7
  have l47 := hB47.lt
  rw [zero2] at hB7
  have hw7 : Ext w w7 := hw5.trans (he6.trans he7)
  generalize hbel : shaD ((fromL x (i + 1) ss).headD []) = bel at *
  obtain ⟨bs, os, cs, hvs, hAs⟩ := h_sides
  subst hvs
  have hbl' := x.key.bit_lt i
  have z32 := Dig.len Dig.zero
  have be32 := Dig.len bel
  have sd32 := Dig.len sd
  rcases (show x.key.bit i = 0 ∨ x.key.bit i = 1 by omega) with hbit | hbit
  · rw [hbit]
    refine St0 ?_
    refine G.drawW 10 12 [0, 2, 2, 0, 0, 0, 0, 0, 0, 0, 3, 1, 4] [(0, iv i), (1, ptr b5 0), (2, ptr b1 0), (4, ptr b4 0), (5, .int .u8 0), (7, ptr b7 0)] (fun k v => match k with
      | 0 => Value.int .u8 0 = v | 1 => Value.int .u8 0 = v | 2 => Value.int .u8 1 = v | 3 => dv bel = v | 4 => ptr b1 66 = v | 5 => Value.slice (some ⟨bs, os, none⟩) x.sides.length cs = v | 6 => iv i = v | 7 => ptr bs (os + i * 32) = v
      | 8 => dv sd = v | 9 => ptr b7 0 = v | 11 => ptr b7 32 = v | _ => True) follows (by kernel_rfl) (by kernel_rfl) (by (repeat (first | exact Fr.sub_nil _ | refine Fr.sub_cons rfl ?_))) ?_
    intro w0 he0
    have hw0 : Ext w w0 := hw7.trans he0
    have hB0 := hB7.ext he0
    have hB1 := blk_put (o := 0) (vs := bel.cells) hB0
    have hB2 := blk_put (o := 32) (vs := sd.cells) hB1
    rw [splice_low _ _ _ _ z32 z32 be32 sd32] at hB2
    refine ⟨World.put w0 b7 0 bel.cells, World.put (World.put w0 b7 0 bel.cells) b7 32 sd.cells, ⟨?_, fun w' => ?_, fun w' => ?_, ?_, ?_, ?_, ?_, ?_, ?_, ?_, ?_, ?_, ?_, trivial⟩, ?_⟩
    · refine St0 ?_
      exact GL.val rfl rfl
    · refine St0 ?_
      exact GL.val rfl rfl
    · rintro v rfl
      refine GL.sub8 1 0 1 rfl rfl rfl rfl (by decide) (by decide) ?_
      exact GL.val rfl rfl
    · refine St1 ((hB47.ext he0).all) ?_
      exact GL.val rfl rfl
    · refine St0 ?_
      exact GL.val rfl rfl
    · rintro v rfl
      refine St1 (hsd.ext hw0) ?_
      exact GL.val rfl rfl
    · refine St0 ?_
      exact GL.val rfl rfl
    · rintro v rfl v rfl
      (refine GL.indexSlice (i) 32 ((os + i * 32)) hT rfl rfl rfl rfl rfl rfl rfl rfl ?_ ?_ ?_ ?_; (focus omega); (focus omega); (focus omega))
      exact GL.val rfl rfl
    · rintro v rfl
      refine St1 (hAs.ext hw0) ?_
      exact GL.val rfl rfl
    · rintro v rfl
      (refine GL.indexArr (0) 32 (0) hT rfl rfl rfl rfl rfl rfl rfl rfl ?_ ?_ ?_ ?_; (focus omega); (focus omega); (focus omega))
      exact GL.val rfl rfl
    · rintro v rfl v rfl
      refine GL.storeX (vs := bel.cells) hT rfl rfl rfl rfl rfl (Dig.len _) (Dig.one _) hB0 (by simp [z32, be32]) ?_
      exact GL.stop (by (repeat (first | exact Fr.sub_nil _ | refine Fr.sub_cons rfl ?_)))
    · rintro v rfl
      (refine GL.indexArr (1) 32 (32) hT rfl rfl rfl rfl rfl rfl rfl rfl ?_ ?_ ?_ ?_; (focus omega); (focus omega); (focus omega))
      exact GL.val rfl rfl
    · rintro v rfl v rfl
      refine GL.storeX (vs := sd.cells) hT rfl rfl rfl rfl rfl (Dig.len _) (Dig.one _) hB1 (by simp [z32, be32, sd32, splice]) ?_
      exact GL.stop (by (repeat (first | exact Fr.sub_nil _ | refine Fr.sub_cons rfl ?_)))
    have hw2 : Ext w (World.put (World.put w0 b7 0 bel.cells) b7 32 sd.cells) := below_put (below_put hw0 (by omega)) (by omega)
    generalize World.put (World.put w0 b7 0 bel.cells) b7 32 sd.cells = w8 at *
    have s8 := hw2.size
    have l78 := hB2.lt
    have htext : upB x i bel sd = tagB 2 [bel.1, sd.1] := by simp [upB, hbit]
    have hBx : At any w8 b7 0 bel.cells := hB2.all.sub [] bel.cells (q := sd.cells) rfl rfl
    have hBy : At any w8 b7 32 sd.cells := hB2.all.sub bel.cells sd.cells (q := []) (by simp) (by rw [Dig.len])
    refine St0 ?_
    refine G.draw 8 [(1, ptr b5 0), (7, ptr b7 0)] (fun k v w' => match k with
      | 0 => Value.slice (some ⟨bo, oo, none⟩) N c = v | 1 => ptr b7 0 = v | 2 => Value.slice (some ⟨b7, 0, none⟩) 32 32 = v | 3 => ptr b7 32 = v | 4 => Value.slice (some ⟨b7, 32, none⟩) 32 32 = v
      | 5 => ∃ b, Value.slice (some ⟨b, 0, none⟩) 2 2 = v ∧ Blk w' b 32 [.slice (some ⟨b7, 0, none⟩) 32 32, .slice (some ⟨b7, 32, none⟩) 32 32]
      | 6 => OwnB w8.heap.size w' v (upB x i bel sd)
      | _ => ∃ b r, Value.slice (some ⟨b, 0, none⟩) 1 1 = v ∧ Blk w' b 32 [r] ∧ OwnB w8.heap.size w' r (upB x i bel sd)) follows (by kernel_rfl) (by kernel_rfl) (by kernel_rfl) (by kernel_rfl) (by (repeat (first | exact Fr.sub_nil _ | refine Fr.sub_cons rfl ?_))) ?_ ?_ ?_
    · intro k v w1 w2 he h
      rcases k with _ | _ | _ | _ | _ | _ | _ | k
      · exact h
      · exact h
      · exact h
      · exact h
      · exact h
      · obtain ⟨b, h1, h2⟩ := h; exact ⟨b, h1, h2.ext he⟩
      · exact Own.ext h he
      · obtain ⟨b, r, h1, h2, h3⟩ := h; exact ⟨b, r, h1, h2.ext he, Own.ext h3 he⟩
    · intro w9 he9
      have hs9 := he9.size
      refine ⟨fun w' he' => ?_, fun w' he' => ?_, fun w' he' => ?_, fun w' he' => ?_, fun w' he' => ?_, fun w' he' => ?_, fun w' he' => ?_, fun w' he' => ?_, trivial⟩
      · refine St1 ((hB5.ext (hw2.trans (he9.trans he'))).all) ?_
        exact GL.fact rfl (Ext.refl _) (by rfl)
      · (refine GL.indexArr (0) 32 (0) hT rfl rfl rfl rfl rfl rfl rfl rfl ?_ ?_ ?_ ?_; (focus omega); (focus omega); (focus omega))
        exact GL.fact rfl (Ext.refl _) (by rfl)
      · rintro v rfl
        refine St0 ?_
        exact GL.fact rfl (Ext.refl _) (by rfl)
      · (refine GL.indexArr (1) 32 (32) hT rfl rfl rfl rfl rfl rfl rfl rfl ?_ ?_ ?_ ?_; (focus omega); (focus omega); (focus omega))
        exact GL.fact rfl (Ext.refl _) (by rfl)
      · rintro v rfl
        refine St0 ?_
        exact GL.fact rfl (Ext.refl _) (by rfl)
      · rintro v rfl v rfl
        refine GL.buildSlice ([.slice (some ⟨b7, 0, none⟩) 32 32] ++ [.slice (some ⟨b7, 32, none⟩) 32 32]) hT rfl rfl rfl rfl rfl rfl rfl (fillL_two rfl rfl rfl rfl (madeLen _ _)) fun b9 w10 hb9 hB9 he10 => ?_
        exact GL.fact rfl he10 ⟨b9, rfl, hB9⟩
      · rintro v ⟨b9, rfl, hB9⟩
        refine GL.call rfl rfl rfl (tagBytes_call 2 _ [bel.1, sd.1] any w' (bs2 hB9 (rdKey (hBx.ext (he9.trans he'))) (rdKey (hBy.ext (he9.trans he')))) (by simp) (two_len _ _)) ?_
        rintro r w10 ⟨hr, he10⟩
        have := he'.size
        exact GL.fact rfl he10 (by rw [htext]; exact hr.mono (by omega))
      · rintro v hv6
        refine GL.buildSlice [v] hT rfl rfl rfl rfl rfl rfl rfl (fillL_one hv6.some rfl (madeLen _ _)) fun b9 w10 hb9 hB9 he10 => ?_
        exact GL.fact rfl he10 ⟨b9, v, rfl, hB9, Own.ext hv6 he10⟩
    · rintro w9 he9 v0 rfl v1 rfl v2 rfl v3 rfl v4 rfl v5 - v6 - v7 ⟨b9, r, rfl, hB9, hr⟩
      have hw9 : Ext w w9 := hw2.trans he9
      have s9 := hw9.size
      obtain ⟨us, hus, hown⟩ := ho.ext hw9
      rw [hN] at hown
      have hB5' := hB5.ext hw9
      refine GL.append hT rfl rfl rfl rfl rfl rfl rfl rfl rfl rfl hown (S := any) (news := [r]) ⟨_, 1, rfl, Nat.le_refl _, .inr ⟨b9, 0, rfl, hB9.all⟩⟩ rfl (by simpa using hr.one) (by show (N + 1) * 24 ≤ _; omega) (by omega) (by omega) fun r' w10 ho10 hb10 hr10 => ?_
      have hne := own_ne hown hB5' (by decide)
      have hB5'' := hB5'.keep (hb10.block b5 hB5'.lt (fun e => hne e.symm))
      have hus' := (All2.append hus (.cons (hr.mono (show U ≤ w8.heap.size by omega)) .nil)).imp (fun u y h => h)
      have hall := bytesBut hus' hown hb10
      obtain ⟨p', c', rfl⟩ := ho10.shape
      refine GL.store1 hT rfl rfl rfl rfl rfl rfl rfl hB5'' (by simp) fun w11 hc11 hB11 => ?_
      refine St0 ?_
      refine G.end0 rfl rfl rfl ⟨⟨_, hB11, us ++ [r], ?_, ?_⟩, ?_⟩
      · rw [fromL, List.reverse_cons, hbel]
        exact hall.imp fun u y h => own_keep h hB5'' (by decide) hc11
      · rw [fromL, List.reverse_cons, List.length_append, hN]
        exact own_keep ho10 hB5'' (by decide) hc11
      · exact hc11.below (by omega) (hb10.below (fun q hq => (hown.row hq).1) (by omega) (hw9.mono (by omega)))
  · rw [hbit]
    refine St0 ?_
    refine G.drawW 10 12 [0, 2, 2, 0, 0, 0, 0, 0, 0, 0, 3, 1, 4] [(0, iv i), (1, ptr b5 0), (2, ptr b1 0), (4, ptr b4 0), (5, .int .u8 1), (7, ptr b7 0)] (fun k v => match k with
      | 0 => Value.int .u8 1 = v | 1 => Value.int .u8 1 = v | 2 => Value.int .u8 0 = v | 3 => dv bel = v | 4 => ptr b1 66 = v | 5 => Value.slice (some ⟨bs, os, none⟩) x.sides.length cs = v | 6 => iv i = v | 7 => ptr bs (os + i * 32) = v
      | 8 => dv sd = v | 9 => ptr b7 32 = v | 11 => ptr b7 0 = v | _ => True) follows (by kernel_rfl) (by kernel_rfl) (by (repeat (first | exact Fr.sub_nil _ | refine Fr.sub_cons rfl ?_))) ?_
    intro w0 he0
    have hw0 : Ext w w0 := hw7.trans he0
    have hB0 := hB7.ext he0
    have hB1 := blk_put (o := 32) (vs := bel.cells) hB0
    have hB2 := blk_put (o := 0) (vs := sd.cells) hB1
    rw [splice_high _ _ _ _ z32 z32 be32 sd32] at hB2
    refine ⟨World.put w0 b7 32 bel.cells, World.put (World.put w0 b7 32 bel.cells) b7 0 sd.cells, ⟨?_, fun w' => ?_, fun w' => ?_, ?_, ?_, ?_, ?_, ?_, ?_, ?_, ?_, ?_, ?_, trivial⟩, ?_⟩
    · refine St0 ?_
      exact GL.val rfl rfl
    · refine St0 ?_
      exact GL.val rfl rfl
    · rintro v rfl
      refine GL.sub8 1 1 0 rfl rfl rfl rfl (by decide) (by decide) ?_
      exact GL.val rfl rfl
    · refine St1 ((hB47.ext he0).all) ?_
      exact GL.val rfl rfl
    · refine St0 ?_
      exact GL.val rfl rfl
    · rintro v rfl
      refine St1 (hsd.ext hw0) ?_
      exact GL.val rfl rfl
    · refine St0 ?_
      exact GL.val rfl rfl
    · rintro v rfl v rfl
      (refine GL.indexSlice (i) 32 ((os + i * 32)) hT rfl rfl rfl rfl rfl rfl rfl rfl ?_ ?_ ?_ ?_; (focus omega); (focus omega); (focus omega))
      exact GL.val rfl rfl
    · rintro v rfl
      refine St1 (hAs.ext hw0) ?_
      exact GL.val rfl rfl
    · rintro v rfl
      (refine GL.indexArr (1) 32 (32) hT rfl rfl rfl rfl rfl rfl rfl rfl ?_ ?_ ?_ ?_; (focus omega); (focus omega); (focus omega))
      exact GL.val rfl rfl
    · rintro v rfl v rfl
      refine GL.storeX (vs := bel.cells) hT rfl rfl rfl rfl rfl (Dig.len _) (Dig.one _) hB0 (by simp [z32, be32]) ?_
      exact GL.stop (by (repeat (first | exact Fr.sub_nil _ | refine Fr.sub_cons rfl ?_)))
    · rintro v rfl
      (refine GL.indexArr (0) 32 (0) hT rfl rfl rfl rfl rfl rfl rfl rfl ?_ ?_ ?_ ?_; (focus omega); (focus omega); (focus omega))
      exact GL.val rfl rfl
    · rintro v rfl v rfl
      refine GL.storeX (vs := sd.cells) hT rfl rfl rfl rfl rfl (Dig.len _) (Dig.one _) hB1 (by simp [z32, be32, sd32, splice]) ?_
      exact GL.stop (by (repeat (first | exact Fr.sub_nil _ | refine Fr.sub_cons rfl ?_)))
    have hw2 : Ext w (World.put (World.put w0 b7 32 bel.cells) b7 0 sd.cells) := below_put (below_put hw0 (by omega)) (by omega)
    generalize World.put (World.put w0 b7 32 bel.cells) b7 0 sd.cells = w8 at *
    have s8 := hw2.size
    have l78 := hB2.lt
    have htext : upB x i bel sd = tagB 2 [sd.1, bel.1] := by simp [upB, hbit]
    have hBx : At any w8 b7 0 sd.cells := hB2.all.sub [] sd.cells (q := bel.cells) rfl rfl
    have hBy : At any w8 b7 32 bel.cells := hB2.all.sub sd.cells bel.cells (q := []) (by simp) (by rw [Dig.len])
    refine St0 ?_
    refine G.draw 8 [(1, ptr b5 0), (7, ptr b7 0)] (fun k v w' => match k with
      | 0 => Value.slice (some ⟨bo, oo, none⟩) N c = v | 1 => ptr b7 0 = v | 2 => Value.slice (some ⟨b7, 0, none⟩) 32 32 = v | 3 => ptr b7 32 = v | 4 => Value.slice (some ⟨b7, 32, none⟩) 32 32 = v
      | 5 => ∃ b, Value.slice (some ⟨b, 0, none⟩) 2 2 = v ∧ Blk w' b 32 [.slice (some ⟨b7, 0, none⟩) 32 32, .slice (some ⟨b7, 32, none⟩) 32 32]
      | 6 => OwnB w8.heap.size w' v (upB x i bel sd)
      | _ => ∃ b r, Value.slice (some ⟨b, 0, none⟩) 1 1 = v ∧ Blk w' b 32 [r] ∧ OwnB w8.heap.size w' r (upB x i bel sd)) follows (by kernel_rfl) (by kernel_rfl) (by kernel_rfl) (by kernel_rfl) (by (repeat (first | exact Fr.sub_nil _ | refine Fr.sub_cons rfl ?_))) ?_ ?_ ?_
    · intro k v w1 w2 he h
      rcases k with _ | _ | _ | _ | _ | _ | _ | k
      · exact h
      · exact h
      · exact h
      · exact h
      · exact h
      · obtain ⟨b, h1, h2⟩ := h; exact ⟨b, h1, h2.ext he⟩
      · exact Own.ext h he
      · obtain ⟨b, r, h1, h2, h3⟩ := h; exact ⟨b, r, h1, h2.ext he, Own.ext h3 he⟩
    · intro w9 he9
      have hs9 := he9.size
      refine ⟨fun w' he' => ?_, fun w' he' => ?_, fun w' he' => ?_, fun w' he' => ?_, fun w' he' => ?_, fun w' he' => ?_, fun w' he' => ?_, fun w' he' => ?_, trivial⟩
      · refine St1 ((hB5.ext (hw2.trans (he9.trans he'))).all) ?_
        exact GL.fact rfl (Ext.refl _) (by rfl)
      · (refine GL.indexArr (0) 32 (0) hT rfl rfl rfl rfl rfl rfl rfl rfl ?_ ?_ ?_ ?_; (focus omega); (focus omega); (focus omega))
        exact GL.fact rfl (Ext.refl _) (by rfl)
      · rintro v rfl
        refine St0 ?_
        exact GL.fact rfl (Ext.refl _) (by rfl)
      · (refine GL.indexArr (1) 32 (32) hT rfl rfl rfl rfl rfl rfl rfl rfl ?_ ?_ ?_ ?_; (focus omega); (focus omega); (focus omega))
        exact GL.fact rfl (Ext.refl _) (by rfl)
      · rintro v rfl
        refine St0 ?_
        exact GL.fact rfl (Ext.refl _) (by rfl)
      · rintro v rfl v rfl
        refine GL.buildSlice ([.slice (some ⟨b7, 0, none⟩) 32 32] ++ [.slice (some ⟨b7, 32, none⟩) 32 32]) hT rfl rfl rfl rfl rfl rfl rfl (fillL_two rfl rfl rfl rfl (madeLen _ _)) fun b9 w10 hb9 hB9 he10 => ?_
        exact GL.fact rfl he10 ⟨b9, rfl, hB9⟩
      · rintro v ⟨b9, rfl, hB9⟩
        refine GL.call rfl rfl rfl (tagBytes_call 2 _ [sd.1, bel.1] any w' (bs2 hB9 (rdKey (hBx.ext (he9.trans he'))) (rdKey (hBy.ext (he9.trans he')))) (by simp) (two_len _ _)) ?_
        rintro r w10 ⟨hr, he10⟩
        have := he'.size
        exact GL.fact rfl he10 (by rw [htext]; exact hr.mono (by omega))
      · rintro v hv6
        refine GL.buildSlice [v] hT rfl rfl rfl rfl rfl rfl rfl (fillL_one hv6.some rfl (madeLen _ _)) fun b9 w10 hb9 hB9 he10 => ?_
        exact GL.fact rfl he10 ⟨b9, v, rfl, hB9, Own.ext hv6 he10⟩
    · rintro w9 he9 v0 rfl v1 rfl v2 rfl v3 rfl v4 rfl v5 - v6 - v7 ⟨b9, r, rfl, hB9, hr⟩
      have hw9 : Ext w w9 := hw2.trans he9
      have s9 := hw9.size
      obtain ⟨us, hus, hown⟩ := ho.ext hw9
      rw [hN] at hown
      have hB5' := hB5.ext hw9
      refine GL.append hT rfl rfl rfl rfl rfl rfl rfl rfl rfl rfl hown (S := any) (news := [r]) ⟨_, 1, rfl, Nat.le_refl _, .inr ⟨b9, 0, rfl, hB9.all⟩⟩ rfl (by simpa using hr.one) (by show (N + 1) * 24 ≤ _; omega) (by omega) (by omega) fun r' w10 ho10 hb10 hr10 => ?_
      have hne := own_ne hown hB5' (by decide)
      have hB5'' := hB5'.keep (hb10.block b5 hB5'.lt (fun e => hne e.symm))
      have hus' := (All2.append hus (.cons (hr.mono (show U ≤ w8.heap.size by omega)) .nil)).imp (fun u y h => h)
      have hall := bytesBut hus' hown hb10
      obtain ⟨p', c', rfl⟩ := ho10.shape
      refine GL.store1 hT rfl rfl rfl rfl rfl rfl rfl hB5'' (by simp) fun w11 hc11 hB11 => ?_
      refine St0 ?_
      refine G.end0 rfl rfl rfl ⟨⟨_, hB11, us ++ [r], ?_, ?_⟩, ?_⟩
      · rw [fromL, List.reverse_cons, hbel]
        exact hall.imp fun u y h => own_keep h hB5'' (by decide) hc11
      · rw [fromL, List.reverse_cons, List.length_append, hN]
        exact own_keep ho10 hB5'' (by decide) hc11
      · exact hc11.below (by omega) (hb10.below (fun q hq => (hown.row hq).1) (by omega) (hw9.mono (by omega)))

/-! the list -/
noncomputable def inputsP (x : Prf) : List Bytes := if mayB x then fromP x else []
theorem inputs_call (x : Prf) (u s : Value) (S : Where) (w : World) (h : PrfM S w x u s) (hv : x.val.length ≤ 1000) (hsl : x.sides.length ≤ 300) (hK : Kt w) :
    Does Tryd.prog 28 #[prv x u s] w fun r w' => ∃ v, r = .tuple #[v, iv (badE (mayB x))] ∧ OwnBs w.heap.size w' v (inputsP x) ∧ Ext w w' := by
  refine call_walk Tryd.func28 (by kernel_rfl) rfl Tryd.ntmps28 rfl ?_
  refine St0 ?_
  refine GL.box rfl rfl rfl rfl fun b1 w1 hb1 hB1 he1 => ?_
  have l1 := hB1.lt
  refine St0 ?_
  refine GL.loadN hT rfl rfl rfl rfl rfl hB1.all (pcells_len x u s) ?_
  refine GL.call rfl rfl rfl (check_call x u s S w1 (h.ext he1)) ?_
  rintro r w2 ⟨rfl, he2⟩
  have s1 := he1.size
  have s2 := he2.size
  cases hok : mayB x
  · have e1 : badE false = 8 := rfl
    rw [e1]
    refine St0 ?_
    exact G.ret2 rfl rfl rfl rfl rfl ⟨_, rfl, by rw [inputsP, hok]; exact OwnBs.bare _ _ none, he1.trans he2⟩
  have e1 : badE true = 0 := rfl
  rw [e1]
  replace hB1 := hB1.ext he2
  refine St0 ?_
  refine GL.loadN hT rfl rfl rfl rfl rfl hB1.all (pcells_len x u s) ?_
  refine GL.call rfl rfl rfl (vend_call x u s S w2 (h.ext (he1.trans he2)) hv) ?_
  rintro r w3 ⟨hr, he3⟩
  have s3 := he3.size
  refine GL.buildSlice [r] hT rfl rfl rfl rfl rfl rfl rfl (fillL_one hr.some rfl (madeLen _ _)) fun b16 w4 hb16 hB16 he4 => ?_
  have s4 := he4.size
  have l16 := hB16.lt
  refine GL.alloc hT rfl rfl rfl fun b5 w5 hb5 hB5 he5 => ?_
  have l5 := hB5.lt
  have s5 := he5.size
  refine GL.store1 hT rfl rfl rfl rfl rfl rfl rfl hB5 (by show 0 < 1; omega) fun w6 hc6 hB6 => ?_
  have hw3 := he1.trans (he2.trans he3)
  have hw5 := hw3.trans (he4.trans he5)
  have hw6 : Ext w w6 := hc6.below (by omega) hw5
  have hB1' : Blk w6 b1 35 (pcells x u s) := (((hB1.ext he3).ext he4).ext he5).chg hc6 (by omega)
  have hO : OwnBs (b1 + 1) w6 (.slice (some ⟨b16, 0, none⟩) 1 1) (fromL x x.sides.length []).reverse := by
    refine ⟨[r], .cons ?_ .nil, rfl, .inr ⟨b16, 1, [], rfl, by omega, Nat.le_refl _, ?_, rfl⟩⟩
    · exact Own.keep (Own.mono ((hr.ext he4).ext he5) (by omega)) (fun g hg hl => hc6.block g (fun e => by have := ((hr.ext he4).row hg).2; omega)) (by decide)
    · rw [List.append_nil]; exact (hB16.ext he5).chg hc6 (by omega)
  refine St1 ((pat hB1'.all).2.2.2.2) ?_
  obtain ⟨ps, cs, rfl, hcs⟩ := RdF.isSlice h.sides
  refine St0 ?_
  have hss : ∀ j, j ≤ x.sides.length → (x.sides.drop j).length = x.sides.length - j := fun j hj => by rw [List.length_drop]
  refine G.sub (f' := [(22, iv ((0 : Nat) : Int)), (21, iv (x.sides.length : Nat)), (7, .func (.func 90) #[] #[ptr b5 0, ptr b1 0]), (6, iv (x.sides.length : Nat)), (5, ptr b5 0), (1, ptr b1 0)]) (by (repeat (first | exact Fr.sub_nil _ | refine Fr.sub_cons rfl ?_))) ?_
  refine G.rounds (α := Nat) (fun j f w' => j ≤ x.sides.length ∧ Ext w w' ∧ Blk w' b1 35 (pcells x u (.slice ps x.sides.length cs)) ∧ (∃ o, Blk w' b5 38 [o] ∧ OwnBs (b1 + 1) w' o (fromL x (x.sides.length - j) (x.sides.drop (x.sides.length - j))).reverse) ∧
    f = [(22, iv j), (21, iv (x.sides.length : Nat)), (7, .func (.func 90) #[] #[ptr b5 0, ptr b1 0]), (6, iv (x.sides.length : Nat)), (5, ptr b5 0), (1, ptr b1 0)]) (fun j => x.sides.length - j) ?round 0 ⟨by omega, hw6, hB1', ⟨_, hB6, by rw [Nat.sub_zero, List.drop_length]; exact hO⟩, rfl⟩
  clear hB1 hB1' hO hB16 hB5 hB6 hc6
  rintro j f w7 ⟨hj, he7, hB1, ⟨o, hB5, hO⟩, rfl⟩ again
  have hs7 := he7.size
  have l57 := hB5.lt
  by_cases hlt : (j : Int) < x.sides.length
  · obtain ⟨i, hi⟩ : ∃ i : Nat, x.sides.length = i + 1 + j := ⟨x.sides.length - 1 - j, by omega⟩
    have e3 : (x.sides.length : Int) - 1 - (j : Int) = (i : Int) := by omega
    obtain ⟨sd, hsd⟩ : ∃ sd, x.sides[i]? = some sd := ⟨_, List.getElem?_eq_getElem (by omega)⟩
    have hi256 : i < 256 := by
      have : x.sides.length ≤ 256 := by simp only [mayB, Bool.and_eq_true, decide_eq_true_eq] at hok; exact hok.1
      omega
    have hd : x.sides.drop i = sd :: x.sides.drop (i + 1) := by
      obtain ⟨hlt', rfl⟩ := List.getElem?_eq_some_iff.1 hsd
      exact List.drop_eq_getElem_cons hlt'
    rw [show x.sides.length - j = i + 1 by omega] at hO
    refine St0 ?_
    rw [e3]
    refine GL.callv (first := []) (cap := [ptr b5 0, ptr b1 0]) rfl rfl rfl rfl (up_call x u _ i sd _ b1 b5 o (b1 + 1) w7 hsd hi256 rfl ((h.ext he7).imp fun _ _ _ => trivial) hB1.all (by omega) (by omega) hB5 hO (by rw [List.length_drop]; omega) hv (hK.ext he7)) ?_
    rintro r' w8 ⟨⟨o', hB8, hO8⟩, hbel⟩
    refine St0 ?_
    refine G.sub (by (repeat (first | exact Fr.sub_nil _ | refine Fr.sub_cons rfl ?_))) (again (j + 1) _ _ (by omega) ⟨by omega, Below.trans he7 (hbel.mono (by omega)), hB1.keep (hbel.block b1 (by omega)), ⟨o', hB8, ?_⟩, rfl⟩)
    rw [show x.sides.length - (j + 1) = i by omega, hd]
    exact hO8
  · obtain rfl : j = x.sides.length := by omega
    rw [Nat.sub_self, List.drop_zero] at hO
    refine St1 (hB5.all) ?_
    refine GL.call rfl rfl rfl (reverse_call o _ (b1 + 1) w7 hO (by rw [List.length_reverse, fromL_len]; omega)) ?_
    rintro r' w8 ⟨hO8, hbut⟩
    rw [List.reverse_reverse] at hO8
    obtain ⟨us, hus, hown⟩ := hO
    have hB8 := hB5.keep (hbut.block b5 hB5.lt (fun e => own_ne hown hB5 (by decide) e.symm))
    refine St1 (hB8.all) ?_
    exact G.ret2 rfl rfl rfl rfl rfl ⟨_, rfl, by rw [inputsP, hok]; exact hO8.mono (by omega), hbut.below (fun q hq => by have := (hown.row hq).1; omega) (by omega) he7⟩
theorem inputsP_head {x : Prf} (h : mayB x = true) : (inputsP x)[0]? = some ((fromP x).headD []) ∧ (inputsP x).length = x.sides.length + 1 := by
  rw [inputsP, h]
  exact ⟨fromL_head x 0 _, fromL_len x 0 _⟩
noncomputable def rootV (x : Prf) : Dig := if mayB x then shaD ((fromP x).headD []) else Dig.zero
theorem vroot_call (x : Prf) (u s : Value) (S : Where) (w : World) (h : PrfM S w x u s) (hv : x.val.length ≤ 1000) (hsl : x.sides.length ≤ 300) (hK : Kt w) :
    Does Tryd.prog 30 #[prv x u s] w fun r w' => r = .tuple #[dv (rootV x), iv (badE (mayB x))] ∧ Ext w w' := by
  refine call_walk Tryd.func30 (by kernel_rfl) rfl Tryd.ntmps30 rfl ?_
  refine St0 ?_
  refine GL.box rfl rfl rfl rfl fun b1 w1 hb1 hB1 he1 => ?_
  refine GL.alloc hT rfl rfl rfl fun b2 w2 hb2 hB2 he2 => ?_
  have l2 := hB2.lt
  have he12 := he1.trans he2
  have s12 := he12.size
  have s1 := he1.size
  replace hB1 := hB1.ext he2
  refine St0 ?_
  refine GL.loadN hT rfl rfl rfl rfl rfl hB1.all (pcells_len x u s) ?_
  refine GL.call rfl rfl rfl (inputs_call x u s S w2 (h.ext he12) hv hsl (hK.ext he12)) ?_
  rintro r w3 ⟨v, rfl, hO, he3⟩
  replace hB2 := hB2.ext he3
  have he13 := he12.trans he3
  cases hok : mayB x
  · have e1 : badE false = 8 := rfl
    rw [e1]
    refine St0 ?_
    refine GL.storeVar hT rfl rfl rfl rfl rfl (Dig.len _) (Dig.one _) hB2 (by rw [Dig.len]; rfl) fun w4 hc4 hB4 => ?_
    refine St0 ?_
    exact G.retNt rfl rfl hT rfl rfl rfl rfl rfl hB4.all (Dig.len _) ⟨by rw [rootV, hok]; rfl, hc4.below (by omega) he13⟩
  have e1 : badE true = 0 := rfl
  rw [e1]
  obtain ⟨hh, hl⟩ := inputsP_head hok
  obtain ⟨bo, oo, co, uo, hvo, huo, hAo⟩ := hO.rd.elem hh
  cases hvo
  have hsmall : ((fromP x).headD []).length ≤ 2000 := fromL_small x hv 0 x.sides _ (List.mem_of_getElem? (fromL_head x 0 _))
  refine St0 ?_
  (refine GL.indexSlice (0) 1 (oo) hT rfl rfl rfl rfl rfl rfl rfl rfl ?_ ?_ ?_ ?_; (focus omega); (focus omega); (focus omega))
  refine St1 (hAo) ?_
  refine GL.buildSlice [uo] hT rfl rfl rfl rfl rfl rfl rfl (fillL_one (RdF.some huo) rfl (madeLen _ _)) fun b4 w4 hb4 hB4 he4 => ?_
  refine GL.call rfl rfl rfl (shaOf_call _ _ any w4 (bs1 hB4 (RdB.ext huo he4)) (by omega) (hK.ext (he13.trans he4))) ?_
  rintro r w5 ⟨rfl, he5⟩
  have he15 := he13.trans (he4.trans he5)
  replace hB2 := hB2.ext he4
  replace hB2 := hB2.ext he5
  refine GL.storeVar hT rfl rfl rfl rfl rfl (Dig.len _) (Dig.one _) hB2 (by rw [Dig.len]; rfl) fun w6 hc6 hB6 => ?_
  refine St0 ?_
  exact G.retNt rfl rfl hT rfl rfl rfl rfl rfl hB6.all (Dig.len _) ⟨by rw [rootV, hok]; rfl, hc6.below (by omega) he15⟩
noncomputable def fitsB (x : Prf) (d : Dig) : Bool := mayB x && decide (rootV x = d)
theorem vfits_call (x : Prf) (d : Dig) (u s : Value) (S : Where) (w : World) (h : PrfM S w x u s) (hv : x.val.length ≤ 1000) (hsl : x.sides.length ≤ 300) (hK : Kt w) :
    Does Tryd.prog 33 #[prv x u s, dv d] w fun r w' => r = .bool (fitsB x d) ∧ Ext w w' := by
  refine call_walk Tryd.func33 (by kernel_rfl) rfl Tryd.ntmps33 rfl ?_
  refine St0 ?_
  refine GL.box rfl rfl rfl rfl fun b1 w1 hb1 hB1 he1 => ?_
  refine GL.box rfl rfl rfl rfl fun b2 w2 hb2 hB2 he2 => ?_
  have he12 := he1.trans he2
  replace hB1 := hB1.ext he2
  refine St0 ?_
  refine GL.loadN hT rfl rfl rfl rfl rfl hB1.all (pcells_len x u s) ?_
  refine GL.call rfl rfl rfl (vroot_call x u s S w2 (h.ext he12) hv hsl (hK.ext he12)) ?_
  rintro r w3 ⟨rfl, he3⟩
  refine St0 ?_
  refine GL.alloc hT rfl rfl rfl fun b5 w4 hb5 hB5 he4 => ?_
  have l5 := hB5.lt
  have l2 := hB2.lt
  have s3 := he3.size
  have he14 := he12.trans (he3.trans he4)
  have s12 := he12.size
  refine GL.storeVar hT rfl rfl rfl rfl rfl (Dig.len _) (Dig.one _) hB5 (by rw [Dig.len]; rfl) fun w5 hc5 hB5 => ?_
  replace hB2 := ((hB2.ext he3).ext he4).chg hc5 (by omega)
  have he15 : Ext w w5 := hc5.below (by omega) he14
  cases hok : mayB x
  · have e1 : badE false = 8 := rfl
    rw [e1]
    refine St2 (hB5.all) (hB2.all) ?_
    exact G.ret1 rfl rfl rfl rfl ⟨by rw [fitsB, hok]; rfl, he15⟩
  have e1 : badE true = 0 := rfl
  rw [e1]
  by_cases hd : rootV x = d
  · refine St2 (hB5.all) (hB2.all) ?_
    exact G.ret1 rfl rfl rfl rfl ⟨by simp [fitsB, hok, hd], he15⟩
  · refine St2 (hB5.all) (hB2.all) ?_
    exact G.ret1 rfl rfl rfl rfl ⟨by simp [fitsB, hok, hd], he15⟩
end Go.Proofs.YtefneilaongpbaaDoor
