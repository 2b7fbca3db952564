/-
  The law PairsNames: limits, errors, the chapter's examples.
-/
import Derived.Test.YtefneilaongpbaaDoorPairsW
set_option linter.unusedVariables false
set_option linter.unusedSimpArgs false
set_option maxRecDepth 100000
set_option maxHeartbeats 8000000
namespace Go.Proofs.YtefneilaongpbaaDoor
open Go Go.Bd Go.RowKit
attribute [local irreducible] G GL GQ GS shaD
def p3 : Pair := ⟨key1 3, [97]⟩
def p9 : Pair := ⟨key1 9, [99]⟩
def p3x : Pair := ⟨key1 3, [120]⟩
def p200 : Pair := ⟨key1 200, [98]⟩
def lA : Dig := leafD (key1 3) [97]
def lB : Dig := leafD (key1 200) [98]
theorem pairs_ok {x y : Pair} (hx : valB x.val.length = true) (hy : valB y.val.length = true) (hk : x.key.num < y.key.num) : MapOk [x, y] :=
  .of (by simp) (by intro z hz; simp at hz; rcases hz with rfl | rfl; exact hx; exact hy) (List.pairwise_cons.2 ⟨by intro z hz; simp at hz; subst hz; exact hk, List.pairwise_singleton ..⟩)
theorem ok39 : MapOk [p3, p9] := pairs_ok rfl rfl (key1_num (by decide))
theorem put39 : putE [p3, p9] (key1 3) [120] = 0 ∧ putL [p3, p9] (key1 3) [120] = [p3x, p9] := by
  have e : withL (without [p3, p9] (key1 3)) (key1 3) [120] = [p3x, p9] := by
    have h9 : p9.key ≠ key1 3 := key1_ne (by decide)
    have e3 : p3.key = key1 3 := rfl
    rw [show without [p3, p9] (key1 3) = [p9] by simp [without, e3, h9]]
    exact withL_split (A := []) (B := [p9]) (by intro x hx; cases hx) (by intro x hx; simp at hx; subst hx; exact key1_num (by decide))
  have h0 : putE [p3, p9] (key1 3) [120] = 0 := putE_iff.2 ⟨ok39, rfl, by rw [e]; simp⟩
  exact ⟨h0, by rw [putL_ok h0, e]⟩
theorem has4 : hasK [p3, p9] (key1 4) = false := by rfl
theorem got4 : gotB [p3, p9] (key1 4) = false := by rw [gotB, has4, Bool.and_false]
theorem drop4 : dropE [p3, p9] (key1 4) = 6 := by unfold dropE; rw [mapB_t ok39, has4]; rfl
theorem ok0 : MapOk [] := .of (by simp) (by simp) .nil
theorem root0 : rootE [] = noneD := by unfold rootE; rw [mapB_t ok0, if_pos rfl, rootAt_nil]
theorem ok1 : MapOk [p3] := .of (by simp) (by intro z hz; simp at hz; subst hz; rfl) (List.pairwise_singleton ..)
theorem root1 : rootE [p3] = lA := by unfold rootE; rw [mapB_t ok1, if_pos rfl, rootAt_one]; rfl
theorem ok2 : MapOk [p3, p200] := pairs_ok rfl rfl (key1_num (by decide))
theorem root2 : rootE [p3, p200] = twoD lA lB := by
  have b3 : (key1 3).bit 0 = 0 := by rfl
  have b200 : (key1 200).bit 0 = 1 := by rfl
  have f0 : [p3, p200].filter (bitIs 0 0) = [p3] := by simp [p3, p200, bitIs, b3, b200]
  have f1 : [p3, p200].filter (bitIs 0 1) = [p200] := by simp [p3, p200, bitIs, b3, b200]
  unfold rootE
  rw [mapB_t ok2, if_pos rfl, rootAt_two (by omega) (Nat.le_refl _), f0, f1, rootAt_one, rootAt_one]; rfl
theorem bad93 : mapB [p9, p3] = false := mapB_f fun h => by
  have h1 := h.sorted 0 p9 p3 rfl rfl
  have h2 : p3.key.num < p9.key.num := key1_num (by decide)
  omega
theorem bad9 : mapB [⟨key1 9, []⟩] = false := mapB_f fun h => by
  have h1 := h.val 0 _ rfl
  exact absurd h1 (by decide)
theorem rdTwo {w : World} {b : Nat} {T : TypeId} {k k' : Dig} {u u' : Value} {x y : Bytes} (hB : Blk w b T ((k.cells ++ [u]) ++ (k'.cells ++ [u']))) (hu : RdB any w u x) (hu' : RdB any w u' y) : RdP any w (.slice (some ⟨b, 0, none⟩) 2 2) [⟨k, x⟩, ⟨k', y⟩] :=
  ⟨[k.cells ++ [u], k'.cells ++ [u']], .cons ⟨u, rfl, hu⟩ (.cons ⟨u', rfl, hu'⟩ .nil), ⟨_, 2, rfl, Nat.le_refl _, .inr ⟨b, 0, rfl, by simpa using hB.all⟩⟩⟩
theorem rdOne {w : World} {b : Nat} {T : TypeId} {k k' : Dig} {u u' : Value} {x : Bytes} (hB : Blk w b T ((k.cells ++ [u]) ++ (k'.cells ++ [u']))) (hu : RdB any w u x) : RdP any w (.slice (some ⟨b, 0, none⟩) 1 2) [⟨k, x⟩] :=
  ⟨[k.cells ++ [u]], .cons ⟨u, rfl, hu⟩ .nil, ⟨_, 2, rfl, by simp, .inr ⟨b, 0, rfl, by simpa using hB.all.sub [] (k.cells ++ [u]) (q := k'.cells ++ [u']) rfl rfl⟩⟩⟩
theorem names5_call (w : World) (hK : Kt w) : Does Tryd.prog 14 #[] w fun r w' => r = .bool true ∧ Ext w w' := by
  refine call_walk (vs := []) Tryd.func14 (by kernel_rfl) rfl Tryd.ntmps14 rfl ?_
  refine St0 ?_
  refine GL.call rfl rfl rfl (one_call 3 [97] w) ?_
  rintro r w1 ⟨u1, rfl, hu1, he1⟩
  refine GL.call rfl rfl rfl (one_call 9 [99] w1) ?_
  rintro r w2 ⟨u2, rfl, hu2, he2⟩
  replace hu1 := RdB.ext hu1 he2
  refine GL.buildSlice (((key1 3).cells ++ [u1]) ++ ((key1 9).cells ++ [u2])) hT rfl rfl rfl rfl rfl rfl rfl (fillL_two rfl (pcell_len _ _) rfl (pcell_len _ _) (madeLen _ _)) fun b1 w3 hb1 hB1 he3 => ?_
  replace hu1 := RdB.ext hu1 he3
  replace hu2 := RdB.ext hu2 he3
  have hE3 := he1.trans (he2.trans he3)
  have s3 := hE3.size
  have lb1 := hB1.lt
  refine St0 ?_
  refine GL.buildArr (key1 3).cells hT rfl rfl rfl rfl rfl rfl (by rw [key1_cells]; rfl) ?_
  refine GL.buildSlice [bv 120] hT rfl rfl rfl rfl rfl rfl rfl (fillL_one rfl rfl (madeLen _ _)) fun b4 w4 hb4 hB4 he4 => ?_
  refine GL.mark hT rfl rfl rfl rfl rfl rfl rfl hB4 fun w5 hc5 hA5 => ?_
  have he35 : Ext w3 w5 := hc5.below (by omega) he4
  replace hB1 := hB1.ext he35
  replace hu1 := RdB.ext hu1 he35
  replace hu2 := RdB.ext hu2 he35
  have hE5 := hE3.trans he35
  refine GL.call rfl rfl rfl (put_call _ _ [p3, p9] (key1 3) [120] any any w5 (rdTwo hB1 hu1 hu2) ⟨_, 1, rfl, Nat.le_refl _, .inr ⟨b4, 0, rfl, hA5⟩⟩) ?_
  rintro _ w6 ⟨x2, rfl, hx, he6⟩
  rw [put39.2] at hx
  rw [put39.1]
  replace hB1 := hB1.ext he6
  replace hu1 := RdB.ext hu1 he6
  replace hu2 := RdB.ext hu2 he6
  have hE6 := hE5.trans he6
  have hx2 : RdP any w6 x2 [p3x, p9] := hx.rd.imp fun _ _ _ => trivial
  clear hx hB4 hc5 hA5 he4
  refine St0 ?_
  refine GL.buildArr (key1 4).cells hT rfl rfl rfl rfl rfl rfl (by rw [key1_cells]; rfl) ?_
  refine GL.call rfl rfl rfl (get_call _ [p3, p9] (key1 4) any w6 (rdTwo hB1 hu1 hu2)) ?_
  rintro _ w7 ⟨y, rfl, -, he7⟩
  rw [got4]
  replace hB1 := hB1.ext he7
  replace hx2 := hx2.ext he7
  replace hu1 := RdB.ext hu1 he7
  replace hu2 := RdB.ext hu2 he7
  have hE7 := hE6.trans he7
  refine St0 ?_
  refine GL.buildArr (key1 4).cells hT rfl rfl rfl rfl rfl rfl (by rw [key1_cells]; rfl) ?_
  refine GL.call rfl rfl rfl (drop_call _ [p3, p9] (key1 4) any w7 (rdTwo hB1 hu1 hu2)) ?_
  rintro _ w8 ⟨y', rfl, -, he8⟩
  rw [drop4]
  replace hB1 := hB1.ext he8
  replace hx2 := hx2.ext he8
  replace hu1 := RdB.ext hu1 he8
  replace hu2 := RdB.ext hu2 he8
  have hE8 := hE7.trans he8
  refine St0 ?_
  refine GL.call rfl rfl rfl (pairsRoot_call (.slice none 0 0) [] any w8 ((OwnP.bare w8.heap.size w8 none).rd.imp fun _ _ _ => trivial) (hK.ext hE8)) ?_
  rintro _ w9 ⟨rfl, he9⟩
  rw [root0, mapB_t ok0, show badE true = 0 from rfl]
  replace hB1 := hB1.ext he9
  replace hx2 := hx2.ext he9
  replace hu1 := RdB.ext hu1 he9
  replace hu2 := RdB.ext hu2 he9
  have hE9 := hE8.trans he9
  refine St0 ?_
  refine GL.alloc hT rfl rfl rfl fun b8 wa hb8 hB8 hea => ?_
  refine GL.storeVar hT rfl rfl rfl rfl rfl (Dig.len _) (Dig.one _) hB8 (by rw [Dig.len]; rfl) fun wb hcb hB8 => ?_
  have hx9b : Ext w9 wb := hcb.below (by omega) hea
  have hEb := hE9.trans hx9b
  replace hB1 := hB1.ext hx9b
  replace hx2 := hx2.ext hx9b
  replace hu1 := RdB.ext hu1 hx9b
  replace hu2 := RdB.ext hu2 hx9b
  clear hcb hea hb8 he9
  refine St0 ?_
  refine GL.buildArr (key1 3).cells hT rfl rfl rfl rfl rfl rfl (by rw [key1_cells]; rfl) ?_
  refine GL.buildArr (key1 200).cells hT rfl rfl rfl rfl rfl rfl (by rw [key1_cells]; rfl) ?_
  refine GL.alloc hT rfl rfl rfl fun b10 wc hb10 hB10 hec => ?_
  have l10 := hB10.lt
  refine GL.alloc hT rfl rfl rfl fun b11 wd hb11 hB11 hed => ?_
  replace hB10 := hB10.ext hed
  have s1 := hec.size
  have s2 := hed.size
  refine GL.storeVar hT rfl rfl rfl rfl rfl (Dig.len (key1 3)) (Dig.one _) hB10 (by rw [Dig.len]; rfl) fun we hce hB10 => ?_
  replace hB11 := hB11.chg hce (by omega)
  refine GL.storeVar hT rfl rfl rfl rfl rfl (Dig.len (key1 200)) (Dig.one _) hB11 (by rw [Dig.len]; rfl) fun wf hcf hB11 => ?_
  replace hB10 := hB10.chg hcf (by omega)
  have hxbf : Ext wb wf := hcf.below (by omega) (hce.below (by omega) (hec.trans hed))
  have hEf := hEb.trans hxbf
  replace hB1 := hB1.ext hxbf
  replace hx2 := hx2.ext hxbf
  replace hB8 := hB8.ext hxbf
  replace hu1 := RdB.ext hu1 hxbf
  replace hu2 := RdB.ext hu2 hxbf
  clear hce hcf hec hed hb10 hb11 l10 s1 s2
  have sf := hEf.size
  refine St0 ?_
  refine G.drawK 12 wf.heap.size [10, 11] [(0, .bool false), (1, .slice (some ⟨b1, 0, none⟩) 2 2), (2, x2), (3, iv 0), (5, .bool false), (7, iv 6), (8, ptr b8 0), (9, iv 0), (10, ptr b10 0), (11, ptr b11 0)] (fun i v w' => match i with
    | 0 => Value.slice (some ⟨b10, 0, none⟩) 32 32 = v
    | 1 => ∃ b, Value.slice (some ⟨b, 0, none⟩) 1 1 = v ∧ wf.heap.size ≤ b ∧ ∃ fr, w'.heap[b]? = some (Obj.cells [bv 97].toArray 5 fr)
    | 2 => RdB any w' v [97]
    | 3 => RdBs any w' v [(key1 3).1, [97]]
    | 4 => dv lA = v
    | 5 => Value.slice (some ⟨b11, 0, none⟩) 32 32 = v
    | 6 => ∃ b, Value.slice (some ⟨b, 0, none⟩) 1 1 = v ∧ wf.heap.size ≤ b ∧ ∃ fr, w'.heap[b]? = some (Obj.cells [bv 98].toArray 5 fr)
    | 7 => RdB any w' v [98]
    | 8 => RdBs any w' v [(key1 200).1, [98]]
    | 9 => dv lB = v
    | _ => ∃ b, ptr b 0 = v ∧ wf.heap.size ≤ b ∧ Blk w' b 25 ti25.zero) follows (by kernel_rfl) (by kernel_rfl) (by kernel_rfl) (by kernel_rfl) (by kernel_rfl) (by (repeat (first | exact Fr.sub_nil _ | refine Fr.sub_cons rfl ?_))) (Nat.le_refl _) ?mono ?old ?obs ?fin
  case mono =>
    intro i v w1 w2 he h
    have cellsK : ∀ b c, (∃ fr, w1.heap[b]? = some (Obj.cells c 5 fr)) → ∃ fr, w2.heap[b]? = some (Obj.cells c 5 fr) := fun b c ⟨fr, h1⟩ => let ⟨fr', h2, _⟩ := he.cells _ _ _ _ h1; ⟨fr', h2⟩
    rcases i with _ | _ | _ | _ | _ | _ | _ | _ | _ | _ | i
    · exact h
    · obtain ⟨b, h1, h2, h3⟩ := h; exact ⟨b, h1, h2, cellsK b _ h3⟩
    · exact he.rdF h
    · exact he.rdBs h
    · exact h
    · exact h
    · obtain ⟨b, h1, h2, h3⟩ := h; exact ⟨b, h1, h2, cellsK b _ h3⟩
    · exact he.rdF h
    · exact he.rdBs h
    · exact h
    · obtain ⟨b, h1, h2, h3⟩ := h; exact ⟨b, h1, h2, he.blk h3 (by decide)⟩
  case old =>
    intro i v w' hi h
    have hi' : i = 10 ∨ i = 11 := by simpa using hi
    rcases hi' with rfl | rfl
    · obtain ⟨b, h1, h2, h3⟩ := h; exact ⟨b, 0, h1.symm, h3.lt⟩
    · obtain ⟨b, h1, h2, h3⟩ := h; exact ⟨b, 0, h1.symm, h3.lt⟩
  case obs =>
    intro w0 he0
    have hs0 := he0.size
    have hE0 := hEf.trans he0
    have hKs : ∀ w', Soft wf.heap.size w0 w' → Ext w w' := fun w' h' => Below.trans hE0 (h'.below.mono (by omega))
    refine ⟨fun w' he' => ?_, fun w' he' => ?_, fun w' he' => ?_, fun w' he' => ?_, fun w' he' => ?_, fun w' he' => ?_, fun w' he' => ?_, fun w' he' => ?_, fun w' he' => ?_, fun w' he' => ?_, fun w' he' => ?_, fun w' he' => ?_, trivial⟩
    · refine St0 ?_
      exact GL.factK rfl (Soft.refl _ _) ⟨rfl, fun h => absurd h (by decide)⟩
    · have := he'.size
      refine GL.buildSlice [bv 97] hT rfl rfl rfl rfl rfl rfl rfl (fillL_one rfl rfl (madeLen _ _)) fun b w'' hb hB he'' => ?_
      exact GL.factK rfl (Soft.ofExt (by omega) he'') ⟨⟨b, rfl, by omega, _, hB⟩, fun h => absurd h (by decide)⟩
    · rintro v ⟨b, rfl, hb, fr, hB⟩
      refine GL.markK (cs := [bv 97]) hT rfl rfl rfl rfl rfl rfl rfl hB fun w'' hc hfr => ?_
      obtain ⟨fr', hfr'⟩ := hfr
      exact GL.factK rfl (Soft.mark hb hB hc ⟨fr', hfr'⟩) ⟨⟨_, 1, rfl, Nat.le_refl _, .inr ⟨b, 0, rfl, _, _, fr', hfr', trivial, fun j v hj => by rw [Nat.zero_add, List.getElem?_toArray]; exact hj⟩⟩, fun h => absurd h (by decide)⟩
    · rintro v rfl v hv
      have := he'.size
      refine GL.buildSlice ([.slice (some ⟨b10, 0, none⟩) 32 32] ++ [v]) hT rfl rfl rfl rfl rfl rfl rfl (fillL_two rfl rfl (RdF.some hv) rfl (madeLen _ _)) fun b w'' hb hB he'' => ?_
      exact GL.factK rfl (Soft.ofExt (by omega) he'') ⟨bs2 hB (rdKey ((he'.at (hB10.ext he0).all).ext he'')) (RdB.ext hv he''), fun h => absurd h (by decide)⟩
    · rintro v hv
      have := he'.size
      refine GL.call rfl rfl rfl (tagOf_call 1 v _ any w' hv (by simp) (by decide) (hK.ext (hKs w' he'))) ?_
      rintro r w'' ⟨rfl, he''⟩
      exact GL.factK rfl (Soft.ofExt (by omega) he'') ⟨rfl, fun h => absurd h (by decide)⟩
    · refine St0 ?_
      exact GL.factK rfl (Soft.refl _ _) ⟨rfl, fun h => absurd h (by decide)⟩
    · have := he'.size
      refine GL.buildSlice [bv 98] hT rfl rfl rfl rfl rfl rfl rfl (fillL_one rfl rfl (madeLen _ _)) fun b w'' hb hB he'' => ?_
      exact GL.factK rfl (Soft.ofExt (by omega) he'') ⟨⟨b, rfl, by omega, _, hB⟩, fun h => absurd h (by decide)⟩
    · rintro v ⟨b, rfl, hb, fr, hB⟩
      refine GL.markK (cs := [bv 98]) hT rfl rfl rfl rfl rfl rfl rfl hB fun w'' hc hfr => ?_
      obtain ⟨fr', hfr'⟩ := hfr
      exact GL.factK rfl (Soft.mark hb hB hc ⟨fr', hfr'⟩) ⟨⟨_, 1, rfl, Nat.le_refl _, .inr ⟨b, 0, rfl, _, _, fr', hfr', trivial, fun j v hj => by rw [Nat.zero_add, List.getElem?_toArray]; exact hj⟩⟩, fun h => absurd h (by decide)⟩
    · rintro v rfl v hv
      have := he'.size
      refine GL.buildSlice ([.slice (some ⟨b11, 0, none⟩) 32 32] ++ [v]) hT rfl rfl rfl rfl rfl rfl rfl (fillL_two rfl rfl (RdF.some hv) rfl (madeLen _ _)) fun b w'' hb hB he'' => ?_
      exact GL.factK rfl (Soft.ofExt (by omega) he'') ⟨bs2 hB (rdKey ((he'.at (hB11.ext he0).all).ext he'')) (RdB.ext hv he''), fun h => absurd h (by decide)⟩
    · rintro v hv
      have := he'.size
      refine GL.call rfl rfl rfl (tagOf_call 1 v _ any w' hv (by simp) (by decide) (hK.ext (hKs w' he'))) ?_
      rintro r w'' ⟨rfl, he''⟩
      exact GL.factK rfl (Soft.ofExt (by omega) he'') ⟨rfl, fun h => absurd h (by decide)⟩
    · have := he'.size
      refine GL.alloc hT rfl rfl rfl fun b w'' hb hB he'' => ?_
      exact GL.factK rfl (Soft.ofExt (by omega) he'') ⟨⟨b, rfl, by omega, hB⟩, fun _ => ⟨b, 0, rfl, by omega⟩⟩
    · have := he'.size
      refine GL.alloc hT rfl rfl rfl fun b w'' hb hB he'' => ?_
      exact GL.factK rfl (Soft.ofExt (by omega) he'') ⟨⟨b, rfl, by omega, hB⟩, fun _ => ⟨b, 0, rfl, by omega⟩⟩
  case fin =>
    rintro wg heg v0 - v1 - v2 - v3 - v4 rfl v5 - v6 - v7 - v8 - v9 rfl v10 ⟨b12, rfl, hb12, hB12⟩ v11 ⟨b13, rfl, hb13, hB13⟩ hun
    have hne : b12 ≠ b13 := fun e => hun 10 11 rfl rfl (by decide) (by rw [e]; rfl)
    have hsg := heg.size
    refine GL.storeVar hT rfl rfl rfl rfl rfl (Dig.len _) (Dig.one _) hB12 (by rw [Dig.len]; rfl) fun wh hch hB12 => ?_
    replace hB13 := hB13.chg hch (fun e => hne e.symm)
    refine GL.storeVar hT rfl rfl rfl rfl rfl (Dig.len _) (Dig.one _) hB13 (by rw [Dig.len]; rfl) fun wi hci hB13 => ?_
    replace hB12 := hB12.chg hci hne
    have hxfi : Ext wf wi := hci.below hb13 (hch.below hb12 heg.below)
    replace hB1 := hB1.ext hxfi
    replace hB8 := hB8.ext hxfi
    replace hx2 := hx2.ext hxfi
    replace hu1 := RdB.ext hu1 hxfi
    replace hu2 := RdB.ext hu2 hxfi
    have hEi := hEf.trans hxfi
    clear heg hun hch hci hsg hb12 hb13 hB10 hB11 sf
    refine St0 ?_
    refine GL.slice 0 1 2 33 hT rfl rfl rfl rfl rfl rfl rfl rfl ⟨_, _, rfl, rfl⟩ rfl (by simp) (by omega) (by omega) (by omega) ?_
    refine GL.call rfl rfl rfl (pairsRoot_call (.slice (some ⟨b1, 0, none⟩) 1 2) [p3] any wi (rdOne hB1 hu1) (hK.ext hEi)) ?_
    rintro _ wj ⟨rfl, hej⟩
    rw [root1, mapB_t ok1, show badE true = 0 from rfl]
    replace hB8 := hB8.ext hej
    replace hx2 := hx2.ext hej
    replace hB12 := hB12.ext hej
    replace hB13 := hB13.ext hej
    have hEj := hEi.trans hej
    clear hu1 hu2 hB1
    refine St0 ?_
    refine GL.alloc hT rfl rfl rfl fun b14 wk hb14 hB14 hek => ?_
    refine GL.storeVar hT rfl rfl rfl rfl rfl (Dig.len _) (Dig.one _) hB14 (by rw [Dig.len]; rfl) fun wl hcl hB14 => ?_
    have hxjl : Ext wj wl := hcl.below (by omega) hek
    replace hB8 := hB8.ext hxjl
    replace hx2 := hx2.ext hxjl
    replace hB12 := hB12.ext hxjl
    replace hB13 := hB13.ext hxjl
    have hEl := hEj.trans hxjl
    clear hcl hek hb14
    refine St0 ?_
    refine GL.call rfl rfl rfl (one_call 3 [97] wl) ?_
    rintro r wm ⟨u3, rfl, hu3, hem⟩
    refine GL.call rfl rfl rfl (one_call 200 [98] wm) ?_
    rintro r wn ⟨u4, rfl, hu4, hen⟩
    refine GL.buildSlice (((key1 3).cells ++ [u3]) ++ ((key1 200).cells ++ [u4])) hT rfl rfl rfl rfl rfl rfl rfl (fillL_two rfl (pcell_len _ _) rfl (pcell_len _ _) (madeLen _ _)) fun b67 wo hb67 hB67 heo => ?_
    have hxlo := hem.trans (hen.trans heo)
    have hEo := hEl.trans hxlo
    replace hB8 := hB8.ext hxlo
    replace hx2 := hx2.ext hxlo
    replace hB12 := hB12.ext hxlo
    replace hB13 := hB13.ext hxlo
    replace hB14 := hB14.ext hxlo
    refine GL.call rfl rfl rfl (pairsRoot_call _ [p3, p200] any wo (rdTwo hB67 (RdB.ext hu3 (hen.trans heo)) (RdB.ext hu4 heo)) (hK.ext hEo)) ?_
    rintro _ wp ⟨rfl, hep⟩
    rw [root2, mapB_t ok2, show badE true = 0 from rfl]
    replace hB8 := hB8.ext hep
    replace hx2 := hx2.ext hep
    replace hB12 := hB12.ext hep
    replace hB13 := hB13.ext hep
    replace hB14 := hB14.ext hep
    have hEp := hEo.trans hep
    clear hu3 hu4 hB67 hem hen heo
    refine St0 ?_
    refine GL.alloc hT rfl rfl rfl fun b16 wq hb16 hB16 heq => ?_
    refine GL.storeVar hT rfl rfl rfl rfl rfl (Dig.len _) (Dig.one _) hB16 (by rw [Dig.len]; rfl) fun wr hcr hB16 => ?_
    have hxpr : Ext wp wr := hcr.below (by omega) heq
    replace hB8 := hB8.ext hxpr
    replace hx2 := hx2.ext hxpr
    replace hB12 := hB12.ext hxpr
    replace hB13 := hB13.ext hxpr
    replace hB14 := hB14.ext hxpr
    have hEr := hEp.trans hxpr
    clear hcr heq hb16
    refine St0 ?_
    refine GL.call rfl rfl rfl (one_call 9 [99] wr) ?_
    rintro r ws ⟨u5, rfl, hu5, hes⟩
    refine GL.call rfl rfl rfl (one_call 3 [97] ws) ?_
    rintro r wt ⟨u6, rfl, hu6, het⟩
    refine GL.buildSlice (((key1 9).cells ++ [u5]) ++ ((key1 3).cells ++ [u6])) hT rfl rfl rfl rfl rfl rfl rfl (fillL_two rfl (pcell_len _ _) rfl (pcell_len _ _) (madeLen _ _)) fun b73 wu hb73 hB73 heu => ?_
    have hxru := hes.trans (het.trans heu)
    refine GL.call rfl rfl rfl (pcheck_call _ [p9, p3] any wu (rdTwo hB73 (RdB.ext hu5 (het.trans heu)) (RdB.ext hu6 heu))) ?_
    rintro _ wv ⟨rfl, hev⟩
    rw [bad93, show badE false = 8 from rfl]
    have hxrv := hxru.trans hev
    clear hu5 hu6 hB73 hes het heu
    refine St0 ?_
    refine GL.call rfl rfl rfl (one_call 9 [] wv) ?_
    rintro r ww ⟨u7, rfl, hu7, hew⟩
    refine GL.buildSlice ((key1 9).cells ++ [u7]) hT rfl rfl rfl rfl rfl rfl rfl (fillL_one rfl (pcell_len _ _) (madeLen _ _)) fun b78 wx hb78 hB78 hex => ?_
    refine GL.call rfl rfl rfl (pcheck_call _ [⟨key1 9, []⟩] any wx ⟨[(key1 9).cells ++ [u7]], .cons ⟨u7, rfl, RdB.ext hu7 hex⟩ .nil, ⟨_, 1, rfl, Nat.le_refl _, .inr ⟨b78, 0, rfl, by simpa using hB78.all⟩⟩⟩) ?_
    rintro _ wy ⟨rfl, hey⟩
    rw [bad9, show badE false = 8 from rfl]
    have hxry := hxrv.trans (hew.trans (hex.trans hey))
    replace hB8 := hB8.ext hxry
    replace hx2 := hx2.ext hxry
    replace hB12 := hB12.ext hxry
    replace hB13 := hB13.ext hxry
    replace hB14 := hB14.ext hxry
    replace hB16 := hB16.ext hxry
    have hEy := hEr.trans hxry
    clear hu7 hB78 hew hex hey
    refine St0 ?_
    refine G.drawN 55 [] [(0, .bool false), (2, x2), (3, iv 0), (5, .bool false), (7, iv 6), (8, ptr b8 0), (9, iv 0), (12, ptr b12 0), (13, ptr b13 0), (14, ptr b14 0), (15, iv 0), (16, ptr b16 0), (17, iv 0), (18, .bool true)] (fun i v w' => match i with
      | 4 => iv 0 = v | 8 => x2 = v | 9 => ∃ u, v = pv p3x u ∧ RdB any w' u [120] | 10 => ∃ u, v = pv p9 u ∧ RdB any w' u [99] | 11 => RdP any w' v [p3x, p9]
      | 15 => Value.bool false = v | 19 => iv 6 = v | 23 => iv 0 = v | 27 => dv noneD = v | 28 => dv noneD = v | 32 => iv 0 = v | 36 => dv lA = v | 37 => dv lA = v | 41 => iv 0 = v
      | 45 => dv (twoD lA lB) = v | 46 => Value.slice (some ⟨b12, 0, none⟩) 32 32 = v | 47 => Value.slice (some ⟨b13, 0, none⟩) 32 32 = v | 48 => RdBs any w' v [lA.1, lB.1] | 49 => dv (twoD lA lB) = v
      | _ => Value.bool true = v) follows (by kernel_rfl) (by kernel_rfl) (by kernel_rfl) (by kernel_rfl) (by kernel_rfl) (by (repeat (first | exact Fr.sub_nil _ | refine Fr.sub_cons rfl ?_))) ?mono2 ?old2 ?obs2 ?fin2
    case mono2 =>
      intro i v w1 w2 he h
      by_cases e9 : i = 9
      · subst e9; obtain ⟨u, h1, h2⟩ := h; exact ⟨u, h1, RdB.ext h2 he⟩
      by_cases e10 : i = 10
      · subst e10; obtain ⟨u, h1, h2⟩ := h; exact ⟨u, h1, RdB.ext h2 he⟩
      by_cases e11 : i = 11
      · subst e11; exact RdP.ext h he
      by_cases e48 : i = 48
      · subst e48; exact RdBs.ext h he
      revert h
      split <;> first | exact id | (exfalso; omega)
    case old2 => intro i v w' hi h; simp at hi
    case obs2 =>
      intro w0 he0
      have hE0 := hEy.trans he0
      refine ⟨fun w' he' => ?_, fun w' he' => ?_, fun w' he' => ?_, fun w' he' => ?_, fun w' he' => ?_, fun w' he' => ?_, fun w' he' => ?_, fun w' he' => ?_, fun w' he' => ?_, fun w' he' => ?_, fun w' he' => ?_, fun w' he' => ?_, fun w' he' => ?_, fun w' he' => ?_, fun w' he' => ?_, fun w' he' => ?_, fun w' he' => ?_, fun w' he' => ?_, fun w' he' => ?_, fun w' he' => ?_, fun w' he' => ?_, fun w' he' => ?_, fun w' he' => ?_, fun w' he' => ?_, fun w' he' => ?_, fun w' he' => ?_, fun w' he' => ?_, fun w' he' => ?_, fun w' he' => ?_, fun w' he' => ?_, fun w' he' => ?_, fun w' he' => ?_, fun w' he' => ?_, fun w' he' => ?_, fun w' he' => ?_, fun w' he' => ?_, fun w' he' => ?_, fun w' he' => ?_, fun w' he' => ?_, fun w' he' => ?_, fun w' he' => ?_, fun w' he' => ?_, fun w' he' => ?_, fun w' he' => ?_, fun w' he' => ?_, fun w' he' => ?_, fun w' he' => ?_, fun w' he' => ?_, fun w' he' => ?_, fun w' he' => ?_, fun w' he' => ?_, fun w' he' => ?_, fun w' he' => ?_, fun w' he' => ?_, fun w' he' => ?_, trivial⟩
      · refine St0 ?_
        exact GL.fact rfl (Ext.refl _) ⟨rfl, fun h => absurd h (by decide)⟩
      · rintro v rfl
        refine GL.call rfl rfl rfl (vs := []) (alive5_call w') ?_
        rintro _ w'' ⟨rfl, he''⟩
        exact GL.fact rfl he'' ⟨rfl, fun h => absurd h (by decide)⟩
      · rintro v rfl v rfl
        refine St0 ?_
        exact GL.fact rfl (Ext.refl _) ⟨rfl, fun h => absurd h (by decide)⟩
      · rintro v rfl
        refine St0 ?_
        exact GL.fact rfl (Ext.refl _) ⟨rfl, fun h => absurd h (by decide)⟩
      · rintro v rfl
        refine St0 ?_
        exact GL.fact rfl (Ext.refl _) ⟨rfl, fun h => absurd h (by decide)⟩
      · rintro v rfl v rfl
        refine St0 ?_
        exact GL.fact rfl (Ext.refl _) ⟨rfl, fun h => absurd h (by decide)⟩
      · rintro v rfl v rfl
        refine St0 ?_
        exact GL.fact rfl (Ext.refl _) ⟨rfl, fun h => absurd h (by decide)⟩
      · rintro v rfl
        refine St0 ?_
        exact GL.fact rfl (Ext.refl _) ⟨rfl, fun h => absurd h (by decide)⟩
      · rintro v rfl
        refine St0 ?_
        exact GL.fact rfl (Ext.refl _) ⟨rfl, fun h => absurd h (by decide)⟩
      · rintro v rfl
        refine GL.call rfl rfl rfl (one_call 3 [120] w') ?_
        rintro _ w'' ⟨u, rfl, hu, he''⟩
        exact GL.fact rfl he'' ⟨⟨u, rfl, hu⟩, fun h => absurd h (by decide)⟩
      · rintro v rfl
        refine GL.call rfl rfl rfl (one_call 9 [99] w') ?_
        rintro _ w'' ⟨u, rfl, hu, he''⟩
        exact GL.fact rfl he'' ⟨⟨u, rfl, hu⟩, fun h => absurd h (by decide)⟩
      · rintro v ⟨u9, rfl, h9⟩ v ⟨u10, rfl, h10⟩ v rfl
        refine GL.buildSlice (((key1 3).cells ++ [u9]) ++ ((key1 9).cells ++ [u10])) hT rfl rfl rfl rfl rfl rfl rfl (fillL_two rfl (pcell_len _ _) rfl (pcell_len _ _) (madeLen _ _)) fun b w'' hb hB he'' => ?_
        exact GL.fact rfl he'' ⟨rdTwo hB (RdB.ext h9 he'') (RdB.ext h10 he''), fun h => absurd h (by decide)⟩
      · rintro v rfl v11 h11 v rfl
        refine GL.call rfl rfl rfl (refSame5_call x2 _ _ _ _ _ w' (hx2.ext (he0.trans he')) h11 (by simp)) ?_
        rintro _ w'' ⟨rfl, he''⟩
        rw [decide_eq_true rfl]
        exact GL.fact rfl he'' ⟨rfl, fun h => absurd h (by decide)⟩
      · rintro v rfl v rfl
        refine St0 ?_
        exact GL.fact rfl (Ext.refl _) ⟨rfl, fun h => absurd h (by decide)⟩
      · rintro v rfl
        refine St0 ?_
        exact GL.fact rfl (Ext.refl _) ⟨rfl, fun h => absurd h (by decide)⟩
      · rintro v rfl
        refine St0 ?_
        exact GL.fact rfl (Ext.refl _) ⟨rfl, fun h => absurd h (by decide)⟩
      · rintro v rfl v rfl
        refine St0 ?_
        exact GL.fact rfl (Ext.refl _) ⟨rfl, fun h => absurd h (by decide)⟩
      · rintro v rfl v rfl
        refine St0 ?_
        exact GL.fact rfl (Ext.refl _) ⟨rfl, fun h => absurd h (by decide)⟩
      · rintro v rfl
        refine St0 ?_
        exact GL.fact rfl (Ext.refl _) ⟨rfl, fun h => absurd h (by decide)⟩
      · rintro v rfl
        refine St0 ?_
        exact GL.fact rfl (Ext.refl _) ⟨rfl, fun h => absurd h (by decide)⟩
      · rintro v rfl v rfl
        refine St0 ?_
        exact GL.fact rfl (Ext.refl _) ⟨rfl, fun h => absurd h (by decide)⟩
      · rintro v rfl v rfl
        refine St0 ?_
        exact GL.fact rfl (Ext.refl _) ⟨rfl, fun h => absurd h (by decide)⟩
      · rintro v rfl
        refine St0 ?_
        exact GL.fact rfl (Ext.refl _) ⟨rfl, fun h => absurd h (by decide)⟩
      · rintro v rfl
        refine St0 ?_
        exact GL.fact rfl (Ext.refl _) ⟨rfl, fun h => absurd h (by decide)⟩
      · rintro v rfl v rfl
        refine St0 ?_
        exact GL.fact rfl (Ext.refl _) ⟨rfl, fun h => absurd h (by decide)⟩
      · rintro v rfl v rfl
        refine St0 ?_
        exact GL.fact rfl (Ext.refl _) ⟨rfl, fun h => absurd h (by decide)⟩
      · rintro v rfl
        refine St0 ?_
        exact GL.fact rfl (Ext.refl _) ⟨rfl, fun h => absurd h (by decide)⟩
      · rintro v rfl
        refine St1 ((hB8.ext (he0.trans he')).all) ?_
        exact GL.fact rfl (Ext.refl _) ⟨rfl, fun h => absurd h (by decide)⟩
      · rintro v rfl
        refine GL.call rfl rfl rfl (vs := []) (tagNone_call w' (hK.ext (hE0.trans he'))) ?_
        rintro _ w'' ⟨rfl, he''⟩
        exact GL.fact rfl he'' ⟨rfl, fun h => absurd h (by decide)⟩
      · rintro v rfl v rfl v rfl
        have hqq : noneD = noneD := rfl
        refine St0 ?_
        exact GL.fact rfl (Ext.refl _) ⟨rfl, fun h => absurd h (by decide)⟩
      · rintro v rfl v rfl
        refine St0 ?_
        exact GL.fact rfl (Ext.refl _) ⟨rfl, fun h => absurd h (by decide)⟩
      · rintro v rfl
        refine St0 ?_
        exact GL.fact rfl (Ext.refl _) ⟨rfl, fun h => absurd h (by decide)⟩
      · rintro v rfl
        refine St0 ?_
        exact GL.fact rfl (Ext.refl _) ⟨rfl, fun h => absurd h (by decide)⟩
      · rintro v rfl v rfl
        refine St0 ?_
        exact GL.fact rfl (Ext.refl _) ⟨rfl, fun h => absurd h (by decide)⟩
      · rintro v rfl v rfl
        refine St0 ?_
        exact GL.fact rfl (Ext.refl _) ⟨rfl, fun h => absurd h (by decide)⟩
      · rintro v rfl
        refine St0 ?_
        exact GL.fact rfl (Ext.refl _) ⟨rfl, fun h => absurd h (by decide)⟩
      · rintro v rfl
        refine St1 ((hB14.ext (he0.trans he')).all) ?_
        exact GL.fact rfl (Ext.refl _) ⟨rfl, fun h => absurd h (by decide)⟩
      · rintro v rfl
        refine St1 ((hB12.ext (he0.trans he')).all) ?_
        exact GL.fact rfl (Ext.refl _) ⟨rfl, fun h => absurd h (by decide)⟩
      · rintro v rfl v rfl v rfl
        have hqq : lA = lA := rfl
        refine St0 ?_
        exact GL.fact rfl (Ext.refl _) ⟨rfl, fun h => absurd h (by decide)⟩
      · rintro v rfl v rfl
        refine St0 ?_
        exact GL.fact rfl (Ext.refl _) ⟨rfl, fun h => absurd h (by decide)⟩
      · rintro v rfl
        refine St0 ?_
        exact GL.fact rfl (Ext.refl _) ⟨rfl, fun h => absurd h (by decide)⟩
      · rintro v rfl
        refine St0 ?_
        exact GL.fact rfl (Ext.refl _) ⟨rfl, fun h => absurd h (by decide)⟩
      · rintro v rfl v rfl
        refine St0 ?_
        exact GL.fact rfl (Ext.refl _) ⟨rfl, fun h => absurd h (by decide)⟩
      · rintro v rfl v rfl
        refine St0 ?_
        exact GL.fact rfl (Ext.refl _) ⟨rfl, fun h => absurd h (by decide)⟩
      · rintro v rfl
        refine St0 ?_
        exact GL.fact rfl (Ext.refl _) ⟨rfl, fun h => absurd h (by decide)⟩
      · rintro v rfl
        refine St1 ((hB16.ext (he0.trans he')).all) ?_
        exact GL.fact rfl (Ext.refl _) ⟨rfl, fun h => absurd h (by decide)⟩
      · rintro v rfl
        refine St0 ?_
        exact GL.fact rfl (Ext.refl _) ⟨rfl, fun h => absurd h (by decide)⟩
      · rintro v rfl
        refine St0 ?_
        exact GL.fact rfl (Ext.refl _) ⟨rfl, fun h => absurd h (by decide)⟩
      · rintro v rfl v rfl v rfl
        refine GL.buildSlice ([.slice (some ⟨b12, 0, none⟩) 32 32] ++ [.slice (some ⟨b13, 0, none⟩) 32 32]) hT rfl rfl rfl rfl rfl rfl rfl (fillL_two rfl rfl rfl rfl (madeLen _ _)) fun b w'' hb hB he'' => ?_
        exact GL.fact rfl he'' ⟨bs2 hB (rdKey (hB12.ext ((he0.trans he').trans he'')).all) (rdKey (hB13.ext ((he0.trans he').trans he'')).all), fun h => absurd h (by decide)⟩
      · rintro v48 h48 v rfl
        refine GL.call rfl rfl rfl (tagOf_call 2 _ [lA.1, lB.1] any w' h48 (by simp) (by simp [tagB, be4, lA.2, lB.2]) (hK.ext (hE0.trans he'))) ?_
        rintro _ w'' ⟨rfl, he''⟩
        exact GL.fact rfl he'' ⟨rfl, fun h => absurd h (by decide)⟩
      · rintro v rfl v rfl v rfl
        have hqq : twoD lA lB = twoD lA lB := rfl
        refine St0 ?_
        exact GL.fact rfl (Ext.refl _) ⟨rfl, fun h => absurd h (by decide)⟩
      · rintro v rfl v rfl
        refine St0 ?_
        exact GL.fact rfl (Ext.refl _) ⟨rfl, fun h => absurd h (by decide)⟩
      · rintro v rfl
        refine St0 ?_
        exact GL.fact rfl (Ext.refl _) ⟨rfl, fun h => absurd h (by decide)⟩
      · rintro v rfl
        refine St0 ?_
        exact GL.fact rfl (Ext.refl _) ⟨rfl, fun h => absurd h (by decide)⟩
      · rintro v rfl v rfl
        refine St0 ?_
        exact GL.fact rfl (Ext.refl _) ⟨rfl, fun h => absurd h (by decide)⟩
    case fin2 =>
      rintro wz hez v0 - v1 - v2 - v3 - v4 - v5 - v6 - v7 - v8 - v9 - v10 - v11 - v12 - v13 - v14 - v15 - v16 - v17 - v18 - v19 - v20 - v21 - v22 - v23 - v24 - v25 - v26 - v27 - v28 - v29 - v30 - v31 - v32 - v33 - v34 - v35 - v36 - v37 - v38 - v39 - v40 - v41 - v42 - v43 - v44 - v45 - v46 - v47 - v48 - v49 - v50 - v51 - v52 - v53 - v54 rfl hun
      refine St0 ?_
      exact G.ret1 rfl rfl rfl rfl ⟨rfl, hEy.trans hez⟩
end Go.Proofs.YtefneilaongpbaaDoor
