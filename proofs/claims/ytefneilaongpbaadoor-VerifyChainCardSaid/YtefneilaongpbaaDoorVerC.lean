/-
  The document's list of what is digested and its root; the law of what a root tells.
-/
import Derived.Test.YtefneilaongpbaaDoorVerB
set_option linter.unusedVariables false
set_option linter.unusedSimpArgs false
set_option maxRecDepth 100000
set_option maxHeartbeats 4000000
namespace Go.Proofs.YtefneilaongpbaaDoor
open Go Go.Bd Go.RowKit
attribute [local irreducible] G GL GQ

theorem from_call (x : Prf) (u s : Value) (hen3 : x.en = 0 ∨ x.en = 1 ∨ x.en = 2) (hv : x.val.length ≤ 1000) (hsl : x.sides.length ≤ 256) : ∀ (m i : Nat) (S : Where) (w : World), x.sides.length - i = m → i ≤ x.sides.length → PrfM S w x u s →
    Does Tryd.prog 95 #[prv x u s, iv i] w fun r w' => OwnBs w.heap.size w' r (fromL x i (x.sides.drop i)) ∧ Ext w w' := by
  intro m
  induction m with
  | zero =>
    intro i S w hm hi h
    obtain rfl : i = x.sides.length := by omega
    refine call_walk Tryd.func95 (by kernel_rfl) rfl Tryd.ntmps95 rfl ?_
    obtain ⟨pu, cu, rfl, hcu⟩ := RdF.isSlice h.val
    obtain ⟨ps, cs, rfl, hcs⟩ := RdF.isSlice h.sides
    refine St0 ?_
    refine GL.box rfl rfl rfl rfl fun b w1 hb hB he => ?_
    obtain ⟨hk, hen, ho, hvv, hs⟩ := pat hB.all
    have s1 := he.size
    have l1 := hB.lt
    refine St2 (hs) (hen) ?_
    rw [List.drop_length]
    by_cases h0 : (x.en.toNat : Int) = 0
    · have h0' := en0.1 h0
      refine St0 ?_
      refine GL.call rfl rfl rfl (refBytes_call 0 (.slice none 0 0) [] any w1 (bs0 _ _ _) (by simp) (by decide)) ?_
      rintro r w2 ⟨hr, he2⟩
      refine GL.buildSlice [r] hT rfl rfl rfl rfl rfl rfl rfl (fillL_one hr.some rfl (madeLen _ _)) fun b3 w3 hb3 hB3 he3 => ?_
      have s2 := he2.size
      refine St0 ?_
      refine G.ret1 rfl rfl rfl rfl ⟨⟨[r], .cons ?_ .nil, rfl, .inr ⟨b3, 1, [], rfl, by omega, Nat.le_refl _, by rw [List.append_nil]; exact hB3, rfl⟩⟩, he.trans (he2.trans he3)⟩
      rw [lowF, if_neg (by rw [h0']; decide), if_neg (by rw [h0']; decide)]
      exact (hr.ext he3).mono (by omega)
    have h0' := mt en0.2 h0
    refine St1 (hk) ?_
    refine GL.alloc hT rfl rfl rfl fun b5 w2 hb5 hB5 he2 => ?_
    have l5 := hB5.lt
    have s2 := he2.size
    refine GL.storeVar hT rfl rfl rfl rfl rfl (Dig.len _) (Dig.one _) hB5 (by rw [Dig.len]; rfl) fun w3 hc3 hB5 => ?_
    replace hB := (hB.ext he2).chg hc3 (by omega)
    have he3 : Ext w w3 := hc3.below (by omega) (he.trans he2)
    have s3 := he3.size
    have l5' := hB5.lt
    obtain ⟨hk, hen, ho, hvv, hs⟩ := pat hB.all
    refine St1 (hen) ?_
    by_cases h2 : (x.en.toNat : Int) = 2
    · have h2' := en2.1 h2
      have hlow : lowF x = tagB 1 [x.other.1, x.val] := by rw [lowF, if_neg (by rw [h2']; decide), if_pos h2']
      refine St1 (ho) ?_
      refine GL.storeVar hT rfl rfl rfl rfl rfl (Dig.len _) (Dig.one _) hB5 (by rw [Dig.len, Dig.len]) fun w3' hc3' hB5 => ?_
      replace hB := hB.chg hc3' (by omega)
      replace he3 : Ext w w3' := hc3'.below (by omega) he3
      replace s3 := he3.size
      obtain ⟨hk, hen, ho, hvv, hs⟩ := pat hB.all
      refine St0 ?_
      refine G.quietTail 3 follows (by kernel_rfl) (by kernel_rfl) (by kernel_rfl) (by kernel_rfl) ?_
      refine QSt1 (hvv) ?_
      refine GQ.tail fun w4 he4 => ?_
      refine GL.buildSlice ([.slice (some ⟨b5, 0, none⟩) 32 32] ++ [.slice pu x.val.length cu]) hT rfl rfl rfl rfl rfl rfl rfl (fillL_two rfl rfl rfl rfl (madeLen _ _)) fun b6 w6 hb6 hB6 he6 => ?_
      have he46 := he4.trans he6
      refine GL.call rfl rfl rfl (refBytes_call 1 _ [x.other.1, x.val] any w6 (bs2 hB6 (rdKey (hB5.all.ext he46)) (RdB.ext h.val (he3.trans he46))) (by simp) (leaf_len _ hv)) ?_
      rintro r w7 ⟨hr, he7⟩
      refine GL.buildSlice [r] hT rfl rfl rfl rfl rfl rfl rfl (fillL_one hr.some rfl (madeLen _ _)) fun b8 w8 hb8 hB8 he8 => ?_
      have s4 := he46.size
      have s7 := he7.size
      refine St0 ?_
      refine G.ret1 rfl rfl rfl rfl ⟨⟨[r], .cons ?_ .nil, rfl, .inr ⟨b8, 1, [], rfl, by omega, Nat.le_refl _, by rw [List.append_nil]; exact hB8, rfl⟩⟩, he3.trans (he46.trans (he7.trans he8))⟩
      rw [hlow]
      exact (hr.ext he8).mono (by omega)
    · have h1' : x.en = 1 := by
        rcases hen3 with h | h | h
        · exact absurd h h0'
        · exact h
        · exact absurd h (mt en2.2 h2)
      have hlow : lowF x = tagB 1 [x.key.1, x.val] := by rw [lowF, if_pos h1']
      refine St0 ?_
      refine G.quietTail 3 follows (by kernel_rfl) (by kernel_rfl) (by kernel_rfl) (by kernel_rfl) ?_
      refine QSt1 (hvv) ?_
      refine GQ.tail fun w4 he4 => ?_
      refine GL.buildSlice ([.slice (some ⟨b5, 0, none⟩) 32 32] ++ [.slice pu x.val.length cu]) hT rfl rfl rfl rfl rfl rfl rfl (fillL_two rfl rfl rfl rfl (madeLen _ _)) fun b6 w6 hb6 hB6 he6 => ?_
      have he46 := he4.trans he6
      refine GL.call rfl rfl rfl (refBytes_call 1 _ [x.key.1, x.val] any w6 (bs2 hB6 (rdKey (hB5.all.ext he46)) (RdB.ext h.val (he3.trans he46))) (by simp) (leaf_len _ hv)) ?_
      rintro r w7 ⟨hr, he7⟩
      refine GL.buildSlice [r] hT rfl rfl rfl rfl rfl rfl rfl (fillL_one hr.some rfl (madeLen _ _)) fun b8 w8 hb8 hB8 he8 => ?_
      have s4 := he46.size
      have s7 := he7.size
      refine St0 ?_
      refine G.ret1 rfl rfl rfl rfl ⟨⟨[r], .cons ?_ .nil, rfl, .inr ⟨b8, 1, [], rfl, by omega, Nat.le_refl _, by rw [List.append_nil]; exact hB8, rfl⟩⟩, he3.trans (he46.trans (he7.trans he8))⟩
      rw [hlow]
      exact (hr.ext he8).mono (by omega)
  | succ m ih =>
    intro i S w hm hi h
    have hilt : i < x.sides.length := by omega
    obtain ⟨sd, hsd⟩ : ∃ sd, x.sides[i]? = some sd := ⟨_, List.getElem?_eq_getElem hilt⟩
    have hd : x.sides.drop i = sd :: x.sides.drop (i + 1) := by
      obtain ⟨hlt', rfl⟩ := List.getElem?_eq_some_iff.1 hsd
      exact List.drop_eq_getElem_cons hlt'
    refine call_walk Tryd.func95 (by kernel_rfl) rfl Tryd.ntmps95 rfl ?_
    obtain ⟨bs, os, cs, rfl, hAs⟩ := RdD.elem h.sides hsd
    have hne : ¬ (i : Int) = x.sides.length := by omega
    refine St0 ?_
    refine GL.box rfl rfl rfl rfl fun b w1 hb hB he => ?_
    obtain ⟨hk, hen, ho, hvv, hs⟩ := pat hB.all
    have s1 := he.size
    refine St1 (hs) ?_
    refine GL.loadN hT rfl rfl rfl rfl rfl hB.all (pcells_len x u _) ?_
    refine St0 ?_
    rw [show (i : Int) + 1 = ((i + 1 : Nat) : Int) by omega]
    refine GL.call rfl rfl rfl (ih (i + 1) S w1 (by omega) (by omega) (h.ext he)) ?_
    rintro r w2 ⟨hO, he2⟩
    have s2 := he2.size
    have hl := fromL_len x (i + 1) (x.sides.drop (i + 1))
    have hsmall := fromL_small x hv (i + 1) (x.sides.drop (i + 1))
    have hhead := fromL_head x (i + 1) (x.sides.drop (i + 1))
    have hbl := hsmall _ (List.mem_of_getElem? hhead)
    rw [hd]
    have hfr : fromL x i (sd :: x.sides.drop (i + 1)) = upB x i (shaD ((fromL x (i + 1) (x.sides.drop (i + 1))).headD [])) sd :: fromL x (i + 1) (x.sides.drop (i + 1)) := rfl
    rw [hfr]
    have hdl : (x.sides.drop (i + 1)).length ≤ 256 := by rw [List.length_drop]; omega
    generalize fromL x (i + 1) (x.sides.drop (i + 1)) = L at *
    obtain ⟨bo, oo, co, uo, hvo, huo, hAo⟩ := hO.rd.elem hhead
    subst hvo
    refine St0 ?_
    (refine GL.indexSlice (0) 1 (oo) hT rfl rfl rfl rfl rfl rfl rfl rfl ?_ ?_ ?_ ?_; (focus omega); (focus omega); (focus omega))
    refine St1 (hAo) ?_
    refine GL.call rfl rfl rfl (refSum_call uo _ _ w2 huo (by omega)) ?_
    rintro r w3 ⟨rfl, he3⟩
    have s3 := he3.size
    generalize shaD (L.headD []) = bel at *
    refine GL.alloc hT rfl rfl rfl fun b7 w4 hb7 hB7 he4 => ?_
    have l7 := hB7.lt
    have s4 := he4.size
    refine GL.storeVar hT rfl rfl rfl rfl rfl (Dig.len _) (Dig.one _) hB7 (by rw [Dig.len]; rfl) fun w5 hc5 hB7 => ?_
    have e5 : Ext w1 w5 := hc5.below (by omega) (he2.trans (he3.trans he4))
    have l7' := hB7.lt
    refine St1 (hs.ext e5) ?_
    (refine GL.indexSlice (i) 32 ((os + i * 32)) hT rfl rfl rfl rfl rfl rfl rfl rfl ?_ ?_ ?_ ?_; (focus omega); (focus omega); (focus omega))
    refine St1 (hAs.ext (he.trans e5)) ?_
    refine GL.alloc hT rfl rfl rfl fun b8 w6 hb8 hB8 he6 => ?_
    have l8 := hB8.lt
    replace hB7 := hB7.ext he6
    refine GL.storeVar hT rfl rfl rfl rfl rfl (Dig.len _) (Dig.one _) hB8 (by rw [Dig.len]; rfl) fun w7 hc7 hB8 => ?_
    replace hB7 := hB7.chg hc7 (by omega)
    have e7 : Ext w1 w7 := hc7.below (by omega) (e5.trans he6)
    have e27 : Ext w2 w7 := hc7.below (by omega) ((show Ext w2 w5 from hc5.below (by omega) (he3.trans he4)).trans he6)
    have l77 := hB7.lt
    have l87 := hB8.lt
    have n78 : b7 ≠ b8 := by omega
    refine St1 (hk.ext e7) ?_
    refine GL.call rfl rfl rfl (refAt_call x.key i (by omega) w7) ?_
    rintro r w8 ⟨rfl, he8⟩
    replace hB7 := hB7.ext he8
    replace hB8 := hB8.ext he8
    have e28 : Ext w2 w8 := e27.trans he8
    have hbl' := x.key.bit_lt i
    by_cases hbit : x.key.bit i = 1
    · have : ((x.key.bit i : Nat) : Int) = 1 := by omega
      have htext : upB x i bel sd = tagB 2 [sd.1, bel.1] := by simp [upB, hbit]
      refine St2 (hB7.all) (hB8.all) ?_
      refine GL.storeVar hT rfl rfl rfl rfl rfl (Dig.len _) (Dig.one _) hB7 (by rw [Dig.len, Dig.len]) fun w81 hc81 hB7 => ?_
      replace hB8 := hB8.chg hc81 (by omega)
      refine GL.storeVar hT rfl rfl rfl rfl rfl (Dig.len _) (Dig.one _) hB8 (by rw [Dig.len, Dig.len]) fun w82 hc82 hB8 => ?_
      replace hB7 := hB7.chg hc82 n78
      have e28' : Ext w2 w82 := hc82.below (by omega) (hc81.below (by omega) e28)
      have hOw := hO.ext e28'
      have s8 := e28'.size
      refine St0 ?_
      refine G.draw 6 [(6, .slice (some ⟨bo, oo, none⟩) L.length co), (7, ptr b7 0), (8, ptr b8 0)] (fun k v w' => match k with
        | 0 => Value.slice (some ⟨b7, 0, none⟩) 32 32 = v | 1 => Value.slice (some ⟨b8, 0, none⟩) 32 32 = v
        | 2 => ∃ b, Value.slice (some ⟨b, 0, none⟩) 2 2 = v ∧ Blk w' b 32 [.slice (some ⟨b7, 0, none⟩) 32 32, .slice (some ⟨b8, 0, none⟩) 32 32]
        | 3 => OwnB w2.heap.size w' v (upB x i bel sd)
        | 4 => ∃ b r, Value.slice (some ⟨b, 0, none⟩) 1 1 = v ∧ w2.heap.size ≤ b ∧ Blk w' b 32 [r] ∧ OwnB w2.heap.size w' r (upB x i bel sd)
        | _ => Value.slice (some ⟨bo, oo, none⟩) L.length co = v) follows (by kernel_rfl) (by kernel_rfl) (by kernel_rfl) (by kernel_rfl) (by (repeat (first | exact Fr.sub_nil _ | refine Fr.sub_cons rfl ?_))) ?_ ?_ ?_
      · intro k v w1 w2 he h
        rcases k with _ | _ | _ | _ | _ | k
        · exact h
        · exact h
        · obtain ⟨b, h1, h2⟩ := h; exact ⟨b, h1, h2.ext he⟩
        · exact Own.ext h he
        · obtain ⟨b, r, h1, h0, h2, h3⟩ := h; exact ⟨b, r, h1, h0, h2.ext he, Own.ext h3 he⟩
        · exact h
      · intro w9 he9
        have hs9 := he9.size
        refine ⟨fun w' he' => ?_, fun w' he' => ?_, fun w' he' => ?_, fun w' he' => ?_, fun w' he' => ?_, fun w' he' => ?_, trivial⟩
        · refine St0 ?_
          exact GL.fact rfl (Ext.refl _) (by rfl)
        · refine St0 ?_
          exact GL.fact rfl (Ext.refl _) (by rfl)
        · rintro v rfl v rfl
          refine GL.buildSlice ([.slice (some ⟨b7, 0, none⟩) 32 32] ++ [.slice (some ⟨b8, 0, none⟩) 32 32]) hT rfl rfl rfl rfl rfl rfl rfl (fillL_two rfl rfl rfl rfl (madeLen _ _)) fun b9 w10 hb9 hB9 he10 => ?_
          exact GL.fact rfl he10 ⟨b9, rfl, hB9⟩
        · rintro v ⟨b9, rfl, hB9⟩
          refine GL.call rfl rfl rfl (refBytes_call 2 _ [sd.1, bel.1] any w' (bs2 hB9 (rdKey (hB7.all.ext (he9.trans he'))) (rdKey (hB8.all.ext (he9.trans he')))) (by simp) (two_len _ _)) ?_
          rintro r w10 ⟨hr, he10⟩
          have := he'.size
          exact GL.fact rfl he10 (by rw [htext]; exact hr.mono (by omega))
        · rintro v hv6
          have := he'.size
          refine GL.buildSlice [v] hT rfl rfl rfl rfl rfl rfl rfl (fillL_one hv6.some rfl (madeLen _ _)) fun b9 w10 hb9 hB9 he10 => ?_
          exact GL.fact rfl he10 ⟨b9, v, rfl, by omega, hB9, Own.ext hv6 he10⟩
        · refine St0 ?_
          exact GL.fact rfl (Ext.refl _) (by rfl)
      · rintro w9 he9 v0 rfl v1 rfl v2 - v3 - v4 ⟨b9, r, rfl, hb9, hB9, hr⟩ v5 rfl
        obtain ⟨us, hus, hown⟩ := hOw.ext he9
        have hnew : Own w2.heap.size w9 (.slice (some ⟨b9, 0, none⟩) 1 1) 1 1 32 [r] := ⟨rfl, .inr ⟨b9, 1, [], rfl, hb9, Nat.le_refl _, by rw [List.append_nil]; exact hB9, rfl⟩⟩
        have s9 := he9.size
        refine GL.append hT rfl rfl rfl rfl rfl rfl rfl rfl rfl rfl hnew hown.fresh (by simpa using hown.1) (fun u hu => (OwnBs.one hus u hu).2) (by show (1 + L.length) * 24 ≤ _; omega) (by omega) (by omega) fun r' w10 ho10 hb10 hr10 => ?_
        have hall := bytesBut (All2.cons (hr.mono (show w1.heap.size ≤ w2.heap.size by omega)) hus) hnew hb10
        refine St0 ?_
        refine G.ret1 rfl rfl rfl rfl ⟨⟨[r] ++ us, hall.imp fun u y h => h.mono (by omega), ?_⟩, ?_⟩
        · rw [List.length_cons, Nat.add_comm L.length 1]
          exact ho10.mono (by omega)
        · exact hb10.below (fun q hq => by have := (hnew.row hq).1; omega) (by omega) (he.trans (he2.trans (e28'.trans he9)))
    · have : ¬ ((x.key.bit i : Nat) : Int) = 1 := by omega
      have htext : upB x i bel sd = tagB 2 [bel.1, sd.1] := by rw [upB, if_pos (by omega)]
      have e28' := e28
      have hOw := hO.ext e28'
      have s8 := e28'.size
      refine St0 ?_
      refine G.draw 6 [(6, .slice (some ⟨bo, oo, none⟩) L.length co), (7, ptr b7 0), (8, ptr b8 0)] (fun k v w' => match k with
        | 0 => Value.slice (some ⟨b7, 0, none⟩) 32 32 = v | 1 => Value.slice (some ⟨b8, 0, none⟩) 32 32 = v
        | 2 => ∃ b, Value.slice (some ⟨b, 0, none⟩) 2 2 = v ∧ Blk w' b 32 [.slice (some ⟨b7, 0, none⟩) 32 32, .slice (some ⟨b8, 0, none⟩) 32 32]
        | 3 => OwnB w2.heap.size w' v (upB x i bel sd)
        | 4 => ∃ b r, Value.slice (some ⟨b, 0, none⟩) 1 1 = v ∧ w2.heap.size ≤ b ∧ Blk w' b 32 [r] ∧ OwnB w2.heap.size w' r (upB x i bel sd)
        | _ => Value.slice (some ⟨bo, oo, none⟩) L.length co = v) follows (by kernel_rfl) (by kernel_rfl) (by kernel_rfl) (by kernel_rfl) (by (repeat (first | exact Fr.sub_nil _ | refine Fr.sub_cons rfl ?_))) ?_ ?_ ?_
      · intro k v w1 w2 he h
        rcases k with _ | _ | _ | _ | _ | k
        · exact h
        · exact h
        · obtain ⟨b, h1, h2⟩ := h; exact ⟨b, h1, h2.ext he⟩
        · exact Own.ext h he
        · obtain ⟨b, r, h1, h0, h2, h3⟩ := h; exact ⟨b, r, h1, h0, h2.ext he, Own.ext h3 he⟩
        · exact h
      · intro w9 he9
        have hs9 := he9.size
        refine ⟨fun w' he' => ?_, fun w' he' => ?_, fun w' he' => ?_, fun w' he' => ?_, fun w' he' => ?_, fun w' he' => ?_, trivial⟩
        · refine St0 ?_
          exact GL.fact rfl (Ext.refl _) (by rfl)
        · refine St0 ?_
          exact GL.fact rfl (Ext.refl _) (by rfl)
        · rintro v rfl v rfl
          refine GL.buildSlice ([.slice (some ⟨b7, 0, none⟩) 32 32] ++ [.slice (some ⟨b8, 0, none⟩) 32 32]) hT rfl rfl rfl rfl rfl rfl rfl (fillL_two rfl rfl rfl rfl (madeLen _ _)) fun b9 w10 hb9 hB9 he10 => ?_
          exact GL.fact rfl he10 ⟨b9, rfl, hB9⟩
        · rintro v ⟨b9, rfl, hB9⟩
          refine GL.call rfl rfl rfl (refBytes_call 2 _ [bel.1, sd.1] any w' (bs2 hB9 (rdKey (hB7.all.ext (he9.trans he'))) (rdKey (hB8.all.ext (he9.trans he')))) (by simp) (two_len _ _)) ?_
          rintro r w10 ⟨hr, he10⟩
          have := he'.size
          exact GL.fact rfl he10 (by rw [htext]; exact hr.mono (by omega))
        · rintro v hv6
          have := he'.size
          refine GL.buildSlice [v] hT rfl rfl rfl rfl rfl rfl rfl (fillL_one hv6.some rfl (madeLen _ _)) fun b9 w10 hb9 hB9 he10 => ?_
          exact GL.fact rfl he10 ⟨b9, v, rfl, by omega, hB9, Own.ext hv6 he10⟩
        · refine St0 ?_
          exact GL.fact rfl (Ext.refl _) (by rfl)
      · rintro w9 he9 v0 rfl v1 rfl v2 - v3 - v4 ⟨b9, r, rfl, hb9, hB9, hr⟩ v5 rfl
        obtain ⟨us, hus, hown⟩ := hOw.ext he9
        have hnew : Own w2.heap.size w9 (.slice (some ⟨b9, 0, none⟩) 1 1) 1 1 32 [r] := ⟨rfl, .inr ⟨b9, 1, [], rfl, hb9, Nat.le_refl _, by rw [List.append_nil]; exact hB9, rfl⟩⟩
        have s9 := he9.size
        refine GL.append hT rfl rfl rfl rfl rfl rfl rfl rfl rfl rfl hnew hown.fresh (by simpa using hown.1) (fun u hu => (OwnBs.one hus u hu).2) (by show (1 + L.length) * 24 ≤ _; omega) (by omega) (by omega) fun r' w10 ho10 hb10 hr10 => ?_
        have hall := bytesBut (All2.cons (hr.mono (show w1.heap.size ≤ w2.heap.size by omega)) hus) hnew hb10
        refine St0 ?_
        refine G.ret1 rfl rfl rfl rfl ⟨⟨[r] ++ us, hall.imp fun u y h => h.mono (by omega), ?_⟩, ?_⟩
        · rw [List.length_cons, Nat.add_comm L.length 1]
          exact ho10.mono (by omega)
        · exact hb10.below (fun q hq => by have := (hnew.row hq).1; omega) (by omega) (he.trans (he2.trans (e28'.trans he9)))

theorem may_en {x : Prf} (h : mayB x = true) : (x.en = 0 ∨ x.en = 1 ∨ x.en = 2) ∧ x.sides.length ≤ 256 := by
  simp only [mayB, Bool.and_eq_true, decide_eq_true_eq] at h
  refine ⟨?_, h.1⟩
  have h2 := h.2
  unfold endB at h2
  by_cases h0 : x.en = 0
  · exact .inl h0
  by_cases h1 : x.en = 1
  · exact .inr (.inl h1)
  by_cases h2' : x.en = 2
  · exact .inr (.inr h2')
  · rw [if_neg h0, if_neg h1, if_neg h2'] at h2; cases h2
theorem from0_call (x : Prf) (u s : Value) (hm : mayB x = true) (hv : x.val.length ≤ 1000) (S : Where) (w : World) (h : PrfM S w x u s) :
    Does Tryd.prog 95 #[prv x u s, iv 0] w fun r w' => OwnBs w.heap.size w' r (fromP x) ∧ Ext w w' := by
  obtain ⟨h1, h2⟩ := may_en hm
  have := from_call x u s h1 hv h2 x.sides.length 0 S w (by omega) (by omega) h
  exact this
theorem refInputs_call (x : Prf) (u s : Value) (S : Where) (w : World) (h : PrfM S w x u s) (hv : x.val.length ≤ 1000) :
    Does Tryd.prog 29 #[prv x u s] w fun r w' => ∃ v, r = .tuple #[v, iv (badE (mayB x))] ∧ OwnBs w.heap.size w' v (inputsP x) ∧ Ext w w' := by
  refine call_walk Tryd.func29 (by kernel_rfl) rfl Tryd.ntmps29 rfl ?_
  refine St0 ?_
  refine GL.box rfl rfl rfl rfl fun b1 w1 hb1 hB1 he1 => ?_
  refine St0 ?_
  refine GL.loadN hT rfl rfl rfl rfl rfl hB1.all (pcells_len x u s) ?_
  refine GL.call rfl rfl rfl (refMay_call x u s S w1 (h.ext he1)) ?_
  rintro r w2 ⟨rfl, he2⟩
  replace hB1 := hB1.ext he2
  have s1 := he1.size
  have s2 := he2.size
  cases hok : mayB x
  · refine St0 ?_
    exact G.ret2 rfl rfl rfl rfl rfl ⟨_, rfl, by rw [inputsP, hok]; exact OwnBs.bare _ _ none, he1.trans he2⟩
  refine St0 ?_
  refine GL.loadN hT rfl rfl rfl rfl rfl hB1.all (pcells_len x u s) ?_
  refine GL.call rfl rfl rfl (from0_call x u s hok hv S w2 (h.ext (he1.trans he2))) ?_
  rintro r w3 ⟨hO, he3⟩
  refine St0 ?_
  exact G.ret2 rfl rfl rfl rfl rfl ⟨_, rfl, by rw [inputsP, hok]; exact hO.mono (by omega), he1.trans (he2.trans he3)⟩
theorem refRoot8_call (x : Prf) (u s : Value) (S : Where) (w : World) (h : PrfM S w x u s) (hv : x.val.length ≤ 1000) :
    Does Tryd.prog 31 #[prv x u s] w fun r w' => r = .tuple #[dv (rootV x), iv (badE (mayB x))] ∧ Ext w w' := by
  refine call_walk Tryd.func31 (by kernel_rfl) rfl Tryd.ntmps31 rfl ?_
  refine St0 ?_
  refine GL.box rfl rfl rfl rfl fun b1 w1 hb1 hB1 he1 => ?_
  refine GL.alloc hT rfl rfl rfl fun b2 w2 hb2 hB2 he2 => ?_
  have l2 := hB2.lt
  have he12 := he1.trans he2
  have s12 := he12.size
  have s1 := he1.size
  replace hB1 := hB1.ext he2
  refine St0 ?_
  refine GL.loadN hT rfl rfl rfl rfl rfl hB1.all (pcells_len x u s) ?_
  refine GL.call rfl rfl rfl (refMay_call x u s S w2 (h.ext he12)) ?_
  rintro r w3 ⟨rfl, he3⟩
  replace hB1 := hB1.ext he3
  replace hB2 := hB2.ext he3
  have he13 := he12.trans he3
  cases hok : mayB x
  · refine St0 ?_
    refine GL.storeVar hT rfl rfl rfl rfl rfl (Dig.len _) (Dig.one _) hB2 (by rw [Dig.len]; rfl) fun w4 hc4 hB4 => ?_
    refine St0 ?_
    exact G.retNt rfl rfl hT rfl rfl rfl rfl rfl hB4.all (Dig.len _) ⟨by rw [rootV, hok]; rfl, hc4.below (by omega) he13⟩
  refine St0 ?_
  refine GL.loadN hT rfl rfl rfl rfl rfl hB1.all (pcells_len x u s) ?_
  refine GL.call rfl rfl rfl (from0_call x u s hok hv S w3 (h.ext he13)) ?_
  rintro r w4 ⟨hO, he4⟩
  replace hB2 := hB2.ext he4
  obtain ⟨bo, oo, co, uo, hvo, huo, hAo⟩ := hO.rd.elem (fromL_head x 0 _)
  subst hvo
  have hsmall : ((fromP x).headD []).length ≤ 2000 := fromL_small x hv 0 x.sides _ (List.mem_of_getElem? (fromL_head x 0 _))
  have hl : (fromP x).length = x.sides.length + 1 := fromL_len x 0 _
  refine St0 ?_
  (refine GL.indexSlice (0) 1 (oo) hT rfl rfl rfl rfl rfl rfl rfl rfl ?_ ?_ ?_ ?_; (focus omega); (focus omega); (focus omega))
  refine St1 (hAo) ?_
  refine GL.call rfl rfl rfl (refSum_call uo _ _ w4 huo (by show ((fromP x).headD []).length ≤ _; omega)) ?_
  rintro r w5 ⟨rfl, he5⟩
  replace hB2 := hB2.ext he5
  refine GL.storeVar hT rfl rfl rfl rfl rfl (Dig.len _) (Dig.one _) hB2 (by rw [Dig.len]; rfl) fun w6 hc6 hB6 => ?_
  refine St0 ?_
  exact G.retNt rfl rfl hT rfl rfl rfl rfl rfl hB6.all (Dig.len _) ⟨by rw [rootV, hok]; rfl, hc6.below (by omega) (he13.trans (he4.trans he5))⟩
theorem refFits_call (x : Prf) (d : Dig) (u s : Value) (S : Where) (w : World) (h : PrfM S w x u s) (hv : x.val.length ≤ 1000) :
    Does Tryd.prog 34 #[prv x u s, dv d] w fun r w' => r = .bool (fitsB x d) ∧ Ext w w' := by
  refine call_walk Tryd.func34 (by kernel_rfl) rfl Tryd.ntmps34 rfl ?_
  refine St0 ?_
  refine GL.box rfl rfl rfl rfl fun b1 w1 hb1 hB1 he1 => ?_
  refine GL.box rfl rfl rfl rfl fun b2 w2 hb2 hB2 he2 => ?_
  have he12 := he1.trans he2
  replace hB1 := hB1.ext he2
  refine St0 ?_
  refine GL.loadN hT rfl rfl rfl rfl rfl hB1.all (pcells_len x u s) ?_
  refine GL.call rfl rfl rfl (refRoot8_call x u s S w2 (h.ext he12) hv) ?_
  rintro r w3 ⟨rfl, he3⟩
  refine St0 ?_
  refine GL.alloc hT rfl rfl rfl fun b5 w4 hb5 hB5 he4 => ?_
  have l5 := hB5.lt
  have l2 := hB2.lt
  have s3 := he3.size
  have he14 := he12.trans (he3.trans he4)
  have s12 := he12.size
  refine GL.storeVar hT rfl rfl rfl rfl rfl (Dig.len _) (Dig.one _) hB5 (by rw [Dig.len]; rfl) fun w5 hc5 hB5 => ?_
  replace hB2 := ((hB2.ext he3).ext he4).chg hc5 (by omega)
  have he15 : Ext w w5 := hc5.below (by omega) he14
  cases hok : mayB x
  · have e1 : badE false = 8 := rfl
    rw [e1]
    refine St2 (hB5.all) (hB2.all) ?_
    exact G.ret1 rfl rfl rfl rfl ⟨by rw [fitsB, hok]; rfl, he15⟩
  have e1 : badE true = 0 := rfl
  rw [e1]
  by_cases hd : rootV x = d
  · refine St2 (hB5.all) (hB2.all) ?_
    exact G.ret1 rfl rfl rfl rfl ⟨by simp [fitsB, hok, hd], he15⟩
  · refine St2 (hB5.all) (hB2.all) ?_
    exact G.ret1 rfl rfl rfl rfl ⟨by simp [fitsB, hok, hd], he15⟩
theorem same3_call (v u : Value) (xs ys : List Bytes) (S S' : Where) (w : World) (h : RdBs S w v xs) (h' : RdBs S' w u ys) (hmax : xs.length ≤ 4294967296) (hx1 : ∀ x ∈ xs, x.length ≤ 4294967296) :
    Does Tryd.prog 32 #[v, u] w fun r w' => r = .bool (decide (xs = ys)) ∧ Ext w w' := by
  refine call_walk Tryd.func32 (by kernel_rfl) rfl Tryd.ntmps32 rfl ?_
  obtain ⟨p, c, rfl, hc⟩ := h.isSlice
  obtain ⟨p', c', rfl, hc'⟩ := h'.isSlice
  refine St0 ?_
  by_cases hl : (xs.length : Int) = ys.length
  · have hl' : xs.length = ys.length := by omega
    refine St0 ?_
    refine G.sub (f' := [(5, iv ((0 : Nat) : Int)), (0, .slice p xs.length c), (1, .slice p' ys.length c')]) (by (repeat (first | exact Fr.sub_nil _ | refine Fr.sub_cons rfl ?_))) ?_
    refine G.rounds (α := Nat) (fun j f w' => j ≤ xs.length ∧ Ext w w' ∧ (∀ i, i < j → xs[i]? = ys[i]?) ∧ f = [(5, iv j), (0, .slice p xs.length c), (1, .slice p' ys.length c')]) (fun j => xs.length - j) ?round 0 ⟨by omega, Ext.refl w, fun i hi => by omega, rfl⟩
    rintro j f w1 ⟨hj, he1, heq, rfl⟩ again
    by_cases hlt : (j : Int) < xs.length
    · obtain ⟨x, hx⟩ : ∃ x, xs[j]? = some x := ⟨_, List.getElem?_eq_getElem (by omega)⟩
      obtain ⟨y, hy⟩ : ∃ y, ys[j]? = some y := ⟨_, List.getElem?_eq_getElem (by omega)⟩
      obtain ⟨b, o, c2, ux, hv, hu, hA⟩ := (h.ext he1).elem hx
      obtain ⟨b', o', c2', uy, hv', hu', hA'⟩ := (h'.ext he1).elem hy
      cases hv
      cases hv'
      have hxl := hx1 x (List.mem_of_getElem? hx)
      refine St0 ?_
      refine G.quiet follows (by kernel_rfl) ?_
      refine QSt0 ?_
      (refine GQ.indexSlice (j) 1 ((o + j)) hT rfl rfl rfl rfl rfl rfl rfl rfl ?_ ?_ ?_ ?_; (focus omega); (focus omega); (focus omega))
      refine QSt1 (hA) ?_
      (refine GQ.indexSlice (j) 1 ((o' + j)) hT rfl rfl rfl rfl rfl rfl rfl rfl ?_ ?_ ?_ ?_; (focus omega); (focus omega); (focus omega))
      refine QSt1 (hA') ?_
      refine GQ.call (v := .bool (decide (x = y))) rfl rfl rfl (fun w' he' => (same_call ux uy x y _ _ w' (RdB.ext hu he') (RdB.ext hu' he')).mono fun r w'' ⟨h1, h2⟩ => ⟨h1, by rw [h2]; exact Ext.refl _⟩) ?_
      by_cases hb : x = y
      · rw [show decide (x = y) = true by simpa using hb]
        refine QSt0 ?_
        refine GQ.nil fun w2 he2 => ?_
        refine St0 ?_
        refine G.sub (by (repeat (first | exact Fr.sub_nil _ | refine Fr.sub_cons rfl ?_))) (again (j + 1) _ _ (by omega) ⟨by omega, he1.trans he2, ?_, rfl⟩)
        intro i hi
        rcases Nat.lt_or_eq_of_le (Nat.lt_succ_iff.1 hi) with h1 | h1
        · exact heq i h1
        · subst h1
          rw [hx, hy, hb]
      · rw [show decide (x = y) = false by simpa using hb]
        refine QSt0 ?_
        refine GQ.nil fun w2 he2 => ?_
        refine St0 ?_
        refine G.ret1 rfl rfl rfl rfl ⟨?_, he1.trans he2⟩
        rw [not_eq_at (i := j)]
        rw [hx, hy]
        simpa using hb
    · refine St0 ?_
      refine G.ret1 rfl rfl rfl rfl ⟨?_, he1⟩
      rw [all_eq hl' fun i hi => heq i (by omega)]
  · refine St0 ?_
    refine G.ret1 rfl rfl rfl rfl ⟨?_, Ext.refl w⟩
    rw [not_eq_len (by omega)]

theorem lawTells8_call (x : Prf) (d : Dig) (u s : Value) (w : World) (hx : PrfM any w x u s) (hK : Kt w) :
    Does Tryd.prog 4 #[prv x u s, dv d] w fun r w' => r = .bool true ∧ Ext w w' := by
  refine call_walk Tryd.func4 (by kernel_rfl) rfl Tryd.ntmps4 rfl ?_
  refine St0 ?_
  refine GL.box rfl rfl rfl rfl fun b2 w1 hb2 hB2 he1 => ?_
  have l2 := hB2.lt
  refine GL.box rfl rfl rfl rfl fun b3 w2 hb3 hB3 he2 => ?_
  have l3 := hB3.lt
  replace hB2 := hB2.ext he2
  have he := he1.trans he2
  have s1 := he1.size
  have s2 := he2.size
  refine St0 ?_
  refine GL.loadN hT rfl rfl rfl rfl rfl hB2.all (pcells_len x u s) ?_
  refine GL.call rfl rfl rfl (great7_call x u s _ w2 (hx.ext he)) ?_
  rintro r w3 ⟨rfl, he3⟩
  replace hB2 := hB2.ext he3
  replace hB3 := hB3.ext he3
  have s3 := he3.size
  have e3 := he.trans he3
  cases hgx : decide (100 < x.val.length) || decide (300 < x.sides.length)
  case true =>
    refine St0 ?_
    exact G.ret1 rfl rfl rfl rfl ⟨rfl, e3⟩
  have hxv : x.val.length ≤ 100 ∧ x.sides.length ≤ 300 := by simpa using hgx
  refine St1 (hB2.all) ?_
  refine GL.call rfl rfl rfl (ref7Twin_call x u s _ w3 (hx.ext e3) (by omega) (by omega)) ?_
  rintro r w5 ⟨ua, sa, rfl, hown, he5⟩
  replace hB2 := hB2.ext he5
  replace hB3 := hB3.ext he5
  have s5 := he5.size
  refine GL.alloc hT rfl rfl rfl fun b5 w6 hb5 hB5 he6 => ?_
  have l5 := hB5.lt
  have s6 := he6.size
  replace hB2 := hB2.ext he6
  replace hB3 := hB3.ext he6
  refine GL.storeVar hT rfl rfl rfl rfl rfl (pcells_len x ua sa) (pcells_one x hown.val.one hown.sides.one) hB5 (by rw [pcells_len]; decide) fun w7 hc7 hB5 => ?_
  have s7 := hc7.size
  have e7 : Ext w w7 := hc7.below (by omega) (e3.trans (he5.trans he6))
  have he7 : Ext w5 w7 := hc7.below (by omega) he6
  replace hB2 := hB2.chg hc7 (by omega)
  replace hB3 := hB3.chg hc7 (by omega)
  have ho : PrfM any w7 x ua sa := (hown.m.ext he7).imp fun _ _ _ => trivial
  have hxx : PrfM any w7 x u s := hx.ext e7
  have hK7 := hK.ext e7
  refine St1 (hB5.all) ?_
  refine GL.call rfl rfl rfl (inputs_call x ua sa _ w7 ho (by omega) (by omega) hK7) ?_
  rintro r w8 ⟨va, rfl, hva, he8⟩
  replace hB2 := hB2.ext he8
  replace hB3 := hB3.ext he8
  replace hB5 := hB5.ext he8
  refine St1 (hB2.all) ?_
  refine GL.call rfl rfl rfl (refInputs_call x u s _ w8 (hxx.ext he8) (by omega)) ?_
  rintro r w9 ⟨vb, rfl, hvb, he9⟩
  replace hB2 := hB2.ext he9
  replace hB3 := hB3.ext he9
  replace hB5 := hB5.ext he9
  replace hva := hva.ext he9
  have e79 := he8.trans he9
  refine St1 (hB5.all) ?_
  refine GL.call rfl rfl rfl (vroot_call x ua sa _ w9 (ho.ext e79) (by omega) (by omega) (hK7.ext e79)) ?_
  rintro r w10 ⟨rfl, he10⟩
  replace hB2 := hB2.ext he10
  replace hB3 := hB3.ext he10
  replace hB5 := hB5.ext he10
  replace hva := hva.ext he10
  replace hvb := hvb.ext he10
  have e710 := e79.trans he10
  refine St0 ?_
  refine GL.alloc hT rfl rfl rfl fun b10 w11 hb10 hB10 he11 => ?_
  have l10 := hB10.lt
  have lx2 := hB2.lt
  have lx3 := hB3.lt
  have lx5 := hB5.lt
  replace hB2 := hB2.ext he11
  replace hB3 := hB3.ext he11
  replace hB5 := hB5.ext he11
  have e711 := e710.trans he11
  have s711 := e711.size
  have s710 := e710.size
  refine GL.storeVar hT rfl rfl rfl rfl rfl (Dig.len _) (Dig.one _) hB10 (by rw [Dig.len]; rfl) fun w12 hc12 hB10 => ?_
  replace hB2 := hB2.chg hc12 (by omega)
  replace hB3 := hB3.chg hc12 (by omega)
  replace hB5 := hB5.chg hc12 (by omega)
  have e712 : Ext w7 w12 := hc12.below (by omega) e711
  have e1012 : Ext w10 w12 := hc12.below (by omega) he11
  replace hva := hva.ext e1012
  replace hvb := hvb.ext e1012
  refine St1 (hB2.all) ?_
  refine GL.call rfl rfl rfl (refRoot8_call x u s _ w12 (hxx.ext e712) (by omega)) ?_
  rintro r w13 ⟨rfl, he13⟩
  replace hB2 := hB2.ext he13
  replace hB3 := hB3.ext he13
  replace hB5 := hB5.ext he13
  replace hB10 := hB10.ext he13
  replace hva := hva.ext he13
  replace hvb := hvb.ext he13
  have e713 := e712.trans he13
  have s713 := e713.size
  refine St0 ?_
  refine GL.alloc hT rfl rfl rfl fun b12 w14 hb12 hB12 he14 => ?_
  have l12 := hB12.lt
  have ly2 := hB2.lt
  have ly3 := hB3.lt
  have ly5 := hB5.lt
  have ly10 := hB10.lt
  replace hB2 := hB2.ext he14
  replace hB3 := hB3.ext he14
  replace hB5 := hB5.ext he14
  replace hB10 := hB10.ext he14
  refine GL.storeVar hT rfl rfl rfl rfl rfl (Dig.len _) (Dig.one _) hB12 (by rw [Dig.len]; rfl) fun w15 hc15 hB12 => ?_
  replace hB2 := hB2.chg hc15 (by omega)
  replace hB3 := hB3.chg hc15 (by omega)
  replace hB5 := hB5.chg hc15 (by omega)
  replace hB10 := hB10.chg hc15 (by omega)
  have e715 : Ext w7 w15 := hc15.below (by omega) (e713.trans he14)
  have e1315 : Ext w13 w15 := hc15.below (by omega) he14
  replace hva := hva.ext e1315
  replace hvb := hvb.ext e1315
  have hxs := fromL_small x (by omega : x.val.length ≤ 1000) 0 x.sides
  have hil : (inputsP x).length ≤ 301 ∧ ∀ y ∈ inputsP x, y.length ≤ 4294967296 := by
    unfold inputsP
    split
    · exact ⟨by rw [fromP, fromL_len]; omega, fun y hy => by have := hxs y hy; omega⟩
    · exact ⟨by simp, fun y hy => by cases hy⟩
  have eE : w.heap.size ≤ w7.heap.size := e7.size
  refine St0 ?_
  refine GL.call rfl rfl rfl (same3_call va vb _ _ _ _ w15 hva.rd hvb.rd (by omega) hil.2) ?_
  rintro r w16 ⟨rfl, he16⟩
  replace hB2 := hB2.ext he16
  replace hB3 := hB3.ext he16
  replace hB5 := hB5.ext he16
  replace hB10 := hB10.ext he16
  replace hB12 := hB12.ext he16
  have e716 := e715.trans he16
  rw [decide_eq_true (rfl : inputsP x = inputsP x)]
  have hrr : rootV x = rootV x := rfl
  refine St2 (hB10.all) (hB12.all) ?_
  have hself : (fitsB x d == fitsB x d) = true := by simp
  cases hok : mayB x
  · have e1 : badE false = 8 := rfl
    rw [e1]
    refine G.quiet follows (by kernel_rfl) ?_
    refine QSt2 (hB5.all) (hB3.all) ?_
    refine GQ.call rfl rfl rfl (fun w' he' => vfits_call x d ua sa _ w' ((ho.ext e716).ext he') (by omega) (by omega) ((hK7.ext e716).ext he')) ?_
    refine QSt2 (hB2.all) (hB3.all) ?_
    refine GQ.call rfl rfl rfl (fun w' he' => refFits_call x d u s _ w' ((hxx.ext e716).ext he') (by omega)) ?_
    refine QSt0 ?_
    rw [hself]
    refine QSt0 ?_
    refine QSt2 (hB5.all) (hB2.all) ?_
    refine GQ.call (v := .bool true) rfl rfl rfl (fun w' he' => (ref7Same_call x x ua sa u s _ _ w' ((ho.ext e716).ext he') ((hxx.ext e716).ext he') (by omega) (by omega)).mono fun r w'' ⟨h1, h2⟩ => ⟨by rw [h1]; simp, h2⟩) ?_
    refine QSt0 ?_
    refine GQ.nil fun w17 he17 => ?_
    refine St0 ?_
    exact G.ret1 rfl rfl rfl rfl ⟨rfl, e7.trans (e716.trans he17)⟩
  · have e1 : badE true = 0 := rfl
    rw [e1]
    refine G.quiet follows (by kernel_rfl) ?_
    refine QSt2 (hB5.all) (hB3.all) ?_
    refine GQ.call rfl rfl rfl (fun w' he' => vfits_call x d ua sa _ w' ((ho.ext e716).ext he') (by omega) (by omega) ((hK7.ext e716).ext he')) ?_
    refine QSt2 (hB2.all) (hB3.all) ?_
    refine GQ.call rfl rfl rfl (fun w' he' => refFits_call x d u s _ w' ((hxx.ext e716).ext he') (by omega)) ?_
    refine QSt0 ?_
    rw [hself]
    refine QSt0 ?_
    refine QSt2 (hB5.all) (hB12.all) ?_
    refine GQ.call (v := .bool true) rfl rfl rfl (fun w' he' => (vfits_call x (rootV x) ua sa _ w' ((ho.ext e716).ext he') (by omega) (by omega) ((hK7.ext e716).ext he')).mono fun r w'' ⟨h1, h2⟩ => ⟨by rw [h1, fitsB, hok]; simp, h2⟩) ?_
    refine QSt2 (hB5.all) (hB2.all) ?_
    refine GQ.call (v := .bool true) rfl rfl rfl (fun w' he' => (ref7Same_call x x ua sa u s _ _ w' ((ho.ext e716).ext he') ((hxx.ext e716).ext he') (by omega) (by omega)).mono fun r w'' ⟨h1, h2⟩ => ⟨by rw [h1]; simp, h2⟩) ?_
    refine QSt0 ?_
    refine GQ.nil fun w17 he17 => ?_
    refine St0 ?_
    exact G.ret1 rfl rfl rfl rfl ⟨rfl, e7.trans (e716.trans he17)⟩
end Go.Proofs.YtefneilaongpbaaDoor
