/-
  Copies of proofs.
-/
import Derived.Test.YtefneilaongpbaaPrf3
import Derived.Test.YtefneilaongpbaaRes
set_option linter.unusedVariables false
set_option linter.unusedSimpArgs false
set_option maxRecDepth 100000
set_option maxHeartbeats 4000000
namespace Go.Proofs.Ytefneilaongpbaa
open Go Go.Bd Go.RowKit
attribute [local irreducible] G GL GQ

theorem splice65 (x : Prf) (u s u' : Value) : splice (pcells x u s) 65 [u'] = pcells x u' s := by
  have e : pcells x u s = (x.key.cells ++ (bv x.en :: x.other.cells)) ++ [u, s] := by simp [pcells]
  have e' : pcells x u' s = (x.key.cells ++ (bv x.en :: x.other.cells)) ++ [u', s] := by simp [pcells]
  rw [e, e']
  have hl : (x.key.cells ++ (bv x.en :: x.other.cells)).length = 65 := by simp [Dig.len]
  simp only [splice, List.length_cons, List.length_nil]
  rw [← hl, List.take_left, List.drop_append]
  simp
theorem splice66 (x : Prf) (u s s' : Value) : splice (pcells x u s) 66 [s'] = pcells x u s' := by
  have e : pcells x u s = (x.key.cells ++ (bv x.en :: (x.other.cells ++ [u]))) ++ [s] := by simp [pcells]
  have e' : pcells x u s' = (x.key.cells ++ (bv x.en :: (x.other.cells ++ [u]))) ++ [s'] := by simp [pcells]
  rw [e, e']
  have hl : (x.key.cells ++ (bv x.en :: (x.other.cells ++ [u]))).length = 66 := by simp [Dig.len]
  simp only [splice, List.length_cons, List.length_nil]
  rw [← hl, List.take_left, List.drop_append]
  simp
/-- A copy's slices: in new memory of their own. -/
structure PrfOwn (B : Nat) (w : World) (x : Prf) (u s : Value) : Prop where
  val : OwnB B w u x.val
  sides : OwnD B w s x.sides
theorem PrfOwn.m {B : Nat} {w : World} {x : Prf} {u s : Value} (h : PrfOwn B w x u s) : PrfM (fresh B) w x u s := ⟨h.val.fresh, h.sides.fresh⟩
theorem _root_.Go.Bd.Own.one {B : Nat} {w : World} {v : Value} {n sz : Nat} {T : TypeId} {cs : List Value} (h : Own B w v n sz T cs) : v.oneCell' = true := by obtain ⟨p, c, rfl⟩ := h.shape; rfl
theorem _root_.Go.Bd.Own.some {B : Nat} {w : World} {v : Value} {n sz : Nat} {T : TypeId} {cs : List Value} (h : Own B w v n sz T cs) : v.cells = #[v] := by obtain ⟨p, c, rfl⟩ := h.shape; rfl

theorem ref7Twin_call (x : Prf) (u s : Value) (S : Where) (w : World) (h : PrfM S w x u s) (hl : x.val.length ≤ 140737488355328) (hs : x.sides.length ≤ 4294967296) : Does Try.prog 8 #[prv x u s] w (fun r w' => ∃ u' s', r = prv x u' s' ∧ PrfOwn w.heap.size w' x u' s' ∧ Ext w w') := by
  refine call_walk Try.func8 (by kernel_rfl) rfl Try.ntmps8 rfl ?_
  refine St0 ?_
  refine GL.box rfl rfl rfl rfl fun b w1 hb hB he1 => ?_
  have l1 := hB.lt
  refine GL.alloc hT rfl rfl rfl fun b2 w2 hb2 hB2 he2 => ?_
  have l2 := hB2.lt
  replace hB := hB.ext he2
  have s1 := he1.size
  have s2 := he2.size
  have hh := (h.ext he1).ext he2
  refine St1 ((pat hB.all).2.2.2.1) ?_
  refine GL.call rfl rfl rfl (refTwin_call u x.val _ w2 hh.val hl) ?_
  rintro u' w3 ⟨hu, he3⟩
  replace hB := hB.ext he3
  replace hB2 := hB2.ext he3
  have s3 := he3.size
  have hlow : ∀ k, rowOf u' = some k → k < w3.heap.size := fun k hk => (hu.row hk).2
  have hlow' : ∀ k, rowOf u' = some k → w2.heap.size ≤ k := fun k hk => (hu.row hk).1
  refine St0 ?_
  refine GL.store1 hT rfl rfl rfl rfl rfl hu.some hu.one hB (by rw [pcells_len]; decide) fun w4 hc4 hB' => ?_
  have e65 : (pcells x u s).set (0 + 65) u' = pcells x u' s := by
    rw [← splice65 x u s u']; simp [splice, List.set_eq_take_append_cons_drop, pcells_len]
  rw [e65] at hB'
  replace hu := hu.keep (w' := w4) (fun g hg _ => hc4.block g (by have := hu.row hg; omega)) (by decide)
  replace hB2 := hB2.chg hc4 (by omega)
  have he4 : Ext w w4 := hc4.below (by omega) (he1.trans (he2.trans he3))
  replace hh := h.ext he4
  have s4 := hc4.size
  refine St1 ((pat hB'.all).2.2.2.2) ?_
  refine GL.append hT rfl rfl rfl rfl rfl rfl rfl rfl rfl rfl (Own.bare w.heap.size w4 none 32 _) hh.sides (dcells_length _) (dcells_one _) (by show (0 + x.sides.length) * 32 ≤ _; omega) (by omega) (by omega) fun s' w5 hs' hb5 hrow => ?_
  rw [Nat.zero_add, List.nil_append] at hs'
  have he5 : Ext w4 w5 := hb5.ext
  replace hB' := hB'.ext he5
  replace hB2 := hB2.ext he5
  replace hu := hu.ext he5
  refine St0 ?_
  refine GL.store1 hT rfl rfl rfl rfl rfl hs'.some hs'.one hB' (by rw [pcells_len]; decide) fun w6 hc6 hB'' => ?_
  have e66 : (pcells x u' s).set (0 + 66) s' = pcells x u' s' := by
    rw [← splice66 x u' s s']; simp [splice, List.set_eq_take_append_cons_drop, pcells_len]
  rw [e66] at hB''
  have hrow' : ∀ k, rowOf s' = some k → w4.heap.size ≤ k := by
    intro k hk
    rcases hrow with h | h
    · rw [h] at hk; simp [rowOf] at hk
    · rw [h.1] at hk; cases hk; omega
  replace hu := hu.keep (w' := w6) (fun g hg _ => hc6.block g (by have := hu.row hg; omega)) (by decide)
  have s5 := he5.size
  replace hs' := hs'.keep (w' := w6) (fun g hg _ => hc6.block g (by have := hrow' g hg; omega)) (by decide)
  replace hB2 := hB2.chg hc6 (by omega)
  have he6 : Ext w w6 := hc6.below (by omega) (he4.trans he5)
  refine St0 ?_
  refine GL.loadN hT rfl rfl rfl rfl rfl hB''.all (pcells_len x u' s') ?_
  refine St0 ?_
  refine GL.storeVar hT rfl rfl rfl rfl rfl (pcells_len x u' s') (pcells_one x hu.one hs'.one) hB2 (by rw [pcells_len]; decide) fun w7 hc7 hB7 => ?_
  refine St0 ?_
  have s6 := hc6.size
  refine G.retN rfl rfl hT rfl rfl rfl rfl hB7.all (pcells_len x u' s') ⟨u', s', rfl, ⟨?_, ?_⟩, hc7.below (by omega) he6⟩
  · exact (hu.keep (fun g hg _ => hc7.block g (by have := hlow' g hg; omega)) (by decide)).mono (by omega)
  · exact hs'.keep (fun g hg _ => hc7.block g (by have := hrow' g hg; omega)) (by decide)

theorem pTwin_call (x : Prf) (u s : Value) (S : Where) (w : World) (h : PrfM S w x u s) (hl : x.val.length ≤ 140737488355328) (hs : x.sides.length ≤ 4294967296) : Does Try.prog 11 #[prv x u s] w (fun r w' => ∃ u' s', r = prv x u' s' ∧ PrfOwn w.heap.size w' x u' s' ∧ Ext w w') := by
  refine call_walk Try.func11 (by kernel_rfl) rfl Try.ntmps11 rfl ?_
  refine St0 ?_
  refine GL.box rfl rfl rfl rfl fun b w1 hb hB he1 => ?_
  have l1 := hB.lt
  refine GL.alloc hT rfl rfl rfl fun b2 w2 hb2 hB2 he2 => ?_
  have l2 := hB2.lt
  replace hB := hB.ext he2
  have s1 := he1.size
  have s2 := he2.size
  have hh := (h.ext he1).ext he2
  have hP := pat hB.all
  refine St0 ?_
  refine G.draw 7 [(1, ptr b 0), (2, ptr b2 0)] (fun i v w' => match i with
    | 0 => ptr b 65 = v | 1 => u = v | 2 => OwnB w2.heap.size w' v x.val | 3 => ptr b 66 = v | 4 => s = v | 5 => OwnD w2.heap.size w' v x.sides | _ => ptr b 65 = v) follows (by kernel_rfl) (by kernel_rfl) (by kernel_rfl) (by kernel_rfl) (by (repeat (first | exact Fr.sub_nil _ | refine Fr.sub_cons rfl ?_))) ?mono ?obs ?fin
  case mono =>
    intro i v w3 w4 he h
    rcases i with _ | _ | _ | _ | _ | _ | i <;> first | exact h | exact Own.ext h he
  case obs =>
    intro w0 he0
    refine ⟨fun w' he' => ?_, fun w' he' => ?_, fun w' he' => ?_, fun w' he' => ?_, fun w' he' => ?_, fun w' he' => ?_, fun w' he' => ?_, trivial⟩
    · refine St0 ?_
      exact GL.fact rfl (Ext.refl _) rfl
    · rintro v rfl
      refine St1 (hP.2.2.2.1.ext (he0.trans he')) ?_
      exact GL.fact rfl (Ext.refl _) rfl
    · rintro v rfl
      refine GL.call rfl rfl rfl (cloneB_call _ x.val _ w' (hh.val.ext (he0.trans he')) hl) ?_
      rintro r w'' ⟨ho, he''⟩
      exact GL.fact rfl he'' (ho.mono (Nat.le_trans he0.size he'.size))
    · refine St0 ?_
      exact GL.fact rfl (Ext.refl _) rfl
    · rintro v rfl
      refine St1 (hP.2.2.2.2.ext (he0.trans he')) ?_
      exact GL.fact rfl (Ext.refl _) rfl
    · rintro v rfl
      refine GL.call rfl rfl rfl (cloneD_call _ x.sides _ w' (hh.sides.ext (he0.trans he')) hs) ?_
      rintro r w'' ⟨ho, he''⟩
      exact GL.fact rfl he'' (ho.mono (Nat.le_trans he0.size he'.size))
    · refine St0 ?_
      exact GL.fact rfl (Ext.refl _) rfl
  case fin =>
    rintro w3 he3 v0 rfl v1 rfl u' hu v3 rfl v4 rfl s' hs' v6 rfl
    replace hB := hB.ext he3
    replace hB2 := hB2.ext he3
    have s3 := he3.size
    refine GL.store1 hT rfl rfl rfl rfl rfl hu.some hu.one hB (by rw [pcells_len]; decide) fun w4 hc4 hB' => ?_
    have e65 : (pcells x u s).set 65 u' = pcells x u' s := by
      rw [← splice65 x u s u']; simp [splice, List.set_eq_take_append_cons_drop, pcells_len]
    rw [e65] at hB'
    replace hu := hu.keep (w' := w4) (fun g hg _ => hc4.block g (by have := hu.row hg; omega)) (by decide)
    replace hs' := hs'.keep (w' := w4) (fun g hg _ => hc4.block g (by have := hs'.row hg; omega)) (by decide)
    replace hB2 := hB2.chg hc4 (by omega)
    have he4 : Ext w w4 := hc4.below (by omega) (he1.trans (he2.trans he3))
    have s4 := hc4.size
    refine St0 ?_
    refine GL.store1 hT rfl rfl rfl rfl rfl hs'.some hs'.one hB' (by rw [pcells_len]; decide) fun w6 hc6 hB'' => ?_
    have e66 : (pcells x u' s).set (0 + 66) s' = pcells x u' s' := by
      rw [← splice66 x u' s s']; simp [splice, List.set_eq_take_append_cons_drop, pcells_len]
    rw [e66] at hB''
    replace hu := hu.keep (w' := w6) (fun g hg _ => hc6.block g (by have := hu.row hg; omega)) (by decide)
    replace hs' := hs'.keep (w' := w6) (fun g hg _ => hc6.block g (by have := hs'.row hg; omega)) (by decide)
    replace hB2 := hB2.chg hc6 (by omega)
    have he6 : Ext w w6 := hc6.below (by omega) he4
    refine St0 ?_
    refine GL.loadN hT rfl rfl rfl rfl rfl hB''.all (pcells_len x u' s') ?_
    refine St0 ?_
    refine GL.storeVar hT rfl rfl rfl rfl rfl (pcells_len x u' s') (pcells_one x hu.one hs'.one) hB2 (by rw [pcells_len]; decide) fun w7 hc7 hB7 => ?_
    refine St0 ?_
    refine G.retN rfl rfl hT rfl rfl rfl rfl hB7.all (pcells_len x u' s') ⟨u', s', rfl, ⟨?_, ?_⟩, hc7.below (by omega) he6⟩
    · exact (hu.keep (fun g hg _ => hc7.block g (by have := hu.row hg; omega)) (by decide)).mono (by omega)
    · exact (hs'.keep (fun g hg _ => hc7.block g (by have := hs'.row hg; omega)) (by decide)).mono (by omega)
end Go.Proofs.Ytefneilaongpbaa
