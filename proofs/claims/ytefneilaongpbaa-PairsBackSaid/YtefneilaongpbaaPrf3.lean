/-
  proof.Check, Told; the document's Check, Told; copies; sizes.
-/
import Derived.Test.YtefneilaongpbaaPrf2
set_option linter.unusedVariables false
set_option linter.unusedSimpArgs false
set_option maxRecDepth 100000
set_option maxHeartbeats 4000000
namespace Go.Proofs.Ytefneilaongpbaa
open Go Go.Bd Go.RowKit
attribute [local irreducible] G GL GQ

theorem check1_call (x : Prf) (u s : Value) (b : Nat) (S S' : Where) (w : World) (h : PrfM S w x u s) (hB : At S' w b 0 (pcells x u s)) : Does Try.prog 45 #[ptr b 0] w (fun r w' => r = .bool (endB x) ∧ Ext w w') := by
  refine call_walk Try.func45 (by kernel_rfl) rfl Try.ntmps45 rfl ?_
  obtain ⟨pu, cu, rfl, hcu⟩ := RdF.isSlice h.val
  obtain ⟨ps, cs, rfl, hcs⟩ := RdF.isSlice h.sides
  obtain ⟨hk, hen, ho, hv, hs⟩ := pat hB
  refine St5 (hk) (hen) (ho) (hv) (hs) ?_
  by_cases h0 : (x.en.toNat : Int) = 0
  · have h0' := en0.1 h0
    refine St5 (hk) (hen) (ho) (hv) (hs) ?_
    by_cases hz : x.other = Dig.zero
    · refine St5 (hk) (hen) (ho) (hv) (hs) ?_
      by_cases hl : (x.val.length : Int) = 0
      · refine St0 ?_
        exact G.ret1 rfl rfl rfl rfl ⟨by simp [endB, h0', hz, nil_iff.1 hl], Ext.refl w⟩
      · refine St0 ?_
        exact G.ret1 rfl rfl rfl rfl ⟨by simp [endB, h0', hz, mt nil_iff.2 hl], Ext.refl w⟩
    · refine St5 (hk) (hen) (ho) (hv) (hs) ?_
      exact G.ret1 rfl rfl rfl rfl ⟨by simp [endB, h0', hz], Ext.refl w⟩
  have h0' := mt en0.2 h0
  refine St0 ?_
  by_cases h1 : (x.en.toNat : Int) = 1
  · have h1' := en1.1 h1
    refine St5 (hk) (hen) (ho) (hv) (hs) ?_
    by_cases hz : x.other = Dig.zero
    · refine St5 (hk) (hen) (ho) (hv) (hs) ?_
      refine GL.call rfl rfl rfl (proofValue_call _ _ _ w h.val) ?_
      rintro r w2 ⟨rfl, he⟩
      refine St0 ?_
      exact G.ret1 rfl rfl rfl rfl ⟨by simp [endB, h1', hz], he⟩
    · refine St5 (hk) (hen) (ho) (hv) (hs) ?_
      exact G.ret1 rfl rfl rfl rfl ⟨by simp [endB, h1', hz], Ext.refl w⟩
  have h1' := mt en1.2 h1
  refine St0 ?_
  by_cases h2 : (x.en.toNat : Int) = 2
  · have h2' := en2.1 h2
    refine St0 ?_
    refine G.quietTail 21 follows (by kernel_rfl) (by kernel_rfl) (by kernel_rfl) (by kernel_rfl) ?_
    refine QSt5 (hk) (hen) (ho) (hv) (hs) ?_
    refine GQ.call rfl rfl rfl (fun w' he' => proofValue_call _ _ _ w' (h.val.ext he')) ?_
    cases hok : valB x.val.length
    · refine QSt0 ?_
      refine GQ.tail fun w2 he2 => ?_
      refine St0 ?_
      exact G.ret1 rfl rfl rfl rfl ⟨by simp [endB, h2', hok], he2⟩
    · refine QSt5 (hk) (hen) (ho) (hv) (hs) ?_
      by_cases hz : x.other = x.key
      · refine QSt0 ?_
        refine GQ.tail fun w2 he2 => ?_
        refine St0 ?_
        exact G.ret1 rfl rfl rfl rfl ⟨by simp [endB, h2', hz], he2⟩
      · refine QSt5 (hk) (hen) (ho) (hv) (hs) ?_
        refine GQ.call rfl rfl rfl (fun w' he' => shared_call x.other x.key w') ?_
        refine QSt5 (hk) (hen) (ho) (hv) (hs) ?_
        by_cases hle : ((sharedB x.other x.key : Nat) : Int) ≥ x.sides.length
        · refine QSt0 ?_
          refine GQ.tail fun w2 he2 => ?_
          refine St0 ?_
          exact G.ret1 rfl rfl rfl rfl ⟨by simp [endB, h2', hz, hok]; omega, he2⟩
        · refine QSt0 ?_
          refine GQ.tail fun w2 he2 => ?_
          refine St0 ?_
          exact G.ret1 rfl rfl rfl rfl ⟨by simp [endB, h2', hz, hok]; omega, he2⟩
  have h2' := mt en2.2 h2
  refine St0 ?_
  exact G.ret1 rfl rfl rfl rfl ⟨by simp [endB, h0', h1', h2'], Ext.refl w⟩

theorem check_call (x : Prf) (u s : Value) (S : Where) (w : World) (h : PrfM S w x u s) : Does Try.prog 12 #[prv x u s] w (fun r w' => r = iv (badE (mayB x)) ∧ Ext w w') := by
  refine call_walk Try.func12 (by kernel_rfl) rfl Try.ntmps12 rfl ?_
  obtain ⟨ps, cs, rfl, hcs⟩ := RdF.isSlice h.sides
  refine St0 ?_
  refine GL.box rfl rfl rfl rfl fun b w1 hb hB he => ?_
  obtain ⟨hk, hen, ho, hv, hs⟩ := pat hB.all
  refine St1 (hs) ?_
  by_cases h256 : (x.sides.length : Int) > 256
  · refine St0 ?_
    exact G.ret1 rfl rfl rfl rfl ⟨by have : mayB x = false := by simp [mayB]; omega
                                     rw [this]; rfl, he⟩
  have hm : mayB x = endB x := by simp [mayB]; omega
  rw [hm]
  refine St0 ?_
  refine GL.callv (first := []) (cap := [ptr b 0]) rfl rfl rfl rfl (check1_call x u _ b any any w1 ((h.ext he).imp fun _ _ _ => trivial) hB.all) ?_
  rintro r w2 ⟨rfl, he2⟩
  cases hok : endB x
  · refine St0 ?_
    exact G.ret1 rfl rfl rfl rfl ⟨rfl, he.trans he2⟩
  · refine St0 ?_
    exact G.ret1 rfl rfl rfl rfl ⟨rfl, he.trans he2⟩

theorem refCheck_call (x : Prf) (u s : Value) (S : Where) (w : World) (h : PrfM S w x u s) : Does Try.prog 13 #[prv x u s] w (fun r w' => r = iv (badE (mayB x)) ∧ Ext w w') := by
  refine call_walk Try.func13 (by kernel_rfl) rfl Try.ntmps13 rfl ?_
  refine St0 ?_
  refine GL.box rfl rfl rfl rfl fun b w1 hb hB he => ?_
  refine St0 ?_
  refine GL.loadN hT rfl rfl rfl rfl rfl hB.all (pcells_len x u s) ?_
  refine GL.call rfl rfl rfl (refMay_call x u s _ w1 (h.ext he)) ?_
  rintro r w2 ⟨rfl, he2⟩
  cases hok : mayB x
  · refine St0 ?_
    exact G.ret1 rfl rfl rfl rfl ⟨rfl, he.trans he2⟩
  · refine St0 ?_
    exact G.ret1 rfl rfl rfl rfl ⟨rfl, he.trans he2⟩

/-- What a proof tells. -/
def toldB (x : Prf) : Bool := mayB x && decide (x.en = 1)
def toldV (x : Prf) : Bytes := if toldB x then x.val else []
theorem told_call (x : Prf) (u s : Value) (S : Where) (w : World) (h : PrfM S w x u s) (hl : x.val.length ≤ 140737488355328) : Does Try.prog 9 #[prv x u s] w (fun r w' => ∃ v, r = .tuple #[v, .bool (toldB x)] ∧ OwnB w.heap.size w' v (toldV x) ∧ Ext w w') := by
  refine call_walk Try.func9 (by kernel_rfl) rfl Try.ntmps9 rfl ?_
  refine St0 ?_
  refine GL.box rfl rfl rfl rfl fun b w1 hb hB he => ?_
  refine St0 ?_
  refine GL.loadN hT rfl rfl rfl rfl rfl hB.all (pcells_len x u s) ?_
  refine GL.call rfl rfl rfl (check_call x u s _ w1 (h.ext he)) ?_
  rintro r w2 ⟨rfl, he2⟩
  replace hB := hB.ext he2
  obtain ⟨hk, hen, ho, hv, hs⟩ := pat hB.all
  cases hok : mayB x
  · have e0 : toldB x = false := by simp [toldB, hok]
    have e2 : toldV x = [] := by simp [toldV, e0]
    have e1 : badE false = 8 := rfl
    rw [e1]
    refine St0 ?_
    exact G.ret2 rfl rfl rfl rfl rfl ⟨_, by rw [e0], by rw [e2]; exact Own.bare _ _ none 1 _, he.trans he2⟩
  · have e1 : badE true = 0 := rfl
    rw [e1]
    refine St1 (hen) ?_
    by_cases h1 : (x.en.toNat : Int) = 1
    · have e0 : toldB x = true := by simp [toldB, hok, en1.1 h1]
      have e2 : toldV x = x.val := by simp [toldV, e0]
      refine St1 (hv) ?_
      refine GL.call rfl rfl rfl (cloneB_call u x.val _ w2 ((h.val.ext he).ext he2) hl) ?_
      rintro v w3 ⟨hown, he3⟩
      refine St0 ?_
      exact G.ret2 rfl rfl rfl rfl rfl ⟨_, by rw [e0], by rw [e2]; exact hown.mono (Nat.le_trans he.size he2.size), (he.trans he2).trans he3⟩
    · have e0 : toldB x = false := by simp [toldB, mt en1.2 h1]
      have e2 : toldV x = [] := by simp [toldV, e0]
      refine St0 ?_
      exact G.ret2 rfl rfl rfl rfl rfl ⟨_, by rw [e0], by rw [e2]; exact Own.bare _ _ none 1 _, he.trans he2⟩
theorem refTold_call (x : Prf) (u s : Value) (S : Where) (w : World) (h : PrfM S w x u s) (hl : x.val.length ≤ 140737488355328) : Does Try.prog 10 #[prv x u s] w (fun r w' => ∃ v, r = .tuple #[v, .bool (toldB x)] ∧ OwnB w.heap.size w' v (toldV x) ∧ Ext w w') := by
  refine call_walk Try.func10 (by kernel_rfl) rfl Try.ntmps10 rfl ?_
  refine St0 ?_
  refine GL.box rfl rfl rfl rfl fun b w1 hb hB he => ?_
  refine St0 ?_
  refine GL.loadN hT rfl rfl rfl rfl rfl hB.all (pcells_len x u s) ?_
  refine GL.call rfl rfl rfl (refMay_call x u s _ w1 (h.ext he)) ?_
  rintro r w2 ⟨rfl, he2⟩
  replace hB := hB.ext he2
  obtain ⟨hk, hen, ho, hv, hs⟩ := pat hB.all
  cases hok : mayB x
  · have e0 : toldB x = false := by simp [toldB, hok]
    have e2 : toldV x = [] := by simp [toldV, e0]
    refine St0 ?_
    exact G.ret2 rfl rfl rfl rfl rfl ⟨_, by rw [e0], by rw [e2]; exact Own.bare _ _ none 1 _, he.trans he2⟩
  · refine St1 (hen) ?_
    by_cases h1 : (x.en.toNat : Int) = 1
    · have e0 : toldB x = true := by simp [toldB, hok, en1.1 h1]
      have e2 : toldV x = x.val := by simp [toldV, e0]
      refine St1 (hv) ?_
      refine GL.call rfl rfl rfl (refTwin_call u x.val _ w2 ((h.val.ext he).ext he2) hl) ?_
      rintro v w3 ⟨hown, he3⟩
      refine St0 ?_
      exact G.ret2 rfl rfl rfl rfl rfl ⟨_, by rw [e0], by rw [e2]; exact hown.mono (Nat.le_trans he.size he2.size), (he.trans he2).trans he3⟩
    · have e0 : toldB x = false := by simp [toldB, mt en1.2 h1]
      have e2 : toldV x = [] := by simp [toldV, e0]
      refine St0 ?_
      exact G.ret2 rfl rfl rfl rfl rfl ⟨_, by rw [e0], by rw [e2]; exact Own.bare _ _ none 1 _, he.trans he2⟩

theorem great7_call (x : Prf) (u s : Value) (S : Where) (w : World) (h : PrfM S w x u s) : Does Try.prog 7 #[prv x u s] w (fun r w' => r = .bool (decide (100 < x.val.length) || decide (300 < x.sides.length)) ∧ Ext w w') := by
  refine call_walk Try.func7 (by kernel_rfl) rfl Try.ntmps7 rfl ?_
  obtain ⟨pu, cu, rfl, hcu⟩ := RdF.isSlice h.val
  obtain ⟨ps, cs, rfl, hcs⟩ := RdF.isSlice h.sides
  refine St0 ?_
  refine GL.box rfl rfl rfl rfl fun b w1 hb hB he => ?_
  obtain ⟨hk, hen, ho, hv, hs⟩ := pat hB.all
  refine St2 (hv) (hs) ?_
  by_cases h1 : (x.val.length : Int) > 100
  · refine St0 ?_
    exact G.ret1 rfl rfl rfl rfl ⟨by simp; omega, he⟩
  · refine St2 (hv) (hs) ?_
    by_cases h2 : (x.sides.length : Int) > 300
    · refine St0 ?_
      exact G.ret1 rfl rfl rfl rfl ⟨by simp; omega, he⟩
    · refine St0 ?_
      exact G.ret1 rfl rfl rfl rfl ⟨by simp; omega, he⟩
end Go.Proofs.Ytefneilaongpbaa
