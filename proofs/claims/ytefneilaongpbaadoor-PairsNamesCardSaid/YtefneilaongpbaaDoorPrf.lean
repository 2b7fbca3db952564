import Derived.Test.YtefneilaongpbaaDoorPrf1
import Derived.Test.YtefneilaongpbaaDoorEq
/-
  May a proof be: both sides' answers.
-/
set_option linter.unusedVariables false
set_option linter.unusedSimpArgs false
set_option maxRecDepth 100000
set_option maxHeartbeats 4000000
namespace Go.Proofs.YtefneilaongpbaaDoor
open Go Go.Bd Go.RowKit
attribute [local irreducible] G GL GQ

def endB (x : Prf) : Bool :=
  if x.en = 0 then decide (x.other = Dig.zero) && decide (x.val.length = 0)
  else if x.en = 1 then decide (x.other = Dig.zero) && valB x.val.length
  else if x.en = 2 then valB x.val.length && (!decide (x.other = x.key) && decide (x.sides.length ≤ sharedB x.other x.key))
  else false
def mayB (x : Prf) : Bool := decide (x.sides.length ≤ 256) && endB x
theorem en_eq (e c : UInt8) : (e.toNat : Int) = (c.toNat : Int) ↔ e = c := by
  rw [← UInt8.toNat_inj]
  exact Int.natCast_inj
theorem en0 {e : UInt8} : (e.toNat : Int) = 0 ↔ e = 0 := en_eq e 0
theorem en1 {e : UInt8} : (e.toNat : Int) = 1 ↔ e = 1 := en_eq e 1
theorem en2 {e : UInt8} : (e.toNat : Int) = 2 ↔ e = 2 := en_eq e 2
theorem u8_01 : ¬ (0 : UInt8) = 1 := by decide

theorem refValue_call (p : Option Addr) (m c : Nat) (w : World) : Does Tryd.prog 135 #[.slice p m c] w (fun v w' => v = .bool (valB m) ∧ w' = w) := by
  refine call_walk Tryd.func135 (by kernel_rfl) rfl Tryd.ntmps135 rfl ?_
  by_cases h1 : (m : Int) ≥ 1
  · by_cases h2 : (m : Int) ≤ 64
    · refine St0 ?_
      exact G.ret1 rfl rfl rfl rfl ⟨by simp [valB]; omega, rfl⟩
    · refine St0 ?_
      exact G.ret1 rfl rfl rfl rfl ⟨by simp [valB]; omega, rfl⟩
  · refine St0 ?_
    exact G.ret1 rfl rfl rfl rfl ⟨by simp [valB]; omega, rfl⟩

theorem mapB_one (k : Dig) (bs : Bytes) : mapB [⟨k, bs⟩] = valB bs.length := by
  by_cases h : valB bs.length = true
  · rw [h]
    refine mapB_t ⟨by simp, fun i x hx => ?_, fun i x y hx hy => by simp at hy⟩
    cases i with
    | zero => simp at hx; subst hx; exact h
    | succ i => simp at hx
  · rw [Bool.not_eq_true] at h
    rw [h]
    refine mapB_f fun hm => ?_
    have := hm.val 0 ⟨k, bs⟩ rfl
    rw [h] at this
    cases this
theorem proofValue_call (v : Value) (bs : Bytes) (S : Where) (w : World) (h : RdB S w v bs) : Does Tryd.prog 108 #[v] w (fun r w' => r = .bool (valB bs.length) ∧ Ext w w') := by
  refine call_walk Tryd.func108 (by kernel_rfl) rfl Tryd.ntmps108 rfl ?_
  obtain ⟨p, c, rfl, hc⟩ := RdF.isSlice h
  refine St0 ?_
  refine GL.build (Dig.zero.cells ++ [.slice p bs.length c]) hT rfl rfl rfl rfl rfl rfl (by rw [Dig.zero_cells]; rfl) ?_
  refine St0 ?_
  refine GL.buildSlice (Dig.zero.cells ++ [.slice p bs.length c]) hT rfl rfl rfl rfl rfl rfl rfl (fillL_one rfl (by rw [Dig.zero_cells]; rfl) (madeLen _ _)) fun b w1 hb hB he => ?_
  have hP : RdP any w1 (.slice (some ⟨b, 0, none⟩) 1 1) [⟨Dig.zero, bs⟩] := by
    refine ⟨[Dig.zero.cells ++ [.slice p bs.length c]], .cons ⟨_, rfl, RdB.imp (RdB.ext h he) fun _ _ _ => trivial⟩ .nil, some ⟨b, 0, none⟩, 1, rfl, Nat.le_refl _, .inr ⟨b, 0, rfl, ?_⟩⟩
    simpa using hB.all
  refine GL.call rfl rfl rfl (pcheck_call _ _ _ w1 hP) ?_
  rintro r w2 ⟨rfl, he2⟩
  rw [mapB_one]
  by_cases hv : valB bs.length = true
  · rw [hv]
    have e0 : badE true = 0 := rfl
    rw [e0]
    refine St0 ?_
    exact G.ret1 rfl rfl rfl rfl ⟨rfl, he.trans he2⟩
  · rw [Bool.not_eq_true] at hv
    rw [hv]
    have e0 : badE false = 8 := rfl
    rw [e0]
    refine St0 ?_
    exact G.ret1 rfl rfl rfl rfl ⟨rfl, he.trans he2⟩

theorem nil_iff {l : Bytes} : (l.length : Int) = 0 ↔ l = [] := by
  constructor
  · intro h; exact List.eq_nil_of_length_eq_zero (by omega)
  · intro h; subst h; rfl
theorem refMay_call (x : Prf) (u s : Value) (S : Where) (w : World) (h : PrfM S w x u s) : Does Tryd.prog 94 #[prv x u s] w (fun r w' => r = .bool (mayB x) ∧ Ext w w') := by
  refine call_walk Tryd.func94 (by kernel_rfl) rfl Tryd.ntmps94 rfl ?_
  obtain ⟨pu, cu, rfl, hcu⟩ := RdF.isSlice h.val
  obtain ⟨ps, cs, rfl, hcs⟩ := RdF.isSlice h.sides
  refine St0 ?_
  refine GL.box rfl rfl rfl rfl fun b w1 hb hB he => ?_
  obtain ⟨hk, hen, ho, hv, hs⟩ := pat hB.all
  refine St5 (hk) (hen) (ho) (hv) (hs) ?_
  by_cases h256 : (x.sides.length : Int) > 256
  · refine St0 ?_
    exact G.ret1 rfl rfl rfl rfl ⟨by simp [mayB]; omega, he⟩
  have hm : mayB x = endB x := by simp [mayB]; omega
  rw [hm]
  refine St5 (hk) (hen) (ho) (hv) (hs) ?_
  by_cases h0 : (x.en.toNat : Int) = 0
  · have h0' := en0.1 h0
    refine St5 (hk) (hen) (ho) (hv) (hs) ?_
    by_cases hz : x.other = Dig.zero
    · refine St5 (hk) (hen) (ho) (hv) (hs) ?_
      by_cases hl : (x.val.length : Int) = 0
      · refine St0 ?_
        exact G.ret1 rfl rfl rfl rfl ⟨by simp [endB, h0', hz, nil_iff.1 hl], he⟩
      · refine St0 ?_
        exact G.ret1 rfl rfl rfl rfl ⟨by simp [endB, h0', hz, mt nil_iff.2 hl], he⟩
    · refine St5 (hk) (hen) (ho) (hv) (hs) ?_
      exact G.ret1 rfl rfl rfl rfl ⟨by simp [endB, h0', hz], he⟩
  have h0' := mt en0.2 h0
  refine St0 ?_
  by_cases h1 : (x.en.toNat : Int) = 1
  · have h1' := en1.1 h1
    refine St5 (hk) (hen) (ho) (hv) (hs) ?_
    by_cases hz : x.other = Dig.zero
    · refine St5 (hk) (hen) (ho) (hv) (hs) ?_
      refine GL.call rfl rfl rfl (refValue_call _ _ _ w1) ?_
      rintro r w2 ⟨rfl, rfl⟩
      refine St0 ?_
      exact G.ret1 rfl rfl rfl rfl ⟨by simp [endB, h1', hz], he⟩
    · refine St5 (hk) (hen) (ho) (hv) (hs) ?_
      exact G.ret1 rfl rfl rfl rfl ⟨by simp [endB, h1', hz], he⟩
  have h1' := mt en1.2 h1
  refine St0 ?_
  by_cases h2 : (x.en.toNat : Int) = 2
  · have h2' := en2.1 h2
    refine St0 ?_
    refine G.quietTail 21 follows (by kernel_rfl) (by kernel_rfl) (by kernel_rfl) (by kernel_rfl) ?_
    refine QSt5 (hk) (hen) (ho) (hv) (hs) ?_
    refine GQ.call rfl rfl rfl (fun w' he' => (refValue_call _ _ _ w').mono fun v w'' ⟨h1, h2⟩ => ⟨h1, by rw [h2]; exact Ext.refl _⟩) ?_
    cases hok : valB x.val.length
    · refine QSt0 ?_
      refine GQ.tail fun w2 he2 => ?_
      refine St0 ?_
      exact G.ret1 rfl rfl rfl rfl ⟨by simp [endB, h2', hok], he.trans he2⟩
    · refine QSt5 (hk) (hen) (ho) (hv) (hs) ?_
      by_cases hz : x.other = x.key
      · refine QSt0 ?_
        refine GQ.tail fun w2 he2 => ?_
        refine St0 ?_
        exact G.ret1 rfl rfl rfl rfl ⟨by simp [endB, h2', hz], he.trans he2⟩
      · refine QSt5 (hk) (hen) (ho) (hv) (hs) ?_
        refine GQ.call rfl rfl rfl (fun w' he' => refShared_call x.other x.key w') ?_
        refine QSt5 (hk) (hen) (ho) (hv) (hs) ?_
        by_cases hle : ((sharedB x.other x.key : Nat) : Int) ≥ x.sides.length
        · refine QSt0 ?_
          refine GQ.tail fun w2 he2 => ?_
          refine St0 ?_
          exact G.ret1 rfl rfl rfl rfl ⟨by simp [endB, h2', hz, hok]; omega, he.trans he2⟩
        · refine QSt0 ?_
          refine GQ.tail fun w2 he2 => ?_
          refine St0 ?_
          exact G.ret1 rfl rfl rfl rfl ⟨by simp [endB, h2', hz, hok]; omega, he.trans he2⟩
  have h2' := mt en2.2 h2
  refine St0 ?_
  exact G.ret1 rfl rfl rfl rfl ⟨by simp [endB, h0', h1', h2'], he⟩
end Go.Proofs.YtefneilaongpbaaDoor
/-
  proof.Check, Told; the document's Check, Told; copies; sizes.
-/
set_option linter.unusedVariables false
set_option linter.unusedSimpArgs false
set_option maxRecDepth 100000
set_option maxHeartbeats 4000000
namespace Go.Proofs.YtefneilaongpbaaDoor
open Go Go.Bd Go.RowKit
attribute [local irreducible] G GL GQ

theorem check1_call (x : Prf) (u s : Value) (b : Nat) (S S' : Where) (w : World) (h : PrfM S w x u s) (hB : At S' w b 0 (pcells x u s)) : Does Tryd.prog 107 #[ptr b 0] w (fun r w' => r = .bool (endB x) ∧ Ext w w') := by
  refine call_walk Tryd.func107 (by kernel_rfl) rfl Tryd.ntmps107 rfl ?_
  obtain ⟨pu, cu, rfl, hcu⟩ := RdF.isSlice h.val
  obtain ⟨ps, cs, rfl, hcs⟩ := RdF.isSlice h.sides
  obtain ⟨hk, hen, ho, hv, hs⟩ := pat hB
  refine St5 (hk) (hen) (ho) (hv) (hs) ?_
  by_cases h0 : (x.en.toNat : Int) = 0
  · have h0' := en0.1 h0
    refine St5 (hk) (hen) (ho) (hv) (hs) ?_
    by_cases hz : x.other = Dig.zero
    · refine St5 (hk) (hen) (ho) (hv) (hs) ?_
      by_cases hl : (x.val.length : Int) = 0
      · refine St0 ?_
        exact G.ret1 rfl rfl rfl rfl ⟨by simp [endB, h0', hz, nil_iff.1 hl], Ext.refl w⟩
      · refine St0 ?_
        exact G.ret1 rfl rfl rfl rfl ⟨by simp [endB, h0', hz, mt nil_iff.2 hl], Ext.refl w⟩
    · refine St5 (hk) (hen) (ho) (hv) (hs) ?_
      exact G.ret1 rfl rfl rfl rfl ⟨by simp [endB, h0', hz], Ext.refl w⟩
  have h0' := mt en0.2 h0
  refine St0 ?_
  by_cases h1 : (x.en.toNat : Int) = 1
  · have h1' := en1.1 h1
    refine St5 (hk) (hen) (ho) (hv) (hs) ?_
    by_cases hz : x.other = Dig.zero
    · refine St5 (hk) (hen) (ho) (hv) (hs) ?_
      refine GL.call rfl rfl rfl (proofValue_call _ _ _ w h.val) ?_
      rintro r w2 ⟨rfl, he⟩
      refine St0 ?_
      exact G.ret1 rfl rfl rfl rfl ⟨by simp [endB, h1', hz], he⟩
    · refine St5 (hk) (hen) (ho) (hv) (hs) ?_
      exact G.ret1 rfl rfl rfl rfl ⟨by simp [endB, h1', hz], Ext.refl w⟩
  have h1' := mt en1.2 h1
  refine St0 ?_
  by_cases h2 : (x.en.toNat : Int) = 2
  · have h2' := en2.1 h2
    refine St0 ?_
    refine G.quietTail 21 follows (by kernel_rfl) (by kernel_rfl) (by kernel_rfl) (by kernel_rfl) ?_
    refine QSt5 (hk) (hen) (ho) (hv) (hs) ?_
    refine GQ.call rfl rfl rfl (fun w' he' => proofValue_call _ _ _ w' (h.val.ext he')) ?_
    cases hok : valB x.val.length
    · refine QSt0 ?_
      refine GQ.tail fun w2 he2 => ?_
      refine St0 ?_
      exact G.ret1 rfl rfl rfl rfl ⟨by simp [endB, h2', hok], he2⟩
    · refine QSt5 (hk) (hen) (ho) (hv) (hs) ?_
      by_cases hz : x.other = x.key
      · refine QSt0 ?_
        refine GQ.tail fun w2 he2 => ?_
        refine St0 ?_
        exact G.ret1 rfl rfl rfl rfl ⟨by simp [endB, h2', hz], he2⟩
      · refine QSt5 (hk) (hen) (ho) (hv) (hs) ?_
        refine GQ.call rfl rfl rfl (fun w' he' => shared_call x.other x.key w') ?_
        refine QSt5 (hk) (hen) (ho) (hv) (hs) ?_
        by_cases hle : ((sharedB x.other x.key : Nat) : Int) ≥ x.sides.length
        · refine QSt0 ?_
          refine GQ.tail fun w2 he2 => ?_
          refine St0 ?_
          exact G.ret1 rfl rfl rfl rfl ⟨by simp [endB, h2', hz, hok]; omega, he2⟩
        · refine QSt0 ?_
          refine GQ.tail fun w2 he2 => ?_
          refine St0 ?_
          exact G.ret1 rfl rfl rfl rfl ⟨by simp [endB, h2', hz, hok]; omega, he2⟩
  have h2' := mt en2.2 h2
  refine St0 ?_
  exact G.ret1 rfl rfl rfl rfl ⟨by simp [endB, h0', h1', h2'], Ext.refl w⟩

theorem check_call (x : Prf) (u s : Value) (S : Where) (w : World) (h : PrfM S w x u s) : Does Tryd.prog 49 #[prv x u s] w (fun r w' => r = iv (badE (mayB x)) ∧ Ext w w') := by
  refine call_walk Tryd.func49 (by kernel_rfl) rfl Tryd.ntmps49 rfl ?_
  obtain ⟨ps, cs, rfl, hcs⟩ := RdF.isSlice h.sides
  refine St0 ?_
  refine GL.box rfl rfl rfl rfl fun b w1 hb hB he => ?_
  obtain ⟨hk, hen, ho, hv, hs⟩ := pat hB.all
  refine St1 (hs) ?_
  by_cases h256 : (x.sides.length : Int) > 256
  · refine St0 ?_
    exact G.ret1 rfl rfl rfl rfl ⟨by have : mayB x = false := by simp [mayB]; omega
                                     rw [this]; rfl, he⟩
  have hm : mayB x = endB x := by simp [mayB]; omega
  rw [hm]
  refine St0 ?_
  refine GL.callv (first := []) (cap := [ptr b 0]) rfl rfl rfl rfl (check1_call x u _ b any any w1 ((h.ext he).imp fun _ _ _ => trivial) hB.all) ?_
  rintro r w2 ⟨rfl, he2⟩
  cases hok : endB x
  · refine St0 ?_
    exact G.ret1 rfl rfl rfl rfl ⟨rfl, he.trans he2⟩
  · refine St0 ?_
    exact G.ret1 rfl rfl rfl rfl ⟨rfl, he.trans he2⟩

/-- What a proof tells. -/
def toldB (x : Prf) : Bool := mayB x && decide (x.en = 1)
def toldV (x : Prf) : Bytes := if toldB x then x.val else []
theorem told_call (x : Prf) (u s : Value) (S : Where) (w : World) (h : PrfM S w x u s) (hl : x.val.length ≤ 140737488355328) : Does Tryd.prog 57 #[prv x u s] w (fun r w' => ∃ v, r = .tuple #[v, .bool (toldB x)] ∧ OwnB w.heap.size w' v (toldV x) ∧ Ext w w') := by
  refine call_walk Tryd.func57 (by kernel_rfl) rfl Tryd.ntmps57 rfl ?_
  refine St0 ?_
  refine GL.box rfl rfl rfl rfl fun b w1 hb hB he => ?_
  refine St0 ?_
  refine GL.loadN hT rfl rfl rfl rfl rfl hB.all (pcells_len x u s) ?_
  refine GL.call rfl rfl rfl (check_call x u s _ w1 (h.ext he)) ?_
  rintro r w2 ⟨rfl, he2⟩
  replace hB := hB.ext he2
  obtain ⟨hk, hen, ho, hv, hs⟩ := pat hB.all
  cases hok : mayB x
  · have e0 : toldB x = false := by simp [toldB, hok]
    have e2 : toldV x = [] := by simp [toldV, e0]
    have e1 : badE false = 8 := rfl
    rw [e1]
    refine St0 ?_
    exact G.ret2 rfl rfl rfl rfl rfl ⟨_, by rw [e0], by rw [e2]; exact Own.bare _ _ none 1 _, he.trans he2⟩
  · have e1 : badE true = 0 := rfl
    rw [e1]
    refine St1 (hen) ?_
    by_cases h1 : (x.en.toNat : Int) = 1
    · have e0 : toldB x = true := by simp [toldB, hok, en1.1 h1]
      have e2 : toldV x = x.val := by simp [toldV, e0]
      refine St1 (hv) ?_
      refine GL.call rfl rfl rfl (cloneB_call u x.val _ w2 ((h.val.ext he).ext he2) hl) ?_
      rintro v w3 ⟨hown, he3⟩
      refine St0 ?_
      exact G.ret2 rfl rfl rfl rfl rfl ⟨_, by rw [e0], by rw [e2]; exact hown.mono (Nat.le_trans he.size he2.size), (he.trans he2).trans he3⟩
    · have e0 : toldB x = false := by simp [toldB, mt en1.2 h1]
      have e2 : toldV x = [] := by simp [toldV, e0]
      refine St0 ?_
      exact G.ret2 rfl rfl rfl rfl rfl ⟨_, by rw [e0], by rw [e2]; exact Own.bare _ _ none 1 _, he.trans he2⟩
theorem refTold_call (x : Prf) (u s : Value) (S : Where) (w : World) (h : PrfM S w x u s) (hl : x.val.length ≤ 140737488355328) : Does Tryd.prog 166 #[prv x u s] w (fun r w' => ∃ v, r = .tuple #[v, .bool (toldB x)] ∧ OwnB w.heap.size w' v (toldV x) ∧ Ext w w') := by
  refine call_walk Tryd.func166 (by kernel_rfl) rfl Tryd.ntmps166 rfl ?_
  refine St0 ?_
  refine GL.box rfl rfl rfl rfl fun b w1 hb hB he => ?_
  refine St0 ?_
  refine GL.loadN hT rfl rfl rfl rfl rfl hB.all (pcells_len x u s) ?_
  refine GL.call rfl rfl rfl (refMay_call x u s _ w1 (h.ext he)) ?_
  rintro r w2 ⟨rfl, he2⟩
  replace hB := hB.ext he2
  obtain ⟨hk, hen, ho, hv, hs⟩ := pat hB.all
  cases hok : mayB x
  · have e0 : toldB x = false := by simp [toldB, hok]
    have e2 : toldV x = [] := by simp [toldV, e0]
    refine St0 ?_
    exact G.ret2 rfl rfl rfl rfl rfl ⟨_, by rw [e0], by rw [e2]; exact Own.bare _ _ none 1 _, he.trans he2⟩
  · refine St1 (hen) ?_
    by_cases h1 : (x.en.toNat : Int) = 1
    · have e0 : toldB x = true := by simp [toldB, hok, en1.1 h1]
      have e2 : toldV x = x.val := by simp [toldV, e0]
      refine St1 (hv) ?_
      refine GL.call rfl rfl rfl (refTwin_call u x.val _ w2 ((h.val.ext he).ext he2) hl) ?_
      rintro v w3 ⟨hown, he3⟩
      refine St0 ?_
      exact G.ret2 rfl rfl rfl rfl rfl ⟨_, by rw [e0], by rw [e2]; exact hown.mono (Nat.le_trans he.size he2.size), (he.trans he2).trans he3⟩
    · have e0 : toldB x = false := by simp [toldB, mt en1.2 h1]
      have e2 : toldV x = [] := by simp [toldV, e0]
      refine St0 ?_
      exact G.ret2 rfl rfl rfl rfl rfl ⟨_, by rw [e0], by rw [e2]; exact Own.bare _ _ none 1 _, he.trans he2⟩

theorem great7_call (x : Prf) (u s : Value) (S : Where) (w : World) (h : PrfM S w x u s) : Does Tryd.prog 26 #[prv x u s] w (fun r w' => r = .bool (decide (100 < x.val.length) || decide (300 < x.sides.length)) ∧ Ext w w') := by
  refine call_walk Tryd.func26 (by kernel_rfl) rfl Tryd.ntmps26 rfl ?_
  obtain ⟨pu, cu, rfl, hcu⟩ := RdF.isSlice h.val
  obtain ⟨ps, cs, rfl, hcs⟩ := RdF.isSlice h.sides
  refine St0 ?_
  refine GL.box rfl rfl rfl rfl fun b w1 hb hB he => ?_
  obtain ⟨hk, hen, ho, hv, hs⟩ := pat hB.all
  refine St2 (hv) (hs) ?_
  by_cases h1 : (x.val.length : Int) > 100
  · refine St0 ?_
    exact G.ret1 rfl rfl rfl rfl ⟨by simp; omega, he⟩
  · refine St2 (hv) (hs) ?_
    by_cases h2 : (x.sides.length : Int) > 300
    · refine St0 ?_
      exact G.ret1 rfl rfl rfl rfl ⟨by simp; omega, he⟩
    · refine St0 ?_
      exact G.ret1 rfl rfl rfl rfl ⟨by simp; omega, he⟩
end Go.Proofs.YtefneilaongpbaaDoor
/-
  Copies of proofs.
-/
set_option linter.unusedVariables false
set_option linter.unusedSimpArgs false
set_option maxRecDepth 100000
set_option maxHeartbeats 4000000
namespace Go.Proofs.YtefneilaongpbaaDoor
open Go Go.Bd Go.RowKit
attribute [local irreducible] G GL GQ

theorem splice65 (x : Prf) (u s u' : Value) : splice (pcells x u s) 65 [u'] = pcells x u' s := by
  have e : pcells x u s = (x.key.cells ++ (bv x.en :: x.other.cells)) ++ [u, s] := by simp [pcells]
  have e' : pcells x u' s = (x.key.cells ++ (bv x.en :: x.other.cells)) ++ [u', s] := by simp [pcells]
  rw [e, e']
  have hl : (x.key.cells ++ (bv x.en :: x.other.cells)).length = 65 := by simp [Dig.len]
  simp only [splice, List.length_cons, List.length_nil]
  rw [← hl, List.take_left, List.drop_append]
  simp
theorem splice66 (x : Prf) (u s s' : Value) : splice (pcells x u s) 66 [s'] = pcells x u s' := by
  have e : pcells x u s = (x.key.cells ++ (bv x.en :: (x.other.cells ++ [u]))) ++ [s] := by simp [pcells]
  have e' : pcells x u s' = (x.key.cells ++ (bv x.en :: (x.other.cells ++ [u]))) ++ [s'] := by simp [pcells]
  rw [e, e']
  have hl : (x.key.cells ++ (bv x.en :: (x.other.cells ++ [u]))).length = 66 := by simp [Dig.len]
  simp only [splice, List.length_cons, List.length_nil]
  rw [← hl, List.take_left, List.drop_append]
  simp
/-- A copy's slices: in new memory of their own. -/
structure PrfOwn (B : Nat) (w : World) (x : Prf) (u s : Value) : Prop where
  val : OwnB B w u x.val
  sides : OwnD B w s x.sides
theorem PrfOwn.m {B : Nat} {w : World} {x : Prf} {u s : Value} (h : PrfOwn B w x u s) : PrfM (fresh B) w x u s := ⟨h.val.fresh, h.sides.fresh⟩
theorem _root_.Go.Bd.Own.one {B : Nat} {w : World} {v : Value} {n sz : Nat} {T : TypeId} {cs : List Value} (h : Own B w v n sz T cs) : v.oneCell' = true := by obtain ⟨p, c, rfl⟩ := h.shape; rfl
theorem _root_.Go.Bd.Own.some {B : Nat} {w : World} {v : Value} {n sz : Nat} {T : TypeId} {cs : List Value} (h : Own B w v n sz T cs) : v.cells = #[v] := by obtain ⟨p, c, rfl⟩ := h.shape; rfl

theorem ref7Twin_call (x : Prf) (u s : Value) (S : Where) (w : World) (h : PrfM S w x u s) (hl : x.val.length ≤ 140737488355328) (hs : x.sides.length ≤ 4294967296) : Does Tryd.prog 27 #[prv x u s] w (fun r w' => ∃ u' s', r = prv x u' s' ∧ PrfOwn w.heap.size w' x u' s' ∧ Ext w w') := by
  refine call_walk Tryd.func27 (by kernel_rfl) rfl Tryd.ntmps27 rfl ?_
  refine St0 ?_
  refine GL.box rfl rfl rfl rfl fun b w1 hb hB he1 => ?_
  have l1 := hB.lt
  refine GL.alloc hT rfl rfl rfl fun b2 w2 hb2 hB2 he2 => ?_
  have l2 := hB2.lt
  replace hB := hB.ext he2
  have s1 := he1.size
  have s2 := he2.size
  have hh := (h.ext he1).ext he2
  refine St1 ((pat hB.all).2.2.2.1) ?_
  refine GL.call rfl rfl rfl (refTwin_call u x.val _ w2 hh.val hl) ?_
  rintro u' w3 ⟨hu, he3⟩
  replace hB := hB.ext he3
  replace hB2 := hB2.ext he3
  have s3 := he3.size
  have hlow : ∀ k, rowOf u' = some k → k < w3.heap.size := fun k hk => (hu.row hk).2
  have hlow' : ∀ k, rowOf u' = some k → w2.heap.size ≤ k := fun k hk => (hu.row hk).1
  refine St0 ?_
  refine GL.store1 hT rfl rfl rfl rfl rfl hu.some hu.one hB (by rw [pcells_len]; decide) fun w4 hc4 hB' => ?_
  have e65 : (pcells x u s).set (0 + 65) u' = pcells x u' s := by
    rw [← splice65 x u s u']; simp [splice, List.set_eq_take_append_cons_drop, pcells_len]
  rw [e65] at hB'
  replace hu := hu.keep (w' := w4) (fun g hg _ => hc4.block g (by have := hu.row hg; omega)) (by decide)
  replace hB2 := hB2.chg hc4 (by omega)
  have he4 : Ext w w4 := hc4.below (by omega) (he1.trans (he2.trans he3))
  replace hh := h.ext he4
  have s4 := hc4.size
  refine St1 ((pat hB'.all).2.2.2.2) ?_
  refine GL.append hT rfl rfl rfl rfl rfl rfl rfl rfl rfl rfl (Own.bare w.heap.size w4 none 32 _) hh.sides (dcells_length _) (dcells_one _) (by show (0 + x.sides.length) * 32 ≤ _; omega) (by omega) (by omega) fun s' w5 hs' hb5 hrow => ?_
  rw [Nat.zero_add, List.nil_append] at hs'
  have he5 : Ext w4 w5 := hb5.ext
  replace hB' := hB'.ext he5
  replace hB2 := hB2.ext he5
  replace hu := hu.ext he5
  refine St0 ?_
  refine GL.store1 hT rfl rfl rfl rfl rfl hs'.some hs'.one hB' (by rw [pcells_len]; decide) fun w6 hc6 hB'' => ?_
  have e66 : (pcells x u' s).set (0 + 66) s' = pcells x u' s' := by
    rw [← splice66 x u' s s']; simp [splice, List.set_eq_take_append_cons_drop, pcells_len]
  rw [e66] at hB''
  have hrow' : ∀ k, rowOf s' = some k → w4.heap.size ≤ k := by
    intro k hk
    rcases hrow with h | h
    · rw [h] at hk; simp [rowOf] at hk
    · rw [h.1] at hk; cases hk; omega
  replace hu := hu.keep (w' := w6) (fun g hg _ => hc6.block g (by have := hu.row hg; omega)) (by decide)
  have s5 := he5.size
  replace hs' := hs'.keep (w' := w6) (fun g hg _ => hc6.block g (by have := hrow' g hg; omega)) (by decide)
  replace hB2 := hB2.chg hc6 (by omega)
  have he6 : Ext w w6 := hc6.below (by omega) (he4.trans he5)
  refine St0 ?_
  refine GL.loadN hT rfl rfl rfl rfl rfl hB''.all (pcells_len x u' s') ?_
  refine St0 ?_
  refine GL.storeVar hT rfl rfl rfl rfl rfl (pcells_len x u' s') (pcells_one x hu.one hs'.one) hB2 (by rw [pcells_len]; decide) fun w7 hc7 hB7 => ?_
  refine St0 ?_
  have s6 := hc6.size
  refine G.retN rfl rfl hT rfl rfl rfl rfl hB7.all (pcells_len x u' s') ⟨u', s', rfl, ⟨?_, ?_⟩, hc7.below (by omega) he6⟩
  · exact (hu.keep (fun g hg _ => hc7.block g (by have := hlow' g hg; omega)) (by decide)).mono (by omega)
  · exact hs'.keep (fun g hg _ => hc7.block g (by have := hrow' g hg; omega)) (by decide)

end Go.Proofs.YtefneilaongpbaaDoor
/-
  Comparing bytes, digests, proofs.
-/
set_option linter.unusedVariables false
set_option linter.unusedSimpArgs false
set_option maxRecDepth 100000
set_option maxHeartbeats 4000000
namespace Go.Proofs.YtefneilaongpbaaDoor
open Go Go.Bd Go.RowKit
attribute [local irreducible] G GL GQ

theorem all_eq {α : Type} [DecidableEq α] {xs ys : List α} (hl : xs.length = ys.length) (h : ∀ i, i < xs.length → xs[i]? = ys[i]?) : decide (xs = ys) = true := by
  rw [decide_eq_true_iff]
  apply List.ext_getElem?
  intro i
  by_cases hi : i < xs.length
  · exact h i hi
  · rw [List.getElem?_eq_none (by omega), List.getElem?_eq_none (by omega)]
theorem not_eq_at {α : Type} [DecidableEq α] {xs ys : List α} {i : Nat} (h : xs[i]? ≠ ys[i]?) : decide (xs = ys) = false := by
  rw [decide_eq_false_iff_not]
  intro e
  exact h (by rw [e])
theorem not_eq_len {α : Type} [DecidableEq α] {xs ys : List α} (h : xs.length ≠ ys.length) : decide (xs = ys) = false := by
  rw [decide_eq_false_iff_not]
  intro e
  exact h (by rw [e])
theorem getD_at {bs : Bytes} {i : Nat} (h : i < bs.length) : bs[i]? = some (bs.getD i 0) := by
  simp [List.getD, List.getElem?_eq_getElem h]

theorem equalB_call (v u : Value) (xs ys : Bytes) (S S' : Where) (w : World) (h : RdB S w v xs) (h' : RdB S' w u ys) (hmax : xs.length ≤ 4294967296) :
    Does Tryd.prog 105 #[v, u] w fun r w' => r = .bool (decide (xs = ys)) ∧ Ext w w' := by
  refine call_walk Tryd.func105 (by kernel_rfl) rfl Tryd.ntmps105 rfl ?_
  obtain ⟨p, c, rfl, hc⟩ := RdF.isSlice h
  obtain ⟨p', c', rfl, hc'⟩ := RdF.isSlice h'
  refine St0 ?_
  by_cases hl : (xs.length : Int) = ys.length
  · have hl' : xs.length = ys.length := by omega
    refine St0 ?_
    refine G.sub (f' := [(13, iv ((0 : Nat) : Int)), (12, iv (xs.length : Nat)), (0, .slice p xs.length c), (1, .slice p' ys.length c')]) (by (repeat (first | exact Fr.sub_nil _ | refine Fr.sub_cons rfl ?_))) ?_
    refine G.rounds (α := Nat) (fun j f w' => j ≤ xs.length ∧ Ext w w' ∧ (∀ i, i < j → xs[i]? = ys[i]?) ∧ f = [(13, iv j), (12, iv (xs.length : Nat)), (0, .slice p xs.length c), (1, .slice p' ys.length c')]) (fun j => xs.length - j) ?round 0 ⟨by omega, Ext.refl w, fun i hi => by omega, rfl⟩
    rintro j f w1 ⟨hj, he1, heq, rfl⟩ again
    by_cases hlt : (j : Int) < xs.length
    · obtain ⟨b, o, c2, hv, hA⟩ := (RdB.ext h he1).elem (i := j) (by omega)
      obtain ⟨b', o', c2', hv', hA'⟩ := (RdB.ext h' he1).elem (i := j) (by omega)
      cases hv
      cases hv'
      refine St0 ?_
      refine G.quiet follows (by kernel_rfl) ?_
      refine QSt0 ?_
      (refine GQ.indexSlice (j) 1 ((o + j)) hT rfl rfl rfl rfl rfl rfl rfl rfl ?_ ?_ ?_ ?_; (focus omega); (focus omega); (focus omega))
      refine QSt1 (hA) ?_
      (refine GQ.indexSlice (j) 1 ((o' + j)) hT rfl rfl rfl rfl rfl rfl rfl rfl ?_ ?_ ?_ ?_; (focus omega); (focus omega); (focus omega))
      refine QSt1 (hA') ?_
      by_cases hb : ((xs.getD j 0).toNat : Int) = (ys.getD j 0).toNat
      · refine QSt0 ?_
        refine GQ.nil fun w2 he2 => ?_
        refine St0 ?_
        refine G.sub (by (repeat (first | exact Fr.sub_nil _ | refine Fr.sub_cons rfl ?_))) (again (j + 1) _ _ (by omega) ⟨by omega, he1.trans he2, ?_, rfl⟩)
        intro i hi
        rcases Nat.lt_or_eq_of_le (Nat.lt_succ_iff.1 hi) with h1 | h1
        · exact heq i h1
        · subst h1
          rw [getD_at (by omega), getD_at (by omega)]
          congr 1
          exact UInt8.toNat_inj.1 (by omega)
      · refine QSt0 ?_
        refine GQ.nil fun w2 he2 => ?_
        refine St0 ?_
        refine G.ret1 rfl rfl rfl rfl ⟨?_, he1.trans he2⟩
        rw [not_eq_at (i := j)]
        rw [getD_at (by omega), getD_at (by omega)]
        intro e
        simp only [Option.some.injEq] at e
        rw [e] at hb
        exact hb rfl
    · refine St0 ?_
      refine G.ret1 rfl rfl rfl rfl ⟨?_, he1⟩
      rw [all_eq hl' fun i hi => heq i (by omega)]
  · refine St0 ?_
    refine G.ret1 rfl rfl rfl rfl ⟨?_, Ext.refl w⟩
    rw [not_eq_len (by omega)]

theorem sameD_call (v u : Value) (xs ys : List Dig) (S S' : Where) (w : World) (h : RdD S w v xs) (h' : RdD S' w u ys) (hmax : xs.length ≤ 4294967296) :
    Does Tryd.prog 43 #[v, u] w fun r w' => r = .bool (decide (xs = ys)) ∧ Ext w w' := by
  refine call_walk Tryd.func43 (by kernel_rfl) rfl Tryd.ntmps43 rfl ?_
  obtain ⟨p, c, rfl, hc⟩ := RdF.isSlice h
  obtain ⟨p', c', rfl, hc'⟩ := RdF.isSlice h'
  refine St0 ?_
  by_cases hl : (xs.length : Int) = ys.length
  · have hl' : xs.length = ys.length := by omega
    refine St0 ?_
    refine G.sub (f' := [(5, iv ((0 : Nat) : Int)), (0, .slice p xs.length c), (1, .slice p' ys.length c')]) (by (repeat (first | exact Fr.sub_nil _ | refine Fr.sub_cons rfl ?_))) ?_
    refine G.rounds (α := Nat) (fun j f w' => j ≤ xs.length ∧ Ext w w' ∧ (∀ i, i < j → xs[i]? = ys[i]?) ∧ f = [(5, iv j), (0, .slice p xs.length c), (1, .slice p' ys.length c')]) (fun j => xs.length - j) ?round 0 ⟨by omega, Ext.refl w, fun i hi => by omega, rfl⟩
    rintro j f w1 ⟨hj, he1, heq, rfl⟩ again
    by_cases hlt : (j : Int) < xs.length
    · obtain ⟨x, hx⟩ : ∃ x, xs[j]? = some x := ⟨_, List.getElem?_eq_getElem (by omega)⟩
      obtain ⟨y, hy⟩ : ∃ y, ys[j]? = some y := ⟨_, List.getElem?_eq_getElem (by omega)⟩
      obtain ⟨b, o, c2, hv, hA⟩ := (RdD.ext h he1).elem hx
      obtain ⟨b', o', c2', hv', hA'⟩ := (RdD.ext h' he1).elem hy
      cases hv
      cases hv'
      refine St0 ?_
      refine G.quiet follows (by kernel_rfl) ?_
      refine QSt0 ?_
      (refine GQ.indexSlice (j) 32 ((o + j * 32)) hT rfl rfl rfl rfl rfl rfl rfl rfl ?_ ?_ ?_ ?_; (focus omega); (focus omega); (focus omega))
      refine QSt1 (hA) ?_
      (refine GQ.indexSlice (j) 32 ((o' + j * 32)) hT rfl rfl rfl rfl rfl rfl rfl rfl ?_ ?_ ?_ ?_; (focus omega); (focus omega); (focus omega))
      refine QSt1 (hA') ?_
      by_cases hb : x = y
      · refine QSt0 ?_
        refine GQ.nil fun w2 he2 => ?_
        refine St0 ?_
        refine G.sub (by (repeat (first | exact Fr.sub_nil _ | refine Fr.sub_cons rfl ?_))) (again (j + 1) _ _ (by omega) ⟨by omega, he1.trans he2, ?_, rfl⟩)
        intro i hi
        rcases Nat.lt_or_eq_of_le (Nat.lt_succ_iff.1 hi) with h1 | h1
        · exact heq i h1
        · subst h1
          rw [hx, hy, hb]
      · refine QSt0 ?_
        refine GQ.nil fun w2 he2 => ?_
        refine St0 ?_
        refine G.ret1 rfl rfl rfl rfl ⟨?_, he1.trans he2⟩
        rw [not_eq_at (i := j)]
        rw [hx, hy]
        simpa using hb
    · refine St0 ?_
      refine G.ret1 rfl rfl rfl rfl ⟨?_, he1⟩
      rw [all_eq hl' fun i hi => heq i (by omega)]
  · refine St0 ?_
    refine G.ret1 rfl rfl rfl rfl ⟨?_, Ext.refl w⟩
    rw [not_eq_len (by omega)]
instance : DecidableEq Prf := fun a b => by
  cases a with | mk k e o v s => 
  cases b with | mk k' e' o' v' s' =>
  exact decidable_of_iff (k = k' ∧ e = e' ∧ o = o' ∧ v = v' ∧ s = s') (by simp)
theorem prf_eq (a b : Prf) : decide (a = b) = (decide (a.key = b.key) && (decide (a.en = b.en) && (decide (a.other = b.other) && (decide (a.val = b.val) && decide (a.sides = b.sides))))) := by
  rw [Bool.eq_iff_iff]
  cases a
  cases b
  simp

theorem ref7Same_call (a b : Prf) (ua sa ub sb : Value) (S S' : Where) (w : World) (ha : PrfM S w a ua sa) (hb : PrfM S' w b ub sb) (hav : a.val.length ≤ 4294967296) (hasd : a.sides.length ≤ 4294967296) :
    Does Tryd.prog 35 #[prv a ua sa, prv b ub sb] w fun r w' => r = .bool (decide (a = b)) ∧ Ext w w' := by
  refine call_walk Tryd.func35 (by kernel_rfl) rfl Tryd.ntmps35 rfl ?_
  rw [prf_eq]
  refine St0 ?_
  refine GL.box rfl rfl rfl rfl fun b1 w1 hb1 hB1 he1 => ?_
  refine GL.box rfl rfl rfl rfl fun b2 w2 hb2 hB2 he2 => ?_
  replace hB1 := hB1.ext he2
  have he := he1.trans he2
  obtain ⟨ak, ae, ao, av, asd⟩ := pat hB1.all
  obtain ⟨bk, be, bo, bv', bs⟩ := pat hB2.all
  replace ha := ha.ext he
  replace hb := hb.ext he
  refine St2 (ak) (bk) ?_
  by_cases h1 : a.key = b.key
  · refine St10 (ak) (ae) (ao) (av) (asd) (bk) (be) (bo) (bv') (bs) ?_
    by_cases h2 : (a.en.toNat : Int) = b.en.toNat
    · have h2' := (en_eq _ _).1 h2
      refine St10 (ak) (ae) (ao) (av) (asd) (bk) (be) (bo) (bv') (bs) ?_
      by_cases h3 : a.other = b.other
      · refine St10 (ak) (ae) (ao) (av) (asd) (bk) (be) (bo) (bv') (bs) ?_
        refine GL.call rfl rfl rfl (same_call _ _ _ _ _ _ w2 ha.val hb.val) ?_
        rintro r w3 ⟨rfl, rfl⟩
        cases h4 : decide (a.val = b.val)
        · refine St0 ?_
          exact G.ret1 rfl rfl rfl rfl ⟨by simp, he⟩
        · refine St2 (asd) (bs) ?_
          refine GL.call rfl rfl rfl (sameD_call _ _ _ _ _ _ _ ha.sides hb.sides hasd) ?_
          rintro r w4 ⟨rfl, he4⟩
          refine St0 ?_
          exact G.ret1 rfl rfl rfl rfl ⟨by simp [h1, h2', h3], he.trans he4⟩
      · refine St0 ?_
        exact G.ret1 rfl rfl rfl rfl ⟨by simp [h3], he⟩
    · refine St0 ?_
      exact G.ret1 rfl rfl rfl rfl ⟨by simp [mt (en_eq _ _).2 h2], he⟩
  · refine St0 ?_
    exact G.ret1 rfl rfl rfl rfl ⟨by simp [h1], he⟩
end Go.Proofs.YtefneilaongpbaaDoor
