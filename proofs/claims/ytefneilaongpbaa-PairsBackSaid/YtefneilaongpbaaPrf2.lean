/-
  May a proof be: both sides' answers.
-/
import Derived.Test.YtefneilaongpbaaPCheck
set_option linter.unusedVariables false
set_option linter.unusedSimpArgs false
set_option maxRecDepth 100000
set_option maxHeartbeats 4000000
namespace Go.Proofs.Ytefneilaongpbaa
open Go Go.Bd Go.RowKit
attribute [local irreducible] G GL GQ

def endB (x : Prf) : Bool :=
  if x.en = 0 then decide (x.other = Dig.zero) && decide (x.val.length = 0)
  else if x.en = 1 then decide (x.other = Dig.zero) && valB x.val.length
  else if x.en = 2 then valB x.val.length && (!decide (x.other = x.key) && decide (x.sides.length ≤ sharedB x.other x.key))
  else false
def mayB (x : Prf) : Bool := decide (x.sides.length ≤ 256) && endB x
theorem en_eq (e c : UInt8) : (e.toNat : Int) = (c.toNat : Int) ↔ e = c := by
  rw [← UInt8.toNat_inj]
  exact Int.natCast_inj
theorem en0 {e : UInt8} : (e.toNat : Int) = 0 ↔ e = 0 := en_eq e 0
theorem en1 {e : UInt8} : (e.toNat : Int) = 1 ↔ e = 1 := en_eq e 1
theorem en2 {e : UInt8} : (e.toNat : Int) = 2 ↔ e = 2 := en_eq e 2
theorem u8_01 : ¬ (0 : UInt8) = 1 := by decide

theorem refValue_call (p : Option Addr) (m c : Nat) (w : World) : Does Try.prog 56 #[.slice p m c] w (fun v w' => v = .bool (valB m) ∧ w' = w) := by
  refine call_walk Try.func56 (by kernel_rfl) rfl Try.ntmps56 rfl ?_
  by_cases h1 : (m : Int) ≥ 1
  · by_cases h2 : (m : Int) ≤ 64
    · refine St0 ?_
      exact G.ret1 rfl rfl rfl rfl ⟨by simp [valB]; omega, rfl⟩
    · refine St0 ?_
      exact G.ret1 rfl rfl rfl rfl ⟨by simp [valB]; omega, rfl⟩
  · refine St0 ?_
    exact G.ret1 rfl rfl rfl rfl ⟨by simp [valB]; omega, rfl⟩

theorem mapB_one (k : Dig) (bs : Bytes) : mapB [⟨k, bs⟩] = valB bs.length := by
  by_cases h : valB bs.length = true
  · rw [h]
    refine mapB_t ⟨by simp, fun i x hx => ?_, fun i x y hx hy => by simp at hy⟩
    cases i with
    | zero => simp at hx; subst hx; exact h
    | succ i => simp at hx
  · rw [Bool.not_eq_true] at h
    rw [h]
    refine mapB_f fun hm => ?_
    have := hm.val 0 ⟨k, bs⟩ rfl
    rw [h] at this
    cases this
theorem proofValue_call (v : Value) (bs : Bytes) (S : Where) (w : World) (h : RdB S w v bs) : Does Try.prog 46 #[v] w (fun r w' => r = .bool (valB bs.length) ∧ Ext w w') := by
  refine call_walk Try.func46 (by kernel_rfl) rfl Try.ntmps46 rfl ?_
  obtain ⟨p, c, rfl, hc⟩ := RdF.isSlice h
  refine St0 ?_
  refine GL.build (Dig.zero.cells ++ [.slice p bs.length c]) hT rfl rfl rfl rfl rfl rfl (by rw [Dig.zero_cells]; rfl) ?_
  refine St0 ?_
  refine GL.buildSlice (Dig.zero.cells ++ [.slice p bs.length c]) hT rfl rfl rfl rfl rfl rfl rfl (fillL_one rfl (by rw [Dig.zero_cells]; rfl) (madeLen _ _)) fun b w1 hb hB he => ?_
  have hP : RdP any w1 (.slice (some ⟨b, 0, none⟩) 1 1) [⟨Dig.zero, bs⟩] := by
    refine ⟨[Dig.zero.cells ++ [.slice p bs.length c]], .cons ⟨_, rfl, RdB.imp (RdB.ext h he) fun _ _ _ => trivial⟩ .nil, some ⟨b, 0, none⟩, 1, rfl, Nat.le_refl _, .inr ⟨b, 0, rfl, ?_⟩⟩
    simpa using hB.all
  refine GL.call rfl rfl rfl (pcheck_call _ _ _ w1 hP) ?_
  rintro r w2 ⟨rfl, he2⟩
  rw [mapB_one]
  by_cases hv : valB bs.length = true
  · rw [hv]
    have e0 : badE true = 0 := rfl
    rw [e0]
    refine St0 ?_
    exact G.ret1 rfl rfl rfl rfl ⟨rfl, he.trans he2⟩
  · rw [Bool.not_eq_true] at hv
    rw [hv]
    have e0 : badE false = 8 := rfl
    rw [e0]
    refine St0 ?_
    exact G.ret1 rfl rfl rfl rfl ⟨rfl, he.trans he2⟩

theorem nil_iff {l : Bytes} : (l.length : Int) = 0 ↔ l = [] := by
  constructor
  · intro h; exact List.eq_nil_of_length_eq_zero (by omega)
  · intro h; subst h; rfl
theorem refMay_call (x : Prf) (u s : Value) (S : Where) (w : World) (h : PrfM S w x u s) : Does Try.prog 43 #[prv x u s] w (fun r w' => r = .bool (mayB x) ∧ Ext w w') := by
  refine call_walk Try.func43 (by kernel_rfl) rfl Try.ntmps43 rfl ?_
  obtain ⟨pu, cu, rfl, hcu⟩ := RdF.isSlice h.val
  obtain ⟨ps, cs, rfl, hcs⟩ := RdF.isSlice h.sides
  refine St0 ?_
  refine GL.box rfl rfl rfl rfl fun b w1 hb hB he => ?_
  obtain ⟨hk, hen, ho, hv, hs⟩ := pat hB.all
  refine St5 (hk) (hen) (ho) (hv) (hs) ?_
  by_cases h256 : (x.sides.length : Int) > 256
  · refine St0 ?_
    exact G.ret1 rfl rfl rfl rfl ⟨by simp [mayB]; omega, he⟩
  have hm : mayB x = endB x := by simp [mayB]; omega
  rw [hm]
  refine St5 (hk) (hen) (ho) (hv) (hs) ?_
  by_cases h0 : (x.en.toNat : Int) = 0
  · have h0' := en0.1 h0
    refine St5 (hk) (hen) (ho) (hv) (hs) ?_
    by_cases hz : x.other = Dig.zero
    · refine St5 (hk) (hen) (ho) (hv) (hs) ?_
      by_cases hl : (x.val.length : Int) = 0
      · refine St0 ?_
        exact G.ret1 rfl rfl rfl rfl ⟨by simp [endB, h0', hz, nil_iff.1 hl], he⟩
      · refine St0 ?_
        exact G.ret1 rfl rfl rfl rfl ⟨by simp [endB, h0', hz, mt nil_iff.2 hl], he⟩
    · refine St5 (hk) (hen) (ho) (hv) (hs) ?_
      exact G.ret1 rfl rfl rfl rfl ⟨by simp [endB, h0', hz], he⟩
  have h0' := mt en0.2 h0
  refine St0 ?_
  by_cases h1 : (x.en.toNat : Int) = 1
  · have h1' := en1.1 h1
    refine St5 (hk) (hen) (ho) (hv) (hs) ?_
    by_cases hz : x.other = Dig.zero
    · refine St5 (hk) (hen) (ho) (hv) (hs) ?_
      refine GL.call rfl rfl rfl (refValue_call _ _ _ w1) ?_
      rintro r w2 ⟨rfl, rfl⟩
      refine St0 ?_
      exact G.ret1 rfl rfl rfl rfl ⟨by simp [endB, h1', hz], he⟩
    · refine St5 (hk) (hen) (ho) (hv) (hs) ?_
      exact G.ret1 rfl rfl rfl rfl ⟨by simp [endB, h1', hz], he⟩
  have h1' := mt en1.2 h1
  refine St0 ?_
  by_cases h2 : (x.en.toNat : Int) = 2
  · have h2' := en2.1 h2
    refine St0 ?_
    refine G.quietTail 21 follows (by kernel_rfl) (by kernel_rfl) (by kernel_rfl) (by kernel_rfl) ?_
    refine QSt5 (hk) (hen) (ho) (hv) (hs) ?_
    refine GQ.call rfl rfl rfl (fun w' he' => (refValue_call _ _ _ w').mono fun v w'' ⟨h1, h2⟩ => ⟨h1, by rw [h2]; exact Ext.refl _⟩) ?_
    cases hok : valB x.val.length
    · refine QSt0 ?_
      refine GQ.tail fun w2 he2 => ?_
      refine St0 ?_
      exact G.ret1 rfl rfl rfl rfl ⟨by simp [endB, h2', hok], he.trans he2⟩
    · refine QSt5 (hk) (hen) (ho) (hv) (hs) ?_
      by_cases hz : x.other = x.key
      · refine QSt0 ?_
        refine GQ.tail fun w2 he2 => ?_
        refine St0 ?_
        exact G.ret1 rfl rfl rfl rfl ⟨by simp [endB, h2', hz], he.trans he2⟩
      · refine QSt5 (hk) (hen) (ho) (hv) (hs) ?_
        refine GQ.call rfl rfl rfl (fun w' he' => refShared_call x.other x.key w') ?_
        refine QSt5 (hk) (hen) (ho) (hv) (hs) ?_
        by_cases hle : ((sharedB x.other x.key : Nat) : Int) ≥ x.sides.length
        · refine QSt0 ?_
          refine GQ.tail fun w2 he2 => ?_
          refine St0 ?_
          exact G.ret1 rfl rfl rfl rfl ⟨by simp [endB, h2', hz, hok]; omega, he.trans he2⟩
        · refine QSt0 ?_
          refine GQ.tail fun w2 he2 => ?_
          refine St0 ?_
          exact G.ret1 rfl rfl rfl rfl ⟨by simp [endB, h2', hz, hok]; omega, he.trans he2⟩
  have h2' := mt en2.2 h2
  refine St0 ?_
  exact G.ret1 rfl rfl rfl rfl ⟨by simp [endB, h0', h1', h2'], he⟩
end Go.Proofs.Ytefneilaongpbaa
