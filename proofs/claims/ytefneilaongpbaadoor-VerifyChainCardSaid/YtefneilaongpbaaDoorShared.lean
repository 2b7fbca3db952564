/-
  path.Shared.
-/
import Derived.Test.YtefneilaongpbaaDoorBits1
set_option linter.unusedVariables false
set_option maxRecDepth 100000
namespace Go.Proofs.YtefneilaongpbaaDoor
open Go Go.Bd Go.RowKit
attribute [local irreducible] G GL GQ

theorem shared_diff {a b : Dig} {i : Nat} (hi : i < 32) (hj : ∀ j, j < i → a.at j = b.at j) (hne : a.at i ≠ b.at i) : sharedB a b = 8 * i + (8 - len8 (a.at i ^^^ b.at i).toNat) := by
  obtain ⟨h1, h2, h3⟩ := byte_diff _ _ hne
  refine sharedB_unique (by omega) (fun j hj' => ?_) (fun _ => ?_)
  · unfold Dig.bit
    by_cases h : j / 8 < i
    · rw [hj _ h]
    · have e : j / 8 = i := by omega
      rw [e]
      exact h2 (j % 8) (by omega)
  · unfold Dig.bit
    have e : (8 * i + (8 - len8 (a.at i ^^^ b.at i).toNat)) / 8 = i := by omega
    have e2 : (8 * i + (8 - len8 (a.at i ^^^ b.at i).toNat)) % 8 = 8 - len8 (a.at i ^^^ b.at i).toNat := by omega
    rw [e, e2]
    exact h3

theorem shared_call (a b : Dig) (w : World) : Does Tryd.prog 109 #[dv a, dv b] w fun v w' => v = iv (sharedB a b : Nat) ∧ Ext w w' := by
  refine call_walk Tryd.func109 (by kernel_rfl) rfl Tryd.ntmps109 rfl ?_
  refine St0 ?_
  refine GL.box rfl rfl rfl rfl fun b2 w1 hb2 hB2 he1 => ?_
  refine GL.box rfl rfl rfl rfl fun b3 w2 hb3 hB3 he2 => ?_
  refine GL.alloc hT rfl rfl rfl fun b4 w3 hb4 hB4 he3 => ?_
  refine St0 ?_
  replace hB2 := hB2.ext he2
  replace hB2 := hB2.ext he3
  replace hB3 := hB3.ext he3
  refine St2 (hB2.all) (hB3.all) ?_
  refine GL.call rfl rfl rfl (apart_call a b w3) ?_
  rintro v w4 ⟨ba, bb, rfl, hba, hbb, hA, hAb, he4⟩
  refine St0 ?_
  replace hB2 := hB2.ext he4
  replace hB3 := hB3.ext he4
  replace hB4 := hB4.ext he4
  have e4 : Ext w w4 := (he1.trans he2).trans (he3.trans he4)
  have s1 := he1.size
  have s2 := he2.size
  have s3 := he3.size
  have s4 := he4.size
  have l4 := hB4.lt
  refine G.rangeFunc (Θ := fun L _ w' => (Ext w4 w' ∧ L.At w' .ready none ∧ NoDefers w' L.r ∧ a = b) ∨ (Below w.heap.size w w' ∧ L.At w' .done (some .ret) ∧ NoDefers w' L.r ∧ Blk w' b4 3 [iv (sharedB a b : Nat)])) rfl rfl ?hit ?hk
  case hit =>
    intro L w5 hD hps has hbo hr hl he5 hLat hnd
    have hc := apart1_call a b ba bb L.l (fun i w' => Ext w5 w' ∧ ∀ j, j < i → a.at j = b.at j) (fun w' => Below w.heap.size w w' ∧ L.At w' .done (some .ret) ∧ NoDefers w' L.r ∧ Blk w' b4 3 [iv (sharedB a b : Nat)]) w5 ⟨Ext.refl _, fun j hj => by omega⟩
      (fun i w' w'' h he => ⟨h.1.trans he, h.2⟩) (fun i w' h => ⟨(hA.ext he5).ext h.1, (hAb.ext he5).ext h.1⟩) (fun i w' hi heq h => ⟨h.1, pre_succ h.2 heq⟩) ?_
    · refine hc.mono fun v w' h => ?_
      rcases h with ⟨h1, h2⟩ | h
      · exact .inl ⟨he5.trans h1, hLat.ext h1, hnd.ext h1, Dig.ext_at h2⟩
      · exact .inr h
    · intro i w6 hi hne ⟨he6, hpre⟩
      refine Lo.yield (L := L) (hLat.ext he6) hD ?_ ?_ ?_
      · rw [hps]; rfl
      · rw [hps]; rfl
      rw [hps, has, hbo]
      refine St0 ?_
      refine G.beginRound rfl (hLat.ext he6) fun w7 hc7 hL7 => ?_
      refine St0 ?_
      replace hB4 := hB4.ext he5
      replace hB4 := hB4.ext he6
      replace hnd := hnd.ext he6
      replace hB4 := hB4.chg hc7 (by omega)
      replace hnd := hnd.chg hc7 (by omega)
      have hBel : Below w.heap.size w w7 := hc7.below (by omega) (e4.trans (he5.trans he6))
      have hle := len8_le ⟨(a.at i ^^^ b.at i).toNat, (a.at i ^^^ b.at i).toNat_lt⟩
      simp only at hle
      refine GL.call rfl rfl rfl (lead8_call _ w7) ?_
      rintro v w8 ⟨rfl, rfl⟩
      refine St0 ?_
      refine GL.store1 hT rfl rfl rfl rfl rfl rfl rfl hB4 (by decide) fun w9 hc9 hB9 => ?_
      refine St0 ?_
      refine G.roundRet (L := L) rfl (hL7.chg hc9 (by omega)) fun w10 hc10 hL10 => .inr ⟨rfl, ?_, hL10, ?_, ?_⟩
      · exact hc10.below (by omega) (hc9.below (by omega) hBel)
      · exact (hnd.chg hc9 (by omega)).chg hc10 (by omega)
      · rw [shared_diff hi hpre hne]
        have := hB9.chg hc10 (by omega)
        have e : ((8 * i + (8 - len8 (a.at i ^^^ b.at i).toNat) : Nat) : Int) = 8 * (i : Int) + ((8 - len8 (a.at i ^^^ b.at i).toNat : Nat) : Int) := by omega
        rw [e]
        exact this
  case hk =>
    rintro L v w5 hr hl (⟨he5, hLat, hnd, rfl⟩ | ⟨hBel, hLat, hnd, hB⟩)
    · refine ⟨.ready, none, hLat, by simp, fun w6 hc6 => ?_⟩
      replace hB4 := hB4.ext he5
      have s5 := he5.size
      replace hB4 := hB4.chg hc6 (by omega)
      replace hnd := hnd.chg hc6 (by omega)
      have hBel : Below w.heap.size w w6 := hc6.below (by omega) (e4.trans he5)
      refine St0 ?_
      refine GL.store1 hT rfl rfl rfl rfl rfl rfl rfl hB4 (by decide) fun w9 hc9 hB9 => ?_
      refine St0 ?_
      replace hnd := hnd.chg hc9 (by omega)
      refine G.ret_coll (v := iv 256) rfl rfl hnd (fun a' w10 ha hc => run_result1 hT rfl rfl rfl rfl ((hB9.chg hc (by omega)).one rfl) a' ha) fun w10 hc10 => ⟨by rw [sharedB_self]; rfl, hc10.below (by omega) (hc9.below (by omega) hBel)⟩
    · refine ⟨.done, some .ret, hLat, by simp, fun w6 hc6 => ?_⟩
      replace hB := hB.chg hc6 (by omega)
      replace hnd := hnd.chg hc6 (by omega)
      show G _ _ _ _ (.code .ret :: _) _ _
      refine G.ret_coll (v := iv (sharedB a b : Nat)) rfl rfl hnd (fun a' w10 ha hc => run_result1 hT rfl rfl rfl rfl ((hB.chg hc (by omega)).one rfl) a' ha) fun w10 hc10 => ⟨rfl, hc10.below (by omega) (hc6.below (by omega) hBel)⟩
end Go.Proofs.YtefneilaongpbaaDoor
