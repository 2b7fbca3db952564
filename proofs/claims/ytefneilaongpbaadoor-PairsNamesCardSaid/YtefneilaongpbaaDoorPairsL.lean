/-
  The chapter's first examples of maps.
-/
import Derived.Test.YtefneilaongpbaaDoorPairsI
import Derived.Test.YtefneilaongpbaaDoorDrawN
set_option linter.unusedVariables false
set_option linter.unusedSimpArgs false
set_option maxRecDepth 100000
set_option maxHeartbeats 4000000
namespace Go.Proofs.YtefneilaongpbaaDoor
open Go Go.Bd Go.RowKit
attribute [local irreducible] G GL GQ GS

theorem one_call (k : UInt8) (bs : Bytes) (w : World) :
    Does Tryd.prog 73 #[bv k, sv bs] w fun r w' => ∃ u, r = pv ⟨key1 k, bs⟩ u ∧ RdB any w' u bs ∧ Ext w w' := by
  refine call_walk Tryd.func73 (by kernel_rfl) rfl Tryd.ntmps73 rfl ?_
  refine St0 ?_
  refine GL.alloc hT rfl rfl rfl fun b4 w1 hb4 hB4 he1 => ?_
  have l4 := hB4.lt
  refine St0 ?_
  refine GL.buildArr (key1 k).cells hT rfl rfl rfl rfl rfl rfl (by rw [key1_cells]; rfl) ?_
  refine St0 ?_
  refine GL.strBytes hT rfl rfl Tryd.underlying9 rfl rfl rfl rfl rfl fun u w2 hu he2 => ?_
  replace hB4 := hB4.ext he2
  refine GL.build ((key1 k).cells ++ [u]) hT rfl rfl rfl rfl rfl rfl (pair_fill (key1 k) (RdF.some hu)) ?_
  refine GL.storeVar hT rfl rfl rfl rfl rfl (pcell_len _ _) (pairOne (RdF.one hu)) hB4 (by rw [pcell_len]; decide) fun w3 hc3 hB => ?_
  have he3 : Ext w w3 := hc3.below (by omega) (he1.trans he2)
  refine St0 ?_
  refine G.retN rfl rfl hT rfl rfl rfl rfl hB.all (pcell_len _ _) ⟨u, rfl, ?_, he3⟩
  exact (hu.keep (w' := w3) (fun b fr hb => hc3.block b (by omega))).imp fun _ _ _ => trivial
theorem fillL_three {sz : Nat} {z : List Value} {v u t : Value} {vs us ts : List Value} (hv : v.cells = vs.toArray) (hl : vs.length = sz) (hu : u.cells = us.toArray) (hl' : us.length = sz) (ht : t.cells = ts.toArray) (hl'' : ts.length = sz) (hz : z.length = 3 * sz) : fillL (fun k => some (k * sz, sz)) z [(0, v), (1, u), (2, t)] = some (vs ++ (us ++ ts)) := by
  obtain ⟨z1, z2, z3, rfl, h1, h2, h3⟩ : ∃ z1 z2 z3, z = z1 ++ (z2 ++ z3) ∧ z1.length = sz ∧ z2.length = sz ∧ z3.length = sz :=
    ⟨z.take sz, (z.drop sz).take sz, (z.drop sz).drop sz, (by simp only [List.take_append_drop]), by simp <;> omega, by simp <;> omega, by simp <;> omega⟩
  have c1 : v.cells.size = sz := by rw [hv]; simpa using hl
  have c2 : u.cells.size = sz := by rw [hu]; simpa using hl'
  have c3 : t.cells.size = sz := by rw [ht]; simpa using hl''
  have e1 : splice (z1 ++ (z2 ++ z3)) 0 v.cells.toList = vs ++ (z2 ++ z3) := by
    rw [hv]; exact splice_at (A := []) rfl (by simp [h1, hl])
  have e2 : splice (vs ++ (z2 ++ z3)) (1 * sz) u.cells.toList = vs ++ (us ++ z3) := by
    rw [hu]; exact splice_at (by rw [hl]; omega) (by simp [h2, hl'])
  have e3 : splice (vs ++ (us ++ z3)) (2 * sz) t.cells.toList = vs ++ (us ++ ts) := by
    have := splice_at (A := vs ++ us) (B := z3) (C := []) (ys := ts) (o := 2 * sz) (by simp [hl, hl']; omega) (by simp [h3, hl''])
    rw [ht]; simpa using this
  simp only [fillL, Nat.zero_mul]
  rw [if_neg (by simp [c1, h1, h2, h3]), e1, if_neg (by simp [c2, hl, h2, h3]), e2, if_neg (by simp [c3, hl, hl', h3]; omega), e3]
theorem alive5_put : putE [⟨key1 3, [97]⟩, ⟨key1 9, [99]⟩] (key1 5) [98] = 0 ∧ putL [⟨key1 3, [97]⟩, ⟨key1 9, [99]⟩] (key1 5) [98] = [⟨key1 3, [97]⟩, ⟨key1 5, [98]⟩, ⟨key1 9, [99]⟩] := by
  have e : withL (without [⟨key1 3, [97]⟩, ⟨key1 9, [99]⟩] (key1 5)) (key1 5) [98] = [⟨key1 3, [97]⟩, ⟨key1 5, [98]⟩, ⟨key1 9, [99]⟩] := by
    rw [without_of_ne (by intro x hx; simp at hx; rcases hx with rfl | rfl <;> exact key1_ne (by decide))]
    exact withL_split (A := [⟨key1 3, [97]⟩]) (B := [⟨key1 9, [99]⟩]) (by intro x hx; simp at hx; subst hx; exact key1_num (by decide)) (by intro x hx; simp at hx; subst hx; exact key1_num (by decide))
  have h0 : putE [⟨key1 3, [97]⟩, ⟨key1 9, [99]⟩] (key1 5) [98] = 0 := by
    refine putE_iff.2 ⟨.of (by simp) (by intro x hx; simp at hx; rcases hx with rfl | rfl <;> rfl) ?_, rfl, by rw [e]; simp⟩
    exact List.pairwise_cons.2 ⟨by intro x hx; simp at hx; subst hx; exact key1_num (by decide), List.pairwise_singleton ..⟩
  exact ⟨h0, by rw [putL_ok h0, e]⟩
theorem alive5_got : gotB [⟨key1 3, [97]⟩, ⟨key1 5, [98]⟩, ⟨key1 9, [99]⟩] (key1 9) = true ∧ gotV [⟨key1 3, [97]⟩, ⟨key1 5, [98]⟩, ⟨key1 9, [99]⟩] (key1 9) = [99] := by
  have h := put_map alive5_put.1
  rw [alive5_put.2] at h
  exact h.got (x := ⟨key1 9, [99]⟩) (by simp)
theorem alive5_call (w : World) : Does Tryd.prog 53 #[] w fun r w' => r = .bool true ∧ Ext w w' := by
  refine call_walk (vs := []) Tryd.func53 (by kernel_rfl) rfl Tryd.ntmps53 rfl ?_
  refine St0 ?_
  refine GL.call rfl rfl rfl (one_call 3 [97] w) ?_
  rintro r w1 ⟨u1, rfl, hu1, he1⟩
  refine GL.call rfl rfl rfl (one_call 9 [99] w1) ?_
  rintro r w2 ⟨u2, rfl, hu2, he2⟩
  replace hu1 := RdB.ext hu1 he2
  refine GL.buildSlice (((key1 3).cells ++ [u1]) ++ ((key1 9).cells ++ [u2])) hT rfl rfl rfl rfl rfl rfl rfl (fillL_two rfl (pcell_len _ _) rfl (pcell_len _ _) (madeLen _ _)) fun b3 w3 hb3 hB3 he3 => ?_
  replace hu1 := RdB.ext hu1 he3
  replace hu2 := RdB.ext hu2 he3
  refine GL.buildArr (key1 5).cells hT rfl rfl rfl rfl rfl rfl (by rw [key1_cells]; rfl) ?_
  refine GL.buildSlice [bv 98] hT rfl rfl rfl rfl rfl rfl rfl (fillL_one rfl rfl (madeLen _ _)) fun b4 w4 hb4 hB4 he4 => ?_
  refine GL.mark hT rfl rfl rfl rfl rfl rfl rfl hB4 fun w5 hc5 hA5 => ?_
  have he45 : Ext w3 w5 := hc5.below (by omega) he4
  have hP : RdP any w5 (.slice (some ⟨b3, 0, none⟩) 2 2) [⟨key1 3, [97]⟩, ⟨key1 9, [99]⟩] :=
    ⟨[(key1 3).cells ++ [u1], (key1 9).cells ++ [u2]], .cons ⟨u1, rfl, RdB.ext hu1 he45⟩ (.cons ⟨u2, rfl, RdB.ext hu2 he45⟩ .nil), ⟨_, 2, rfl, Nat.le_refl _, .inr ⟨b3, 0, rfl, by simpa using (hB3.ext he45).all⟩⟩⟩
  have hV : RdB any w5 (.slice (some ⟨b4, 0, none⟩) 1 1) [98] := ⟨_, 1, rfl, Nat.le_refl _, .inr ⟨b4, 0, rfl, hA5⟩⟩
  refine GL.call rfl rfl rfl (put_call _ _ _ (key1 5) _ _ _ w5 hP hV) ?_
  rintro r w6 ⟨x, rfl, hx, he6⟩
  rw [alive5_put.2] at hx
  rw [alive5_put.1]
  have hE : Ext w w6 := he1.trans (he2.trans (he3.trans (he45.trans he6)))
  refine St0 ?_
  refine GL.buildArr (key1 9).cells hT rfl rfl rfl rfl rfl rfl (by rw [key1_cells]; rfl) ?_
  refine GL.call rfl rfl rfl (get_call _ _ (key1 9) _ w6 hx.rd) ?_
  rintro r w7 ⟨y, rfl, hy, he7⟩
  rw [alive5_got.2] at hy
  rw [alive5_got.1]
  refine St0 ?_
  refine GL.call rfl rfl rfl (one_call 3 [97] w7) ?_
  rintro r w8 ⟨v1, rfl, hv1, he8⟩
  refine GL.call rfl rfl rfl (one_call 5 [98] w8) ?_
  rintro r w9 ⟨v2, rfl, hv2, he9⟩
  refine GL.call rfl rfl rfl (one_call 9 [99] w9) ?_
  rintro r w10 ⟨v3, rfl, hv3, he10⟩
  replace hv1 := RdB.ext hv1 (he9.trans he10)
  replace hv2 := RdB.ext hv2 he10
  refine GL.buildSlice (((key1 3).cells ++ [v1]) ++ (((key1 5).cells ++ [v2]) ++ ((key1 9).cells ++ [v3]))) hT rfl rfl rfl rfl rfl rfl rfl (fillL_three rfl (pcell_len _ _) rfl (pcell_len _ _) rfl (pcell_len _ _) (madeLen _ _)) fun b11 w11 hb11 hB11 he11 => ?_
  have he7_11 := he7.trans (he8.trans (he9.trans (he10.trans he11)))
  have hQ : RdP any w11 (.slice (some ⟨b11, 0, none⟩) 3 3) [⟨key1 3, [97]⟩, ⟨key1 5, [98]⟩, ⟨key1 9, [99]⟩] :=
    ⟨[(key1 3).cells ++ [v1], (key1 5).cells ++ [v2], (key1 9).cells ++ [v3]], .cons ⟨v1, rfl, RdB.ext hv1 he11⟩ (.cons ⟨v2, rfl, RdB.ext hv2 he11⟩ (.cons ⟨v3, rfl, RdB.ext hv3 he11⟩ .nil)), ⟨_, 3, rfl, Nat.le_refl _, .inr ⟨b11, 0, rfl, by simpa using hB11.all⟩⟩⟩
  refine GL.call rfl rfl rfl (refSame5_call _ _ _ _ _ _ w11 (hx.rd.ext he7_11) hQ (by simp)) ?_
  rintro r w12 ⟨rfl, he12⟩
  rw [decide_eq_true rfl]
  have hy2 := hy.fresh.ext (he8.trans (he9.trans (he10.trans (he11.trans he12))))
  refine St0 ?_
  refine GL.toString hT rfl rfl rfl rfl rfl rfl Tryd.underlying9 rfl hy2 ?_
  refine GL.eqstr (B := [99]) rfl rfl rfl rfl ?_
  refine St0 ?_
  exact G.ret1 rfl rfl rfl rfl ⟨rfl, hE.trans (he7_11.trans he12)⟩
end Go.Proofs.YtefneilaongpbaaDoor
