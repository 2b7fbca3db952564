import Derived.Test.YtefneilaongpbaaDoorTreeJ
import Derived.Test.YtefneilaongpbaaDoorRoot5
import Derived.Test.YtefneilaongpbaaDoorSpoil
/-
  A tree's sum; where a key's road ends, and its sides.
-/
set_option linter.unusedVariables false
set_option linter.unusedSimpArgs false
set_option maxRecDepth 100000
set_option maxHeartbeats 4000000
namespace Go.Proofs.YtefneilaongpbaaDoor
open Go Go.Bd Go.RowKit
attribute [local irreducible] G GL GQ GS shaD

section
variable {P : Program} {fn : Func} {Φ : Value → World → Prop} {n : Sz} {k : List Item} {f : Fr} {w : World} {tt : List (Nat × Ti)}
theorem _root_.Go.Bd.G.retNtt {t t2 t3 : Tmp} {ty : TypeId} {i : Ti} {b : Nat} {v2 v3 : Value} {vs : List Value} {S : Nat → Nat × Nat → Prop} (hD : n.D = []) (hro : n.ro = none) (hT : Tys P tt) (hi : TT.get tt ty = some i) (hg : i.desc.agg = true) (hr : fn.results = #[.cell t ty, .tmp t2, .tmp t3]) (hx : Fr.get f t = some (ptr b 0)) (hv2 : Fr.get f t2 = some v2) (hv3 : Fr.get f t3 = some v3) (hA : At S w b 0 vs) (hl : vs.length = i.size) (h : Φ (.tuple #[.agg vs.toArray, v2, v3]) w) :
    G P fn (FnE P Φ) n (.code .ret :: k) f w := G.ret_of hD hro (fun a ha => by
  have h1 := run_loadN (P := P) hT hi hg hA hl
  have e1 : a.tmps[t]? = some (ptr b 0) := ha.at_ t _ hx
  have e2 : a.tmps[t2]? = some v2 := ha.at_ t2 _ hv2
  have e3 : a.tmps[t3]? = some v3 := ha.at_ t3 _ hv3
  simp [results, hr, e1, e2, e3, asAddr, h1]) h
end
theorem sum6_call (ns : List Node) (h1 : OneAll 0 ns) (hlen : ns.length ≤ 1000000) (m : Nat) : ∀ (n d : Nat) (b : Dig) (ps : List Pair) (v : Value) (r : Int) (S : Where) (w : World), n < m → Stand ns n d b ps → Zb d b → RdN S w v ns → Kt w →
    Does Tryd.prog 99 #[tv v r, iv n] w fun q w' => q = dv (rootAt d ps) ∧ Ext w w' := by
  induction m with
  | zero => intro n d b ps v r S w hn; omega
  | succ m ih =>
    intro n d b ps v r S w hn hs hz h hK
    refine call_walk Tryd.func99 (by kernel_rfl) rfl Tryd.ntmps99 rfl ?_
    obtain ⟨p, c, rfl, hc⟩ := h.isSlice
    refine St0 ?_
    refine GL.box (vs := [.slice p ns.length c, iv r]) rfl rfl rfl rfl fun b2 w0 hb2 hB2 he0 => ?_
    refine GL.alloc hT rfl rfl rfl fun b4 w1 hb4 hB4 he01 => ?_
    have s0 := he0.size
    have l2 := hB2.lt
    have l4 := hB4.lt
    replace hB2 := hB2.ext he01
    have he1 := he0.trans he01
    have s1 := he1.size
    by_cases h0 : (n : Int) = 0
    · refine St0 ?_
      obtain rfl : n = 0 := by omega
      have : ps = [] := (hs.empty).2 rfl
      subst this
      refine GL.call (vs := []) rfl rfl rfl (tagNone_call w1 (hK.ext he1)) ?_
      rintro _ w3 ⟨rfl, he3⟩
      refine GL.storeVar hT rfl rfl rfl rfl rfl (Dig.len _) (Dig.one _) (hB4.ext he3) (by rw [Dig.len]; decide) fun w5 hc5 hB5 => ?_
      refine St0 ?_
      exact G.retN rfl rfl hT rfl rfl rfl rfl hB5.all (Dig.len _) ⟨by rw [rootAt_nil], hc5.below (by omega) (he1.trans he3)⟩
    obtain ⟨i, rfl⟩ : ∃ i, n = i + 1 := ⟨n - 1, by omega⟩
    have hle := hs.le
    obtain ⟨x, hx⟩ : ∃ x, ns[i]? = some x := ⟨_, List.getElem?_eq_getElem (by omega)⟩
    obtain ⟨bb, o, c', u, hv, hu, hA⟩ := (h.ext he1).elem hx
    cases hv
    refine St1 ((tvAt hB2.all).1) ?_
    (refine GL.indexSlice (i) 36 ((o + i * 36)) hT rfl rfl rfl rfl rfl rfl rfl rfl ?_ ?_ ?_ ?_; (focus omega); (focus omega); (focus omega))
    refine St1 (hA) ?_
    refine GL.alloc hT rfl rfl rfl fun b5 w2 hb5 hB5 he2 => ?_
    refine St0 ?_
    refine GL.storeVar hT rfl rfl rfl rfl rfl (ncells_len _ _) (ncells_one _ hu.one) hB5 (by rw [ncells_len]; decide) fun w3 hc3 hB5 => ?_
    have hE13 : Ext w1 w3 := hc3.below (by omega) he2
    replace hB2 := hB2.ext hE13
    replace hB4 := hB4.ext hE13
    have hE3 := he1.trans hE13
    have s3 := hE13.size
    have hN := nAt hB5.all
    have hlf := hN.leaf
    cases hl : x.leaf
    · rw [hl] at hlf
      obtain ⟨l, rr, p0, p1, hd, e1, e2, hS, h2, rfl⟩ := hs.sides hx hl
      obtain ⟨l', rr', e1', e2', hl1, hl2, _, _, _⟩ := h1.fork (n := 0) hx hl
      have hleft := hN.left
      have hright := hN.right
      rw [e1] at hleft e1'
      rw [e2] at hright e2'
      refine St1 (hlf) ?_
      have hi0 := fun w' (he' : Ext w w') => ih l (d + 1) (sideOf b d 0) p0 (.slice (some ⟨bb, o, none⟩) ns.length c) r S w' (by omega) hS.left (hz.side hd 0) (h.ext he') (hK.ext he')
      have hi1 := fun w' (he' : Ext w w') => ih rr (d + 1) (sideOf b d 1) p1 (.slice (some ⟨bb, o, none⟩) ns.length c) r S w' (by omega) hS.right (hz.side hd 1) (h.ext he') (hK.ext he')
      refine G.drawN 10 [8, 9] [(2, ptr b2 0), (4, ptr b4 0), (5, ptr b5 0)] (fun i v w' => match i with
        | 0 => tv (.slice (some ⟨bb, o, none⟩) ns.length c) r = v | 1 => ptr b5 34 = v | 2 => iv l = v | 3 => dv (rootAt (d + 1) p0) = v
        | 4 => tv (.slice (some ⟨bb, o, none⟩) ns.length c) r = v | 5 => ptr b5 35 = v | 6 => iv rr = v | 7 => dv (rootAt (d + 1) p1) = v
        | _ => ∃ b, v = ptr b 0 ∧ w3.heap.size ≤ b ∧ Blk w' b 25 ti25.zero) follows (by kernel_rfl) (by kernel_rfl) (by kernel_rfl) (by kernel_rfl) (by kernel_rfl) (by (repeat (first | exact Fr.sub_nil _ | refine Fr.sub_cons rfl ?_))) ?mono ?old ?obs ?fin
      case mono =>
        intro i v w1 w2 he h
        rcases i with _ | _ | _ | _ | _ | _ | _ | _ | i <;> first | exact h | exact (let ⟨b, h1, h2, h3⟩ := h; ⟨b, h1, h2, h3.ext he⟩)
      case old =>
        intro i v w' hi h
        have hi' : i = 8 ∨ i = 9 := by simpa using hi
        rcases hi' with rfl | rfl
        · obtain ⟨b, h1, h2, h3⟩ := h; exact ⟨b, 0, h1, h3.lt⟩
        · obtain ⟨b, h1, h2, h3⟩ := h; exact ⟨b, 0, h1, h3.lt⟩
      case obs =>
        intro w0 he0
        have hE0 := hE3.trans he0
        refine ⟨fun w' he' => ?_, fun w' he' => ?_, fun w' he' => ?_, fun w' he' => ?_, fun w' he' => ?_, fun w' he' => ?_, fun w' he' => ?_, fun w' he' => ?_, fun w' he' => ?_, fun w' he' => ?_, trivial⟩
        · refine St1 ((hB2.ext (he0.trans he')).all) ?_
          exact GL.fact rfl (Ext.refl _) ⟨rfl, fun h => absurd h (by decide)⟩
        · refine St0 ?_
          exact GL.fact rfl (Ext.refl _) ⟨rfl, fun h => absurd h (by decide)⟩
        · rintro v rfl
          refine St1 (hleft.ext (he0.trans he')) ?_
          exact GL.fact rfl (Ext.refl _) ⟨rfl, fun h => absurd h (by decide)⟩
        · rintro v rfl v rfl
          refine GL.call rfl rfl rfl (hi0 w' (hE0.trans he')) ?_
          rintro r w'' ⟨rfl, he''⟩
          exact GL.fact rfl he'' ⟨rfl, fun h => absurd h (by decide)⟩
        · refine St1 ((hB2.ext (he0.trans he')).all) ?_
          exact GL.fact rfl (Ext.refl _) ⟨rfl, fun h => absurd h (by decide)⟩
        · refine St0 ?_
          exact GL.fact rfl (Ext.refl _) ⟨rfl, fun h => absurd h (by decide)⟩
        · rintro v rfl
          refine St1 (hright.ext (he0.trans he')) ?_
          exact GL.fact rfl (Ext.refl _) ⟨rfl, fun h => absurd h (by decide)⟩
        · rintro v rfl v rfl
          refine GL.call rfl rfl rfl (hi1 w' (hE0.trans he')) ?_
          rintro r w'' ⟨rfl, he''⟩
          exact GL.fact rfl he'' ⟨rfl, fun h => absurd h (by decide)⟩
        · refine GL.alloc hT rfl rfl rfl fun b w'' hb hB he'' => ?_
          exact GL.fact rfl he'' ⟨⟨b, rfl, by have := he0.size; have := he'.size; omega, hB⟩, fun _ => ⟨b, 0, rfl, by omega⟩⟩
        · refine GL.alloc hT rfl rfl rfl fun b w'' hb hB he'' => ?_
          exact GL.fact rfl he'' ⟨⟨b, rfl, by have := he0.size; have := he'.size; omega, hB⟩, fun _ => ⟨b, 0, rfl, by omega⟩⟩
      case fin =>
        rintro w5 he5 v0 rfl v1 rfl v2 rfl v3 rfl v4 rfl v5 rfl v6 rfl v7 rfl v12 ⟨b6, rfl, hb6, hB6⟩ v13 ⟨b7, rfl, hb7, hB7⟩ hun
        have hne : b6 ≠ b7 := fun e => hun 8 9 rfl rfl (by decide) (by rw [e]; rfl)
        replace hB4 := hB4.ext he5
        have hE5 := hE3.trans he5
        refine GL.storeVar hT rfl rfl rfl rfl rfl (Dig.len _) (Dig.one _) hB6 (by rw [Dig.len]; decide) fun w6 hc6 hB6 => ?_
        replace hB7 := hB7.chg hc6 (fun e => hne e.symm)
        replace hB4 := hB4.chg hc6 (by omega)
        have hE6 : Ext w w6 := hc6.below (by omega) hE5
        refine GL.storeVar hT rfl rfl rfl rfl rfl (Dig.len _) (Dig.one _) hB7 (by rw [Dig.len]; decide) fun w7 hc7 hB7 => ?_
        replace hB6 := hB6.chg hc7 hne
        replace hB4 := hB4.chg hc7 (by omega)
        have hE7 : Ext w w7 := hc7.below (by omega) hE6
        refine St0 ?_
        refine G.quietTail 2 follows (by kernel_rfl) (by kernel_rfl) (by kernel_rfl) (by kernel_rfl) ?_
        refine QSt0 ?_
        refine GQ.tail fun w8 he8 => ?_
        replace hB4 := hB4.ext he8
        replace hB6 := hB6.ext he8
        replace hB7 := hB7.ext he8
        refine GL.buildSlice ([.slice (some ⟨b6, 0, none⟩) 32 32] ++ [.slice (some ⟨b7, 0, none⟩) 32 32]) hT rfl rfl rfl rfl rfl rfl rfl (fillL_two rfl rfl rfl rfl (madeLen _ _)) fun b9 w9 hb9 hB9 he9 => ?_
        replace hB4 := hB4.ext he9
        replace hB6 := hB6.ext he9
        replace hB7 := hB7.ext he9
        refine GL.call rfl rfl rfl (tagOf_call 2 _ [(rootAt (d + 1) p0).1, (rootAt (d + 1) p1).1] any w9 (bs2 hB9 (rdKey hB6.all) (rdKey hB7.all)) (by simp) (two_len _ _) (hK.ext (hE7.trans (he8.trans he9)))) ?_
        rintro r w10 ⟨rfl, he10⟩
        replace hB4 := hB4.ext he10
        refine GL.storeVar hT rfl rfl rfl rfl rfl (Dig.len _) (Dig.one _) hB4 (by rw [Dig.len]; decide) fun w11 hc11 hB11 => ?_
        refine St0 ?_
        exact G.retN rfl rfl hT rfl rfl rfl rfl hB11.all (Dig.len _) ⟨by rw [hS.root hz hd h2]; rfl, hc11.below (by omega) (hE7.trans (he8.trans (he9.trans he10)))⟩
    · rw [hl] at hlf
      obtain ⟨rfl, hpx⟩ := hs.one hx hl
      have hvl := valB_le (h1.leaf hx hl).1
      refine St1 (hlf) ?_
      refine G.drawS 6 (List.range 6) [4, 5] follows (by kernel_rfl) (by kernel_rfl) (by kernel_rfl) (by kernel_rfl) (by kernel_rfl) (by kernel_rfl) ?_
      refine SSt1 (hN.val) ?_
      refine GS.op rfl fun w4 he4 => ?_
      refine GL.buildSlice ([.slice (some ⟨b5, 0 + 1, none⟩) 32 32] ++ [u]) hT rfl rfl rfl rfl rfl rfl rfl (fillL_two rfl rfl (RdF.some hu) rfl (madeLen _ _)) fun b6 w5 hb6 hB6 he5 => ?_
      refine GS.done he5 ?_
      refine GS.op rfl fun w6 he6 => ?_
      have he36 := he4.trans (he5.trans he6)
      have hE6 := hE3.trans he36
      refine GL.call rfl rfl rfl (tagOf_call 1 _ [x.key.1, x.val] any w6 (bs2 (hB6.ext he6) (rdKey (hN.key.ext he36)) (RdB.ext hu (hE13.trans he36))) (by simp) (leaf_len _ (by omega)) (hK.ext hE6)) ?_
      rintro _ w7 ⟨rfl, he7⟩
      refine GS.done he7 ?_
      refine GS.tail fun w8 he8 => ?_
      have he38 := he36.trans (he7.trans he8)
      refine GL.storeVar hT rfl rfl rfl rfl rfl (Dig.len _) (Dig.one _) (hB4.ext he38) (by rw [Dig.len]; decide) fun w9 hc9 hB9 => ?_
      refine St0 ?_
      exact G.retN rfl rfl hT rfl rfl rfl rfl hB9.all (Dig.len _) ⟨by rw [rootAt_one]; rfl, hc9.below (by omega) (hE3.trans he38)⟩
/-- The node at which a road ends. -/
def endNode : Option Pair → Node
  | none => ⟨false, dig0, [], 0, 0⟩
  | some p => leafOf p.key p.val
theorem leaf_eq {ns : List Node} (h : OneAll 0 ns) {i : Nat} {x : Node} (hx : ns[i]? = some x) (hl : x.leaf = true) : x = leafOf x.key x.val := by
  obtain ⟨_, h1, h2⟩ := h.leaf hx hl
  cases x
  simp only at hl h1 h2
  subst hl h1 h2
  rfl
theorem ownD_app {B : Nat} {w : World} {v : Value} {ds : List Dig} {d : Dig} (h : Own B w v (ds.length + 1) 32 25 (dcells ds ++ d.cells)) : OwnD B w v (ds ++ [d]) := by
  have e : dcells (ds ++ [d]) = dcells ds ++ d.cells := by simp [dcells]
  show Own B w v (ds ++ [d]).length 32 _ (dcells (ds ++ [d]))
  rw [List.length_append, e]
  exact h
theorem road6_call (v : Value) (r : Int) (ns : List Node) (k : Dig) (S : Where) (w : World) (h : RdN S w v ns) (hK : Kt w) :
    Does Tryd.prog 40 #[tv v r, dv k] w fun q w' => Ext w w' ∧
      if treeB ns r then ∃ u s, q = .tuple #[ndv (endNode (wayAt 0 (allT ns r) k).1) u, s, iv 0] ∧ OwnB w.heap.size w' u (endNode (wayAt 0 (allT ns r) k).1).val ∧ OwnD w.heap.size w' s (wayAt 0 (allT ns r) k).2
      else q = .tuple #[ndv (endNode none) (.slice none 0 0), .slice none 0 0, iv 8] := by
  refine call_walk Tryd.func40 (by kernel_rfl) rfl Tryd.ntmps40 rfl ?_
  obtain ⟨p, c, rfl, hc⟩ := h.isSlice
  refine St0 ?_
  refine GL.box (vs := [.slice p ns.length c, iv r]) rfl rfl rfl rfl fun b2 w1 hb2 hB2 he1 => ?_
  refine GL.box rfl rfl rfl rfl fun b3 w2 hb3 hB3 he2 => ?_
  refine GL.alloc hT rfl rfl rfl fun b4 w3 hb4 hB4 he3 => ?_
  replace hB2 := hB2.ext he2
  replace hB2 := hB2.ext he3
  replace hB3 := hB3.ext he3
  have hE3 := (he1.trans he2).trans he3
  have s1 := he1.size
  have s2 := he2.size
  have s3 := he3.size
  refine St1 (hB2.all) ?_
  refine GL.call rfl rfl rfl (check6_call ns _ r S w3 (h.ext hE3)) ?_
  rintro _ w4 ⟨rfl, he4⟩
  replace hB2 := hB2.ext he4
  replace hB3 := hB3.ext he4
  replace hB4 := hB4.ext he4
  have hE4 := hE3.trans he4
  cases hok : treeB ns r
  · have e0 : badE false = 8 := rfl
    rw [e0]
    refine St0 ?_
    refine GL.build (ncells (endNode none) (.slice none 0 0)) hT rfl rfl rfl rfl rfl rfl (by rfl) ?_
    refine St0 ?_
    refine GL.storeVar hT rfl rfl rfl rfl rfl (ncells_len _ _) (ncells_one _ rfl) hB4 (by rw [ncells_len]; decide) fun w5 hc5 hB5 => ?_
    refine St0 ?_
    exact G.retNtt rfl rfl hT rfl rfl rfl rfl rfl rfl hB5.all (ncells_len _ _) ⟨hc5.below (by omega) hE4, by simp only [Bool.false_eq_true, if_false]⟩
  have hT' := treeB_iff.1 hok
  have hpos := hT'.pos
  have hfew := hT'.few
  have hst0 := hT'.all
  obtain ⟨n0, rfl⟩ : ∃ n0 : Nat, r = n0 := ⟨r.toNat, by omega⟩
  have e0 : badE true = 0 := rfl
  rw [e0]
  refine St1 ((tvAt hB2.all).2) ?_
  refine G.sub (f' := [(8, iv n0), (9, iv ((0 : Nat) : Int)), (5, .slice none 0 0), (2, ptr b2 0), (3, ptr b3 0), (4, ptr b4 0), (6, iv 0)]) (by (repeat (first | exact Fr.sub_nil _ | refine Fr.sub_cons rfl ?_))) ?_
  refine G.rounds (α := Nat) (fun n f w' => Ext w4 w' ∧ ∃ (d : Nat) (b : Dig) (ps : List Pair) (s : Value) (ds : List Dig), Stand ns n d b ps ∧ Zb d b ∧ d ≤ 256 ∧ ds.length = d ∧ OwnD w4.heap.size w' s ds ∧ wayAt 0 (allT ns n0) k = ((wayAt d ps k).1, ds ++ (wayAt d ps k).2) ∧
    f = [(8, iv n), (9, iv d), (5, s), (2, ptr b2 0), (3, ptr b3 0), (4, ptr b4 0), (6, iv 0)]) (fun n => n) ?round n0 ⟨Ext.refl _, 0, dig0, _, _, [], hst0, zb0, by omega, rfl, Own.bare _ _ none 32 _, by simp, rfl⟩
  rintro n f w5 ⟨he5, d, b, ps, s, ds, hs, hz, hd256, hdl, hown, hway, rfl⟩ again
  have hE5 := hE4.trans he5
  have hle := hs.le
  have s4 := hE4.size
  have s5 := he5.size
  have g4 : w.heap.size ≤ b4 := by omega
  replace hB2 := hB2.ext he5
  replace hB3 := hB3.ext he5
  replace hB4 := hB4.ext he5
  by_cases hn : (n : Int) > 0
  · obtain ⟨i, rfl⟩ : ∃ i, n = i + 1 := ⟨n - 1, by omega⟩
    obtain ⟨x, hx⟩ : ∃ x, ns[i]? = some x := ⟨_, List.getElem?_eq_getElem (by omega)⟩
    obtain ⟨bb, o, c', u, hv, hu, hA⟩ := h.elem hx
    cases hv
    replace hA := hA.ext hE5
    have hlf := (nAt hA).leaf
    refine St1 ((tvAt hB2.all).1) ?_
    (refine GL.indexSlice (i) 36 ((o + i * 36)) hT rfl rfl rfl rfl rfl rfl rfl rfl ?_ ?_ ?_ ?_; (focus omega); (focus omega); (focus omega))
    cases hl : x.leaf
    · rw [hl] at hlf
      obtain ⟨l, rr, p0, p1, hd, e1, e2, hS, h2, rfl⟩ := hs.sides hx hl
      obtain ⟨l', rr', e1', e2', hl1, hl2, _, _, _⟩ := hT'.one.fork (n := 0) hx hl
      rw [e1] at e1'
      rw [e2] at e2'
      refine St1 (hlf) ?_
      rcases bit_or k d with hkb | hkb
      · refine G.drawS 11 (List.range 11) [10] follows (by kernel_rfl) (by kernel_rfl) (by kernel_rfl) (by kernel_rfl) (by kernel_rfl) (by kernel_rfl) ?_
        refine SSt1 ((tvAt hB2.all).1) ?_
        (refine GS.indexSlice (i) 36 ((o + i * 36)) hT rfl rfl rfl rfl rfl rfl rfl rfl ?_ ?_ ?_ ?_; (focus omega); (focus omega); (focus omega))
        refine SSt1 (hA) ?_
        refine GS.call rfl rfl rfl (fun w' he' => roads_call x _ w') ?_
        rw [e1, e2]
        refine SSt1 (hB3.all) ?_
        refine GS.call rfl rfl rfl (fun w' he' => bit6_call k d hd w') ?_
        rw [hkb]
        refine GS.op rfl fun w6 he6 => ?_
        refine GL.alloc hT rfl rfl rfl fun b10 w7 hb10 hB10 he7 => ?_
        refine GS.done he7 ?_
        refine GS.tail fun w8 he8 => ?_
        have he58 := he6.trans (he7.trans he8)
        have s6 := he6.size
        refine GL.storeVar (vs := [iv l, iv rr]) hT rfl rfl rfl rfl rfl rfl (by intro q hq; simp at hq; rcases hq with rfl | rfl <;> rfl) (hB10.ext he8) rfl fun w9 hc9 hB10 => ?_
        have hx59 : Ext w5 w9 := hc9.below (by omega) he58
        replace hB2 := hB2.ext hx59
        replace hown := hown.ext hx59
        have hE9 := hE5.trans hx59
        refine St0 ?_
        refine G.drawS 8 (List.range 8) [7] follows (by kernel_rfl) (by kernel_rfl) (by kernel_rfl) (by kernel_rfl) (by kernel_rfl) (by kernel_rfl) ?_
        refine SSt1 (hB2.all) ?_
        refine GS.bin (v := .int .u8 1) rfl rfl rfl rfl (fun w => run_sub_u8 1 0 w) ?_
        (refine GS.indexArr (1) 1 (1) hT rfl rfl rfl rfl rfl rfl rfl rfl ?_ ?_ ?_ ?_; (focus omega); (focus omega); (focus omega))
        refine SSt1 ((tvAt hB10.all).2) ?_
        refine GS.call rfl rfl rfl (fun w' he' => sum6_call ns hT'.one (by omega) (rr + 1) rr (d + 1) (sideOf b d 1) p1 _ n0 S w' (by omega) hS.right (hz.side hd 1) (h.ext (hE9.trans he')) (hK.ext (hE9.trans he'))) ?_
        refine GS.op rfl fun wa hea => ?_
        refine GL.buildSlice (rootAt (d + 1) p1).cells hT rfl rfl rfl rfl rfl rfl rfl (fillL_one rfl (Dig.len _) (madeLen _ _)) fun b11 wb hb11 hB11 heb => ?_
        refine GS.done heb ?_
        refine GS.tail fun wc hec => ?_
        have hx9c := hea.trans (heb.trans hec)
        replace hown := hown.ext hx9c
        replace hB10 := hB10.ext hx9c
        have hx5c := hx59.trans hx9c
        have hx4c := he5.trans hx5c
        have hEc := hE9.trans hx9c
        have hsrc : RdF any wc (.slice (some ⟨b11, 0, none⟩) 1 1) 1 (rootAt (d + 1) p1).cells := ⟨_, 1, rfl, Nat.le_refl _, .inr ⟨b11, 0, rfl, (hB11.ext hec).all⟩⟩
        refine GL.append hT rfl rfl rfl rfl rfl rfl rfl rfl rfl rfl hown hsrc (Dig.len _) (Dig.one _) (by show (ds.length + 1) * 32 ≤ _; omega) (by omega) hx4c.size fun s' wd hod hbd hrow => ?_
        have hBk : ∀ q, rowOf s = some q → w4.heap.size ≤ q := fun q hq => (hown.row hq).1
        have hEd : Ext w4 wd := hbd.below hBk hx4c.size hx4c
        replace hB10 := hB10.but hbd (hown.ne_blk hB10 (by decide))
        refine St0 ?_
        (refine GL.indexArr (0) 1 (0) hT rfl rfl rfl rfl rfl rfl rfl rfl ?_ ?_ ?_ ?_; (focus omega); (focus omega); (focus omega))
        refine St1 ((tvAt hB10.all).1) ?_
        refine G.sub (by (repeat (first | exact Fr.sub_nil _ | refine Fr.sub_cons rfl ?_))) (again _ _ _ ?_ ⟨hEd, d + 1, sideOf b d 0, _, s', ds ++ [rootAt (d + 1) p1], hS.left, hz.side hd 0, by omega, by simp; omega, ownD_app hod, ?_, rfl⟩)
        · show _ < i + 1
          omega
        · rw [hway, hS.way0 hz hd h2 hkb]
          simp
      · refine G.drawS 11 (List.range 11) [10] follows (by kernel_rfl) (by kernel_rfl) (by kernel_rfl) (by kernel_rfl) (by kernel_rfl) (by kernel_rfl) ?_
        refine SSt1 ((tvAt hB2.all).1) ?_
        (refine GS.indexSlice (i) 36 ((o + i * 36)) hT rfl rfl rfl rfl rfl rfl rfl rfl ?_ ?_ ?_ ?_; (focus omega); (focus omega); (focus omega))
        refine SSt1 (hA) ?_
        refine GS.call rfl rfl rfl (fun w' he' => roads_call x _ w') ?_
        rw [e1, e2]
        refine SSt1 (hB3.all) ?_
        refine GS.call rfl rfl rfl (fun w' he' => bit6_call k d hd w') ?_
        rw [hkb]
        refine GS.op rfl fun w6 he6 => ?_
        refine GL.alloc hT rfl rfl rfl fun b10 w7 hb10 hB10 he7 => ?_
        refine GS.done he7 ?_
        refine GS.tail fun w8 he8 => ?_
        have he58 := he6.trans (he7.trans he8)
        have s6 := he6.size
        refine GL.storeVar (vs := [iv l, iv rr]) hT rfl rfl rfl rfl rfl rfl (by intro q hq; simp at hq; rcases hq with rfl | rfl <;> rfl) (hB10.ext he8) rfl fun w9 hc9 hB10 => ?_
        have hx59 : Ext w5 w9 := hc9.below (by omega) he58
        replace hB2 := hB2.ext hx59
        replace hown := hown.ext hx59
        have hE9 := hE5.trans hx59
        refine St0 ?_
        refine G.drawS 8 (List.range 8) [7] follows (by kernel_rfl) (by kernel_rfl) (by kernel_rfl) (by kernel_rfl) (by kernel_rfl) (by kernel_rfl) ?_
        refine SSt1 (hB2.all) ?_
        refine GS.bin (v := .int .u8 0) rfl rfl rfl rfl (fun w => run_sub_u8 1 1 w) ?_
        (refine GS.indexArr (0) 1 (0) hT rfl rfl rfl rfl rfl rfl rfl rfl ?_ ?_ ?_ ?_; (focus omega); (focus omega); (focus omega))
        refine SSt1 ((tvAt hB10.all).1) ?_
        refine GS.call rfl rfl rfl (fun w' he' => sum6_call ns hT'.one (by omega) (l + 1) l (d + 1) (sideOf b d 0) p0 _ n0 S w' (by omega) hS.left (hz.side hd 0) (h.ext (hE9.trans he')) (hK.ext (hE9.trans he'))) ?_
        refine GS.op rfl fun wa hea => ?_
        refine GL.buildSlice (rootAt (d + 1) p0).cells hT rfl rfl rfl rfl rfl rfl rfl (fillL_one rfl (Dig.len _) (madeLen _ _)) fun b11 wb hb11 hB11 heb => ?_
        refine GS.done heb ?_
        refine GS.tail fun wc hec => ?_
        have hx9c := hea.trans (heb.trans hec)
        replace hown := hown.ext hx9c
        replace hB10 := hB10.ext hx9c
        have hx5c := hx59.trans hx9c
        have hx4c := he5.trans hx5c
        have hEc := hE9.trans hx9c
        have hsrc : RdF any wc (.slice (some ⟨b11, 0, none⟩) 1 1) 1 (rootAt (d + 1) p0).cells := ⟨_, 1, rfl, Nat.le_refl _, .inr ⟨b11, 0, rfl, (hB11.ext hec).all⟩⟩
        refine GL.append hT rfl rfl rfl rfl rfl rfl rfl rfl rfl rfl hown hsrc (Dig.len _) (Dig.one _) (by show (ds.length + 1) * 32 ≤ _; omega) (by omega) hx4c.size fun s' wd hod hbd hrow => ?_
        have hBk : ∀ q, rowOf s = some q → w4.heap.size ≤ q := fun q hq => (hown.row hq).1
        have hEd : Ext w4 wd := hbd.below hBk hx4c.size hx4c
        replace hB10 := hB10.but hbd (hown.ne_blk hB10 (by decide))
        refine St0 ?_
        (refine GL.indexArr (1) 1 (1) hT rfl rfl rfl rfl rfl rfl rfl rfl ?_ ?_ ?_ ?_; (focus omega); (focus omega); (focus omega))
        refine St1 ((tvAt hB10.all).2) ?_
        refine G.sub (by (repeat (first | exact Fr.sub_nil _ | refine Fr.sub_cons rfl ?_))) (again _ _ _ ?_ ⟨hEd, d + 1, sideOf b d 1, _, s', ds ++ [rootAt (d + 1) p0], hS.right, hz.side hd 1, by omega, by simp; omega, ownD_app hod, ?_, rfl⟩)
        · show _ < i + 1
          omega
        · rw [hway, hS.way1 hz hd h2 hkb]
          simp
    · rw [hl] at hlf
      obtain ⟨rfl, hpx⟩ := hs.one hx hl
      have hxe := leaf_eq hT'.one hx hl
      have hvl := valB_le (hT'.one.leaf hx hl).1
      refine St2 (hlf) ((tvAt hB2.all).1) ?_
      (refine GL.indexSlice (i) 36 ((o + i * 36)) hT rfl rfl rfl rfl rfl rfl rfl rfl ?_ ?_ ?_ ?_; (focus omega); (focus omega); (focus omega))
      refine St1 (hA) ?_
      refine GL.storeVar hT rfl rfl rfl rfl rfl (ncells_len _ _) (ncells_one _ hu.one) hB4 (by rw [ncells_len]; decide) fun w6 hc6 hB6 => ?_
      have hE6 : Ext w w6 := hc6.below g4 hE5
      replace hown := hown.keepBlk hB4 (by decide) hc6
      refine St1 ((nAt hB6.all).val) ?_
      refine GL.call rfl rfl rfl (cloneB_call u x.val S w6 (hu.ext hE6) (by omega)) ?_
      rintro u' w7 ⟨hu', he7⟩
      replace hB6 := hB6.ext he7
      replace hown := hown.ext he7
      have s6 := hE6.size
      have hE7 := hE6.trans he7
      refine St0 ?_
      refine GL.store1 hT rfl rfl rfl rfl rfl (RdF.some (Own.fresh hu')) (RdF.one (Own.fresh hu')) hB6 (by rw [ncells_len]; decide) fun w8 hc8 hB8 => ?_
      rw [ncells_set] at hB8
      have hE8 : Ext w w8 := hc8.below g4 hE7
      replace hown := hown.keepBlk hB6 (by decide) hc8
      replace hu' := hu'.keepBlk hB6 (by decide) hc8
      refine St1 (hB8.all) ?_
      refine GL.storeVar hT rfl rfl rfl rfl rfl (ncells_len _ _) (ncells_one _ (RdF.one (Own.fresh hu'))) hB8 (by simp only [ncells_len]) fun w9 hc9 hB9 => ?_
      replace hown := hown.keepBlk hB8 (by decide) hc9
      replace hu' := hu'.keepBlk hB8 (by decide) hc9
      refine St0 ?_
      rw [wayAt_one] at hway
      refine G.retNtt rfl rfl hT rfl rfl rfl rfl rfl rfl hB9.all (ncells_len _ _) ⟨hc9.below g4 hE8, ?_⟩
      rw [if_pos rfl, hway]
      simp only [List.append_nil]
      exact ⟨u', s, by rw [show endNode (some ⟨x.key, x.val⟩) = x from hxe.symm], hu'.mono s6, hown.mono s4⟩
  · have h0 : n = 0 := by omega
    subst h0
    have : ps = [] := (hs.empty).2 rfl
    subst this
    rw [wayAt_nil] at hway
    have e4 : ti56.zero = ncells (endNode none) (.slice none 0 0) := rfl
    rw [e4] at hB4
    refine St0 ?_
    refine St1 (hB4.all) ?_
    refine GL.storeVar hT rfl rfl rfl rfl rfl (ncells_len _ _) (ncells_one _ rfl) hB4 (by simp only [ncells_len]) fun w9 hc9 hB9 => ?_
    replace hown := hown.keepBlk hB4 (by decide) hc9
    refine St0 ?_
    refine G.retNtt rfl rfl hT rfl rfl rfl rfl rfl rfl hB9.all (ncells_len _ _) ⟨hc9.below g4 hE5, ?_⟩
    rw [if_pos rfl, hway]
    simp only [List.append_nil]
    exact ⟨.slice none 0 0, s, rfl, Own.bare _ _ none 1 _, hown.mono s4⟩
end Go.Proofs.YtefneilaongpbaaDoor
/-
  Where a key's road ends, and its sides: the document's; the law's walk.
-/
set_option linter.unusedVariables false
set_option linter.unusedSimpArgs false
set_option maxRecDepth 100000
set_option maxHeartbeats 4000000
namespace Go.Proofs.YtefneilaongpbaaDoor
open Go Go.Bd Go.RowKit
attribute [local irreducible] G GL GQ GS shaD

theorem Stand.under {ns : List Node} {n d : Nat} {b : Dig} {ps : List Pair} (h : Stand ns n d b ps) (hz : Zb d b) : Under d ps :=
  ⟨h.pw hz, fun x hx y hy j hj => by rw [h.pre x hx j hj, h.pre y hy j hj]⟩
/-- Where a road ends: the leaf's number. -/
def EndAt (ns : List Node) (m : Nat) : Option Pair → Prop
  | none => m = 0
  | some x => ∃ i y, m = i + 1 ∧ ns[i]? = some y ∧ y.leaf = true ∧ x = ⟨y.key, y.val⟩
theorem refWay6_call (v : Value) (r : Int) (ns : List Node) (k : Dig) (S : Where) (w : World) (h : RdN S w v ns) (hT' : TreeOk ns r) :
    Does Tryd.prog 102 #[tv v r, dv k] w fun q w' => ∃ (m : Nat) (s : Value), q = .tuple #[iv m, s] ∧ OwnD w.heap.size w' s (wayAt 0 (allT ns r) k).2 ∧ EndAt ns m (wayAt 0 (allT ns r) k).1 ∧ Ext w w' := by
  refine call_walk Tryd.func102 (by kernel_rfl) rfl Tryd.ntmps102 rfl ?_
  obtain ⟨p, c, rfl, hc⟩ := h.isSlice
  refine St0 ?_
  refine GL.box (vs := [.slice p ns.length c, iv r]) rfl rfl rfl rfl fun b2 w1 hb2 hB2 he1 => ?_
  refine GL.box rfl rfl rfl rfl fun b3 w4 hb3 hB3 he2 => ?_
  replace hB2 := hB2.ext he2
  have hE4 := he1.trans he2
  have hpos := hT'.pos
  have hfew := hT'.few
  have hst0 := hT'.all
  obtain ⟨n0, rfl⟩ : ∃ n0 : Nat, r = n0 := ⟨r.toNat, by omega⟩
  refine St1 ((tvAt hB2.all).2) ?_
  refine G.sub (f' := [(7, iv n0), (8, iv ((0 : Nat) : Int)), (6, .slice none 0 0), (2, ptr b2 0), (3, ptr b3 0)]) (by (repeat (first | exact Fr.sub_nil _ | refine Fr.sub_cons rfl ?_))) ?_
  refine G.rounds (α := Nat) (fun n f w' => Ext w4 w' ∧ ∃ (d : Nat) (b : Dig) (ps : List Pair) (s : Value) (ds : List Dig), Stand ns n d b ps ∧ Zb d b ∧ d ≤ 256 ∧ ds.length = d ∧ OwnD w4.heap.size w' s ds ∧ wayAt 0 (allT ns n0) k = ((wayAt d ps k).1, ds ++ (wayAt d ps k).2) ∧
    f = [(7, iv n), (8, iv d), (6, s), (2, ptr b2 0), (3, ptr b3 0)]) (fun n => n) ?round n0 ⟨Ext.refl _, 0, dig0, _, _, [], hst0, zb0, by omega, rfl, Own.bare _ _ none 32 _, by simp, rfl⟩
  rintro n f w5 ⟨he5, d, b, ps, s, ds, hs, hz, hd256, hdl, hown, hway, rfl⟩ again
  have hE5 := hE4.trans he5
  have hle := hs.le
  have s4 := hE4.size
  have s5 := he5.size
  replace hB2 := hB2.ext he5
  replace hB3 := hB3.ext he5
  by_cases hn : (n : Int) > 0
  · obtain ⟨i, rfl⟩ : ∃ i, n = i + 1 := ⟨n - 1, by omega⟩
    obtain ⟨x, hx⟩ : ∃ x, ns[i]? = some x := ⟨_, List.getElem?_eq_getElem (by omega)⟩
    obtain ⟨bb, o, c', u, hv, hu, hA⟩ := h.elem hx
    cases hv
    replace hA := hA.ext hE5
    have hlf := (nAt hA).leaf
    refine St1 ((tvAt hB2.all).1) ?_
    (refine GL.indexSlice (i) 36 ((o + i * 36)) hT rfl rfl rfl rfl rfl rfl rfl rfl ?_ ?_ ?_ ?_; (focus omega); (focus omega); (focus omega))
    cases hl : x.leaf
    · rw [hl] at hlf
      obtain ⟨l, rr, p0, p1, hd, e1, e2, hS, h2, rfl⟩ := hs.sides hx hl
      obtain ⟨l', rr', e1', e2', hl1, hl2, _, _, _⟩ := hT'.one.fork (n := 0) hx hl
      rw [e1] at e1'
      rw [e2] at e2'
      refine St2 (hlf) ((tvAt hB2.all).1) ?_
      (refine GL.indexSlice (i) 36 ((o + i * 36)) hT rfl rfl rfl rfl rfl rfl rfl rfl ?_ ?_ ?_ ?_; (focus omega); (focus omega); (focus omega))
      refine St1 (hA) ?_
      refine GL.alloc hT rfl rfl rfl fun b9 w6 hb9 hB9 he6 => ?_
      refine St0 ?_
      refine GL.storeVar hT rfl rfl rfl rfl rfl (ncells_len _ _) (ncells_one _ hu.one) hB9 (by rw [ncells_len]; decide) fun w7 hc7 hB9 => ?_
      have he57 : Ext w5 w7 := hc7.below (by omega) he6
      have hleft := (nAt hB9.all).left
      have hright := (nAt hB9.all).right
      rw [e1] at hleft
      rw [e2] at hright
      refine St0 ?_
      refine G.quiet follows (by kernel_rfl) ?_
      refine QSt2 (hleft) (hright) ?_
      refine GQ.nil fun w8 he8 => ?_
      have he58 := he57.trans he8
      replace hB2 := hB2.ext he58
      replace hB3 := hB3.ext he58
      replace hown := hown.ext he58
      have hE8 := hE5.trans he58
      refine St1 (hB3.all) ?_
      refine GL.call rfl rfl rfl (refAt_call k d hd w8) ?_
      rintro _ w9 ⟨rfl, he9⟩
      replace hB2 := hB2.ext he9
      replace hB3 := hB3.ext he9
      replace hown := hown.ext he9
      have hE9 := hE8.trans he9
      have he49 := he5.trans (he58.trans he9)
      rcases bit_or k d with hkb | hkb
      · rw [hkb]
        refine St1 (hB2.all) ?_
        refine GL.call rfl rfl rfl (refFor6_call ns hT'.one (by omega) (rr + 1) rr (d + 1) (sideOf b d 1) p1 _ n0 S w9 (by omega) hS.right (hz.side hd 1) (h.ext hE9)) ?_
        rintro vp wa ⟨hop, hea⟩
        have hpl := hS.right.len (hz.side hd 1)
        refine St0 ?_
        rw [show (d : Int) + 1 = ((d + 1 : Nat) : Int) by omega]
        refine GL.call rfl rfl rfl (refOf_call (256 - (d + 1)) (d + 1) vp p1 _ wa rfl (by omega) hop.rd (hS.right.under (hz.side hd 1)) (by omega) (fun y hy => by have := valB_le (hS.right.valid hT'.one y hy); omega)) ?_
        rintro _ wb ⟨rfl, heb⟩
        refine GL.buildSlice (rootAt (d + 1) p1).cells hT rfl rfl rfl rfl rfl rfl rfl (fillL_one rfl (Dig.len _) (madeLen _ _)) fun b11 wc hb11 hB11 hec => ?_
        have hx9c := hea.trans (heb.trans hec)
        replace hown := hown.ext hx9c
        have hx4c := he49.trans hx9c
        have hsrc : RdF any wc (.slice (some ⟨b11, 0, none⟩) 1 1) 1 (rootAt (d + 1) p1).cells := ⟨_, 1, rfl, Nat.le_refl _, .inr ⟨b11, 0, rfl, hB11.all⟩⟩
        refine GL.append hT rfl rfl rfl rfl rfl rfl rfl rfl rfl rfl hown hsrc (Dig.len _) (Dig.one _) (by show (ds.length + 1) * 32 ≤ _; omega) (by omega) hx4c.size fun s' wd hod hbd hrow => ?_
        have hBk : ∀ q, rowOf s = some q → w4.heap.size ≤ q := fun q hq => (hown.row hq).1
        have hEd : Ext w4 wd := hbd.below hBk hx4c.size hx4c
        refine St0 ?_
        refine G.sub (by (repeat (first | exact Fr.sub_nil _ | refine Fr.sub_cons rfl ?_))) (again _ _ _ ?_ ⟨hEd, d + 1, sideOf b d 0, _, s', ds ++ [rootAt (d + 1) p1], hS.left, hz.side hd 0, by omega, by simp; omega, ownD_app hod, ?_, rfl⟩)
        · show _ < i + 1
          omega
        · rw [hway, hS.way0 hz hd h2 hkb]
          simp
      · rw [hkb]
        refine St1 (hB2.all) ?_
        refine GL.call rfl rfl rfl (refFor6_call ns hT'.one (by omega) (l + 1) l (d + 1) (sideOf b d 0) p0 _ n0 S w9 (by omega) hS.left (hz.side hd 0) (h.ext hE9)) ?_
        rintro vp wa ⟨hop, hea⟩
        have hpl := hS.left.len (hz.side hd 0)
        refine St0 ?_
        rw [show (d : Int) + 1 = ((d + 1 : Nat) : Int) by omega]
        refine GL.call rfl rfl rfl (refOf_call (256 - (d + 1)) (d + 1) vp p0 _ wa rfl (by omega) hop.rd (hS.left.under (hz.side hd 0)) (by omega) (fun y hy => by have := valB_le (hS.left.valid hT'.one y hy); omega)) ?_
        rintro _ wb ⟨rfl, heb⟩
        refine GL.buildSlice (rootAt (d + 1) p0).cells hT rfl rfl rfl rfl rfl rfl rfl (fillL_one rfl (Dig.len _) (madeLen _ _)) fun b11 wc hb11 hB11 hec => ?_
        have hx9c := hea.trans (heb.trans hec)
        replace hown := hown.ext hx9c
        have hx4c := he49.trans hx9c
        have hsrc : RdF any wc (.slice (some ⟨b11, 0, none⟩) 1 1) 1 (rootAt (d + 1) p0).cells := ⟨_, 1, rfl, Nat.le_refl _, .inr ⟨b11, 0, rfl, hB11.all⟩⟩
        refine GL.append hT rfl rfl rfl rfl rfl rfl rfl rfl rfl rfl hown hsrc (Dig.len _) (Dig.one _) (by show (ds.length + 1) * 32 ≤ _; omega) (by omega) hx4c.size fun s' wd hod hbd hrow => ?_
        have hBk : ∀ q, rowOf s = some q → w4.heap.size ≤ q := fun q hq => (hown.row hq).1
        have hEd : Ext w4 wd := hbd.below hBk hx4c.size hx4c
        refine St0 ?_
        refine G.sub (by (repeat (first | exact Fr.sub_nil _ | refine Fr.sub_cons rfl ?_))) (again _ _ _ ?_ ⟨hEd, d + 1, sideOf b d 1, _, s', ds ++ [rootAt (d + 1) p0], hS.right, hz.side hd 1, by omega, by simp; omega, ownD_app hod, ?_, rfl⟩)
        · show _ < i + 1
          omega
        · rw [hway, hS.way1 hz hd h2 hkb]
          simp
    · rw [hl] at hlf
      obtain ⟨rfl, hpx⟩ := hs.one hx hl
      refine St1 (hlf) ?_
      rw [wayAt_one] at hway
      refine G.ret2 rfl rfl rfl rfl rfl ⟨i + 1, s, rfl, by rw [hway]; simp only [List.append_nil]; exact hown.mono s4, by rw [hway]; exact ⟨i, x, rfl, hx, hl, rfl⟩, hE5⟩
  · have h0 : n = 0 := by omega
    subst h0
    have : ps = [] := (hs.empty).2 rfl
    subst this
    rw [wayAt_nil] at hway
    refine St0 ?_
    refine G.ret2 rfl rfl rfl rfl rfl ⟨0, s, rfl, by rw [hway]; simp only [List.append_nil]; exact hown.mono s4, by rw [hway]; exact rfl, hE5⟩
theorem refRoad6_call (v : Value) (r : Int) (ns : List Node) (k : Dig) (S : Where) (w : World) (h : RdN S w v ns) :
    Does Tryd.prog 41 #[tv v r, dv k] w fun q w' => Ext w w' ∧
      if treeB ns r then ∃ u s, q = .tuple #[ndv (endNode (wayAt 0 (allT ns r) k).1) u, s, iv 0] ∧ OwnB w.heap.size w' u (endNode (wayAt 0 (allT ns r) k).1).val ∧ OwnD w.heap.size w' s (wayAt 0 (allT ns r) k).2
      else q = .tuple #[ndv (endNode none) (.slice none 0 0), .slice none 0 0, iv 8] := by
  refine call_walk Tryd.func41 (by kernel_rfl) rfl Tryd.ntmps41 rfl ?_
  obtain ⟨p, c, rfl, hc⟩ := h.isSlice
  refine St0 ?_
  refine GL.box (vs := [.slice p ns.length c, iv r]) rfl rfl rfl rfl fun b2 w1 hb2 hB2 he1 => ?_
  refine GL.box rfl rfl rfl rfl fun b3 w2 hb3 hB3 he2 => ?_
  refine GL.alloc hT rfl rfl rfl fun b4 w3 hb4 hB4 he3 => ?_
  replace hB2 := hB2.ext he2
  replace hB2 := hB2.ext he3
  replace hB3 := hB3.ext he3
  have hE3 := (he1.trans he2).trans he3
  have s1 := he1.size
  have s2 := he2.size
  have s3 := he3.size
  refine St1 (hB2.all) ?_
  refine GL.call rfl rfl rfl (refMay6_call ns _ r S w3 (h.ext hE3)) ?_
  rintro _ w4 ⟨rfl, he4⟩
  replace hB2 := hB2.ext he4
  replace hB3 := hB3.ext he4
  replace hB4 := hB4.ext he4
  have hE4 := hE3.trans he4
  cases hok : treeB ns r
  · refine St0 ?_
    refine GL.build (ncells (endNode none) (.slice none 0 0)) hT rfl rfl rfl rfl rfl rfl (by rfl) ?_
    refine GL.storeVar hT rfl rfl rfl rfl rfl (ncells_len _ _) (ncells_one _ rfl) hB4 (by rw [ncells_len]; decide) fun w5 hc5 hB5 => ?_
    refine St0 ?_
    exact G.retNtt rfl rfl hT rfl rfl rfl rfl rfl rfl hB5.all (ncells_len _ _) ⟨hc5.below (by omega) hE4, by simp only [Bool.false_eq_true, if_false]⟩
  have hT' := treeB_iff.1 hok
  refine St2 (hB2.all) (hB3.all) ?_
  refine GL.call rfl rfl rfl (refWay6_call _ r ns k S w4 (h.ext hE4) hT') ?_
  rintro _ w5 ⟨m, s, rfl, hos, hend, he5⟩
  replace hB2 := hB2.ext he5
  replace hB4 := hB4.ext he5
  have hE5 := hE4.trans he5
  have s4 := hE4.size
  by_cases hm0 : (m : Int) = 0
  · have hnone : (wayAt 0 (allT ns r) k).1 = none := by
      cases hq : (wayAt 0 (allT ns r) k).1 with
      | none => rfl
      | some x => rw [hq] at hend; obtain ⟨i, y, h1, _⟩ := hend; omega
    refine St0 ?_
    refine GL.build (ncells (endNode none) (.slice none 0 0)) hT rfl rfl rfl rfl rfl rfl (by rfl) ?_
    refine St0 ?_
    have hos' := fun (w' : World) (hc : Chg b4 _ w') => hos.keepBlk (w' := w') hB4 (by decide) hc
    refine GL.storeVar hT rfl rfl rfl rfl rfl (ncells_len _ _) (ncells_one _ rfl) hB4 (by rw [ncells_len]; decide) fun w6 hc6 hB6 => ?_
    refine St0 ?_
    refine G.retNtt rfl rfl hT rfl rfl rfl rfl rfl rfl hB6.all (ncells_len _ _) ⟨hc6.below (by omega) hE5, ?_⟩
    rw [if_pos rfl, hnone]
    exact ⟨.slice none 0 0, s, rfl, Own.bare _ _ none 1 _, (hos' _ hc6).mono s4⟩
  · obtain ⟨x, hsome, i, y, rfl, hy, hly, hxy⟩ : ∃ x, (wayAt 0 (allT ns r) k).1 = some x ∧ ∃ i y, m = i + 1 ∧ ns[i]? = some y ∧ y.leaf = true ∧ x = ⟨y.key, y.val⟩ := by
      cases hq : (wayAt 0 (allT ns r) k).1 with
      | none => rw [hq] at hend; have : m = 0 := hend; omega
      | some x => rw [hq] at hend; exact ⟨x, rfl, hend⟩
    have hxe := leaf_eq hT'.one hy hly
    have hvl := valB_le (hT'.one.leaf hy hly).1
    have hil := (List.getElem?_eq_some_iff.1 hy).1
    have hfew := hT'.few
    obtain ⟨bb, o, c', u, hv, hu, hA⟩ := h.elem hy
    cases hv
    replace hA := hA.ext hE5
    refine St1 ((tvAt hB2.all).1) ?_
    (refine GL.indexSlice (i) 36 ((o + i * 36)) hT rfl rfl rfl rfl rfl rfl rfl rfl ?_ ?_ ?_ ?_; (focus omega); (focus omega); (focus omega))
    refine St1 (hA) ?_
    refine GL.alloc hT rfl rfl rfl fun b9 w6 hb9 hB9 he6 => ?_
    refine St0 ?_
    refine GL.storeVar hT rfl rfl rfl rfl rfl (ncells_len _ _) (ncells_one _ hu.one) hB9 (by rw [ncells_len]; decide) fun w7 hc7 hB9 => ?_
    have he57 : Ext w5 w7 := hc7.below (by omega) he6
    have hE7 := hE5.trans he57
    refine St1 ((nAt hB9.all).val) ?_
    refine GL.call rfl rfl rfl (refTwin_call u y.val S w7 (hu.ext hE7) (by omega)) ?_
    rintro u' w8 ⟨hu', he8⟩
    replace hB9 := hB9.ext he8
    refine St0 ?_
    refine GL.store1 hT rfl rfl rfl rfl rfl (RdF.some (Own.fresh hu')) (RdF.one (Own.fresh hu')) hB9 (by rw [ncells_len]; decide) fun w9 hc9 hB9' => ?_
    rw [ncells_set] at hB9'
    replace hu' := hu'.keepBlk hB9 (by decide) hc9
    have he59 : Ext w5 w9 := hc9.below (by omega) (he57.trans he8)
    have s7 := hE7.size
    replace hB4 := hB4.ext he59
    replace hos := hos.ext he59
    refine St1 (hB9'.all) ?_
    have hos' := fun (w' : World) (hc : Chg b4 _ w') => hos.keepBlk (w' := w') hB4 (by decide) hc
    have hu2 := fun (w' : World) (hc : Chg b4 _ w') => hu'.keepBlk (w' := w') hB4 (by decide) hc
    refine GL.storeVar hT rfl rfl rfl rfl rfl (ncells_len _ _) (ncells_one _ (RdF.one (Own.fresh hu'))) hB4 (by rw [ncells_len]; decide) fun wa hca hBa => ?_
    refine St0 ?_
    refine G.retNtt rfl rfl hT rfl rfl rfl rfl rfl rfl hBa.all (ncells_len _ _) ⟨hca.below (by omega) (hE5.trans he59), ?_⟩
    rw [if_pos rfl, hsome, hxy]
    exact ⟨u', s, by rw [show endNode (some ⟨y.key, y.val⟩) = y from hxe.symm]; rfl, (hu2 _ hca).mono s7, (hos' _ hca).mono s4⟩
/-- Bytes are turned one by one. -/
theorem only_rd {B U : Nat} {w w' w0 : World} (h : Only B U w w') (h0 : Ext w0 w) (hB : w0.heap.size ≤ B) : Ext w0 w' := below_of_only h h0 hB
theorem ownN_trunc6 {B U : Nat} {w : World} {v : Value} {ns : List Node} (h : OwnN B w v ns) (hU : w.heap.size ≤ U) : OwnN B (trunc U w) v ns := by
  obtain ⟨es, h1, h2⟩ := h
  exact ⟨es, h1.imp fun e x ⟨u, hu, ho⟩ => ⟨u, hu, own_trunc ho hU⟩, own_trunc h2 hU⟩
theorem ownN_full6 {B U : Nat} {w : World} {v : Value} {ns : List Node} (h : OwnN B (trunc U w) v ns) : OwnN B w v ns := by
  obtain ⟨es, h1, h2⟩ := h
  exact ⟨es, h1.imp fun e x ⟨u, hu, ho⟩ => ⟨u, hu, own_full ho⟩, own_full h2⟩
theorem ownN_same6 {B U : Nat} {w w' : World} {v : Value} {ns : List Node} (h : OwnN B (trunc U w) v ns) (hk : ∀ k, B ≤ k → k < U → w'.heap[k]? = w.heap[k]?) : OwnN B (trunc U w') v ns := by
  obtain ⟨es, h1, h2⟩ := h
  exact ⟨es, h1.imp fun e x ⟨u, hu, ho⟩ => ⟨u, hu, own_same5 ho hk⟩, own_same5 h2 hk⟩
noncomputable def endN (ns : List Node) (r : Int) (k : Dig) : Node := if treeB ns r then endNode (wayAt 0 (allT ns r) k).1 else endNode none
noncomputable def sidesN (ns : List Node) (r : Int) (k : Dig) : List Dig := if treeB ns r then (wayAt 0 (allT ns r) k).2 else []
theorem road_uni {ns : List Node} {r : Int} {k : Dig} {q : Value} {w w' : World}
    (h : if treeB ns r then ∃ u s, q = .tuple #[ndv (endNode (wayAt 0 (allT ns r) k).1) u, s, iv 0] ∧ OwnB w.heap.size w' u (endNode (wayAt 0 (allT ns r) k).1).val ∧ OwnD w.heap.size w' s (wayAt 0 (allT ns r) k).2
      else q = .tuple #[ndv (endNode none) (.slice none 0 0), .slice none 0 0, iv 8]) :
    ∃ u s, q = .tuple #[ndv (endN ns r k) u, s, iv (badE (treeB ns r))] ∧ OwnB w.heap.size w' u (endN ns r k).val ∧ OwnD w.heap.size w' s (sidesN ns r k) := by
  unfold endN sidesN
  cases hok : treeB ns r
  · rw [hok] at h
    simp only [Bool.false_eq_true, if_false] at h ⊢
    exact ⟨_, _, h, Own.bare _ _ none 1 _, Own.bare _ _ none 32 _⟩
  · rw [hok] at h
    simp only [if_true] at h ⊢
    exact h
theorem TreeOk.way {ns : List Node} {r : Int} (h : TreeOk ns r) (k : Dig) : (wayAt 0 (allT ns r) k).2.length ≤ 256 ∧ ∀ x, (wayAt 0 (allT ns r) k).1 = some x → x ∈ allT ns r := by
  have h1 := way_len k 256 0 (allT ns r) rfl (by omega)
  have h2 := way_end k 256 0 (allT ns r) rfl (by omega) h.pw (fun x _ j hj => by omega)
  refine ⟨by omega, fun x hx => ?_⟩
  rw [hx] at h2
  exact h2.1
theorem sidesN_len (ns : List Node) (r : Int) (k : Dig) : (sidesN ns r k).length ≤ 256 := by
  unfold sidesN
  split
  · rename_i h; exact ((treeB_iff.1 h).way k).1
  · simp
theorem endN_small (ns : List Node) (r : Int) (k : Dig) : (endN ns r k).val.length ≤ 64 := by
  unfold endN
  split
  · rename_i h
    have hT' := treeB_iff.1 h
    cases hq : (wayAt 0 (allT ns r) k).1 with
    | none => simp [endNode]
    | some x => exact (valB_le (hT'.valid x ((hT'.way k).2 x hq))).2
  · simp [endNode]
theorem roads6law_call (v : Value) (r : Int) (ns : List Node) (k : Dig) (w : World) (h : RdN any w v ns) (hK : Kt w) :
    Does Tryd.prog 6 #[tv v r, dv k] w fun q w' => q = .bool true ∧ Ext w w' := by
  refine call_walk Tryd.func6 (by kernel_rfl) rfl Tryd.ntmps6 rfl ?_
  obtain ⟨p, c, rfl, hc⟩ := h.isSlice
  refine St0 ?_
  refine GL.box (vs := [.slice p ns.length c, iv r]) rfl rfl rfl rfl fun b2 w1 hb2 hB2 he1 => ?_
  refine GL.box rfl rfl rfl rfl fun b3 w2 hb3 hB3 he2 => ?_
  replace hB2 := hB2.ext he2
  have hE2 := he1.trans he2
  refine St1 (hB2.all) ?_
  refine GL.call rfl rfl rfl (great6_call ns _ r 600 any w2 (h.ext hE2) (by omega)) ?_
  rintro _ w3 ⟨⟨g, rfl, hg⟩, he3⟩
  replace hB2 := hB2.ext he3
  replace hB3 := hB3.ext he3
  have hE3 := hE2.trans he3
  cases g
  case true =>
    refine St0 ?_
    exact G.ret1 rfl rfl rfl rfl ⟨rfl, hE3⟩
  obtain ⟨hl600, hv100⟩ := hg rfl
  have hv47 : ∀ x ∈ ns, x.val.length ≤ 140737488355328 := fun x hx => by have := hv100 x hx; omega
  refine St1 (hB2.all) ?_
  refine GL.call rfl rfl rfl (refTwin6_call _ r ns any w3 (h.ext hE3) (by omega) hv47) ?_
  rintro _ w4 ⟨uo, rfl, ho, he4⟩
  refine GL.alloc hT rfl rfl rfl fun b5 w5 hb5 hB5 he5 => ?_
  have l5w := hB5.lt
  have s5 := he5.size
  refine GL.storeVar (vs := [uo, iv r]) hT rfl rfl rfl rfl rfl rfl (by intro q hq; simp at hq; rcases hq with rfl | rfl; exact ho.one; rfl) hB5 rfl fun w6 hc6 hB5 => ?_
  have hE46 : Ext w4 w6 := hc6.below (by omega) he5
  have s46 := hE46.size
  have ho6 := ownN_same6 (U := w4.heap.size) (w' := w6) (ownN_trunc6 ho (Nat.le_refl _)) (fun q _ hq => hE46.block q hq)
  have hx36 := he4.trans hE46
  replace hB2 := hB2.ext hx36
  replace hB3 := hB3.ext hx36
  have hE6 := hE3.trans hx36
  refine St2 (hB5.all) (hB3.all) ?_
  refine GL.call rfl rfl rfl (road6_call uo r ns k _ w6 (ownN_full6 ho6).rd (hK.ext hE6)) ?_
  rintro q1 w7 ⟨he7, hq1⟩
  have l6 := hB5.lt
  have s7 := he7.size
  replace hB2 := hB2.ext he7
  replace hB3 := hB3.ext he7
  replace hB5 := hB5.ext he7
  have hE7 := hE6.trans he7
  obtain ⟨u1, s1, rfl, hu1, hs1⟩ := road_uni hq1
  have hnl := endN_small ns r k
  have hsl := sidesN_len ns r k
  have hu7 := own_trunc hu1 (Nat.le_refl _)
  refine St0 ?_
  refine GL.alloc hT rfl rfl rfl fun b6 w8 hb6 hB6 he8 => ?_
  have s8 := he8.size
  refine St0 ?_
  refine GL.storeVar hT rfl rfl rfl rfl rfl (ncells_len _ _) (ncells_one _ hu1.one) hB6 (by rw [ncells_len]; decide) fun w9 hc9 hB6 => ?_
  have hE79 : Ext w7 w9 := hc9.below (by omega) he8
  replace hB2 := hB2.ext hE79
  replace hB3 := hB3.ext hE79
  replace hB5 := hB5.ext hE79
  have hE9 := hE7.trans hE79
  refine St2 (hB2.all) (hB3.all) ?_
  refine GL.call rfl rfl rfl (refRoad6_call _ r ns k any w9 (h.ext hE9)) ?_
  rintro q2 wa ⟨hea, hq2⟩
  replace hB2 := hB2.ext hea
  replace hB5 := hB5.ext hea
  replace hB6 := hB6.ext hea
  have hEa := hE9.trans hea
  obtain ⟨u2, s2, rfl, hu2, hs2⟩ := road_uni hq2
  generalize endN ns r k = N at hu1 hu7 hnl hu2 hB6
  generalize sidesN ns r k = Ds at hs1 hsl hs2
  have s9 := hE79.size
  have sa := hea.size
  refine St0 ?_
  refine GL.alloc hT rfl rfl rfl fun b9 wb hb9 hB9 heb => ?_
  refine St0 ?_
  refine GL.storeVar hT rfl rfl rfl rfl rfl (ncells_len _ _) (ncells_one _ hu2.one) hB9 (by rw [ncells_len]; decide) fun wc hcc hB9 => ?_
  have hEac : Ext wa wc := hcc.below (by omega) heb
  replace hB2 := hB2.ext hEac
  replace hB5 := hB5.ext hEac
  replace hB6 := hB6.ext hEac
  have hEc := hEa.trans hEac
  have x7c := hE79.trans (hea.trans hEac)
  have n6 := nAt hB6.all
  have n9 := nAt hB9.all
  have hkk : N.key = N.key := rfl
  refine St2 (n6.leaf) (n9.leaf) ?_
  rw [beq_self_eq_true]
  refine St4 (n6.key) (n9.key) (n6.val) (n9.val) ?_
  refine GL.call rfl rfl rfl (same_call u1 u2 N.val N.val _ _ wc (Own.ext hu1 x7c).fresh (Own.ext hu2 hEac).fresh) ?_
  rintro _ wc ⟨rfl, rfl⟩
  rw [decide_eq_true rfl]
  refine St4 (n6.left) (n9.left) (n6.right) (n9.right) ?_
  refine GL.call rfl rfl rfl (sameD_call s1 s2 Ds Ds _ _ wc (Own.ext hs1 x7c).fresh (Own.ext hs2 hEac).fresh (by omega)) ?_
  rintro _ wd ⟨rfl, hed⟩
  rw [decide_eq_true rfl]
  replace hB2 := hB2.ext hed
  replace hB5 := hB5.ext hed
  replace hB6 := hB6.ext hed
  have hEd := hEc.trans hed
  have x7d := x7c.trans hed
  have hud := own_same5 (w' := wd) hu7 (fun q _ hq => x7d.block q (by omega))
  have x6d := he7.trans x7d
  have hod := ownN_same6 (w' := wd) ho6 (fun q _ hq => x6d.block q (by omega))
  obtain ⟨pu, cu, hsh⟩ := (own_full hud).shape
  have lb5 : b5 < w6.heap.size := l6
  have lb2 := he1.size
  have sd := hEc.size
  have sdd := hed.size
  have sac := hEac.size
  have z3 := hE3.size
  have z4 := he4.size
  have hb6n : w7.heap.size ≤ b6 := by omega
  clear n6 n9 hu1 hu2 hs1 hs2 hu7 ho6 ho hq1 hq2
  refine St0 ?_
  refine G.sub (f' := [(13, iv ((0 : Nat) : Int)), (12, .bool true), (2, ptr b2 0), (5, ptr b5 0), (6, ptr b6 0)]) (by (repeat (first | exact Fr.sub_nil _ | refine Fr.sub_cons rfl ?_))) ?_
  refine G.rounds (α := Nat) (fun j f w' => j ≤ N.val.length ∧ Only w6.heap.size w7.heap.size wd w' ∧ (∃ bs' : Bytes, bs'.length = N.val.length ∧ OwnB w6.heap.size (trunc w7.heap.size w') u1 bs') ∧ f = [(13, iv j), (12, .bool true), (2, ptr b2 0), (5, ptr b5 0), (6, ptr b6 0)]) (fun j => N.val.length - j) ?round 0 ⟨by omega, Only.refl _ _ _, ⟨N.val, rfl, hud⟩, rfl⟩
  rintro j f we ⟨hj, hon, ⟨bs', hbl, hb'⟩, rfl⟩ again
  have ze := hon.size
  have hB6e : Blk we b6 56 (ncells N u1) := hB6.keep (hon.block b6 hB6.lt (.inr hb6n))
  have n6 := nAt hB6e.all
  have n6v := n6.val
  obtain ⟨pe, ce, he'⟩ := (own_full hb').shape
  rw [hbl] at he'
  subst he'
  refine St1 (n6v) ?_
  by_cases hlt : (j : Int) < N.val.length
  · obtain ⟨g', cap, cc, y, hv', hBg, hgU, hBlk, hjc, hAt, hset⟩ := ownB_turn hb' (j := j) (by omega)
    rw [hbl] at hv'
    cases hv'
    refine St0 ?_
    refine G.quietTail 9 follows (by kernel_rfl) (by kernel_rfl) (by kernel_rfl) (by kernel_rfl) ?_
    refine QSt1 (n6v) ?_
    (refine GQ.indexSlice (j) 1 (j) hT rfl rfl rfl rfl rfl rfl rfl rfl ?_ ?_ ?_ ?_; (focus omega); (focus omega); (focus omega))
    refine QSt1 (hAt) ?_
    refine GQ.bin rfl rfl rfl rfl (fun w => run_add1_u8 y w) ?_
    refine GQ.tail fun wf hef => ?_
    (refine GL.indexSlice (j) 1 (j) hT rfl rfl rfl rfl rfl rfl rfl rfl ?_ ?_ ?_ ?_; (focus omega); (focus omega); (focus omega))
    refine GL.store1 hT rfl rfl rfl rfl rfl rfl rfl (hBlk.ext hef) hjc fun wg hcg hBg' => ?_
    refine St0 ?_
    obtain ⟨bs2, hl2, hb2⟩ := hset wg (y + 1) hBg'
    exact G.sub (by (repeat (first | exact Fr.sub_nil _ | refine Fr.sub_cons rfl ?_))) (again (j + 1) _ _ (by omega) ⟨by omega, (hon.trans (Only.ext hef)).trans (Only.chg hcg hBg hgU), ⟨bs2, by omega, hb2⟩, rfl⟩)
  · have hoe := ownN_same6 (w' := we) hod (fun q _ hq => hon.block q (by omega) (.inl (by omega)))
    have hB5e : Blk we b5 52 [uo, iv r] := hB5.keep (hon.block b5 hB5.lt (.inl (by omega)))
    have hB2e : Blk we b2 52 [.slice p ns.length c, iv r] := hB2.keep (hon.block b2 hB2.lt (.inl (by omega)))
    have hEe := below_of_only hon hEd (by omega)
    refine St2 (hB5e.all) (hB2e.all) ?_
    refine GL.call rfl rfl rfl (refSame6_call uo _ r r ns ns _ any we (ownN_full6 hoe).rd (h.ext hEe) (by omega)) ?_
    rintro _ wf ⟨rfl, hef⟩
    rw [decide_eq_true ⟨rfl, rfl⟩]
    refine St0 ?_
    exact G.ret1 rfl rfl rfl rfl ⟨rfl, hEe.trans hef⟩
end Go.Proofs.YtefneilaongpbaaDoor
