/-
  A tree's sum; where a key's road ends, and its sides.
-/
import Derived.Test.YtefneilaongpbaaDoorTreeJ
import Derived.Test.YtefneilaongpbaaDoorRoot5
set_option linter.unusedVariables false
set_option linter.unusedSimpArgs false
set_option maxRecDepth 100000
set_option maxHeartbeats 4000000
namespace Go.Proofs.YtefneilaongpbaaDoor
open Go Go.Bd Go.RowKit
attribute [local irreducible] G GL GQ GS shaD

section
variable {P : Program} {fn : Func} {Φ : Value → World → Prop} {n : Sz} {k : List Item} {f : Fr} {w : World} {tt : List (Nat × Ti)}
theorem _root_.Go.Bd.G.retNtt {t t2 t3 : Tmp} {ty : TypeId} {i : Ti} {b : Nat} {v2 v3 : Value} {vs : List Value} {S : Nat → Nat × Nat → Prop} (hD : n.D = []) (hro : n.ro = none) (hT : Tys P tt) (hi : TT.get tt ty = some i) (hg : i.desc.agg = true) (hr : fn.results = #[.cell t ty, .tmp t2, .tmp t3]) (hx : Fr.get f t = some (ptr b 0)) (hv2 : Fr.get f t2 = some v2) (hv3 : Fr.get f t3 = some v3) (hA : At S w b 0 vs) (hl : vs.length = i.size) (h : Φ (.tuple #[.agg vs.toArray, v2, v3]) w) :
    G P fn (FnE P Φ) n (.code .ret :: k) f w := G.ret_of hD hro (fun a ha => by
  have h1 := run_loadN (P := P) hT hi hg hA hl
  have e1 : a.tmps[t]? = some (ptr b 0) := ha.at_ t _ hx
  have e2 : a.tmps[t2]? = some v2 := ha.at_ t2 _ hv2
  have e3 : a.tmps[t3]? = some v3 := ha.at_ t3 _ hv3
  simp [results, hr, e1, e2, e3, asAddr, h1]) h
end
theorem sum6_call (ns : List Node) (h1 : OneAll 0 ns) (hlen : ns.length ≤ 1000000) (m : Nat) : ∀ (n d : Nat) (b : Dig) (ps : List Pair) (v : Value) (r : Int) (S : Where) (w : World), n < m → Stand ns n d b ps → Zb d b → RdN S w v ns → Kt w →
    Does Tryd.prog 99 #[tv v r, iv n] w fun q w' => q = dv (rootAt d ps) ∧ Ext w w' := by
  induction m with
  | zero => intro n d b ps v r S w hn; omega
  | succ m ih =>
    intro n d b ps v r S w hn hs hz h hK
    refine call_walk Tryd.func99 (by kernel_rfl) rfl Tryd.ntmps99 rfl ?_
    obtain ⟨p, c, rfl, hc⟩ := h.isSlice
    refine St0 ?_
    refine GL.box (vs := [.slice p ns.length c, iv r]) rfl rfl rfl rfl fun b2 w0 hb2 hB2 he0 => ?_
    refine GL.alloc hT rfl rfl rfl fun b4 w1 hb4 hB4 he01 => ?_
    have s0 := he0.size
    have l2 := hB2.lt
    have l4 := hB4.lt
    replace hB2 := hB2.ext he01
    have he1 := he0.trans he01
    have s1 := he1.size
    by_cases h0 : (n : Int) = 0
    · refine St0 ?_
      obtain rfl : n = 0 := by omega
      have : ps = [] := (hs.empty).2 rfl
      subst this
      refine GL.call (vs := []) rfl rfl rfl (tagNone_call w1 (hK.ext he1)) ?_
      rintro _ w3 ⟨rfl, he3⟩
      refine GL.storeVar hT rfl rfl rfl rfl rfl (Dig.len _) (Dig.one _) (hB4.ext he3) (by rw [Dig.len]; decide) fun w5 hc5 hB5 => ?_
      refine St0 ?_
      exact G.retN rfl rfl hT rfl rfl rfl rfl hB5.all (Dig.len _) ⟨by rw [rootAt_nil], hc5.below (by omega) (he1.trans he3)⟩
    obtain ⟨i, rfl⟩ : ∃ i, n = i + 1 := ⟨n - 1, by omega⟩
    have hle := hs.le
    obtain ⟨x, hx⟩ : ∃ x, ns[i]? = some x := ⟨_, List.getElem?_eq_getElem (by omega)⟩
    obtain ⟨bb, o, c', u, hv, hu, hA⟩ := (h.ext he1).elem hx
    cases hv
    refine St1 ((tvAt hB2.all).1) ?_
    (refine GL.indexSlice (i) 36 ((o + i * 36)) hT rfl rfl rfl rfl rfl rfl rfl rfl ?_ ?_ ?_ ?_; (focus omega); (focus omega); (focus omega))
    refine St1 (hA) ?_
    refine GL.alloc hT rfl rfl rfl fun b5 w2 hb5 hB5 he2 => ?_
    refine St0 ?_
    refine GL.storeVar hT rfl rfl rfl rfl rfl (ncells_len _ _) (ncells_one _ hu.one) hB5 (by rw [ncells_len]; decide) fun w3 hc3 hB5 => ?_
    have hE13 : Ext w1 w3 := hc3.below (by omega) he2
    replace hB2 := hB2.ext hE13
    replace hB4 := hB4.ext hE13
    have hE3 := he1.trans hE13
    have s3 := hE13.size
    have hN := nAt hB5.all
    have hlf := hN.leaf
    cases hl : x.leaf
    · rw [hl] at hlf
      obtain ⟨l, rr, p0, p1, hd, e1, e2, hS, h2, rfl⟩ := hs.sides hx hl
      obtain ⟨l', rr', e1', e2', hl1, hl2, _, _, _⟩ := h1.fork (n := 0) hx hl
      have hleft := hN.left
      have hright := hN.right
      rw [e1] at hleft e1'
      rw [e2] at hright e2'
      refine St1 (hlf) ?_
      have hi0 := fun w' (he' : Ext w w') => ih l (d + 1) (sideOf b d 0) p0 (.slice (some ⟨bb, o, none⟩) ns.length c) r S w' (by omega) hS.left (hz.side hd 0) (h.ext he') (hK.ext he')
      have hi1 := fun w' (he' : Ext w w') => ih rr (d + 1) (sideOf b d 1) p1 (.slice (some ⟨bb, o, none⟩) ns.length c) r S w' (by omega) hS.right (hz.side hd 1) (h.ext he') (hK.ext he')
      refine G.drawN 10 [8, 9] [(2, ptr b2 0), (4, ptr b4 0), (5, ptr b5 0)] (fun i v w' => match i with
        | 0 => tv (.slice (some ⟨bb, o, none⟩) ns.length c) r = v | 1 => ptr b5 34 = v | 2 => iv l = v | 3 => dv (rootAt (d + 1) p0) = v
        | 4 => tv (.slice (some ⟨bb, o, none⟩) ns.length c) r = v | 5 => ptr b5 35 = v | 6 => iv rr = v | 7 => dv (rootAt (d + 1) p1) = v
        | _ => ∃ b, v = ptr b 0 ∧ w3.heap.size ≤ b ∧ Blk w' b 25 ti25.zero) follows (by kernel_rfl) (by kernel_rfl) (by kernel_rfl) (by kernel_rfl) (by kernel_rfl) (by (repeat (first | exact Fr.sub_nil _ | refine Fr.sub_cons rfl ?_))) ?mono ?old ?obs ?fin
      case mono =>
        intro i v w1 w2 he h
        rcases i with _ | _ | _ | _ | _ | _ | _ | _ | i <;> first | exact h | exact (let ⟨b, h1, h2, h3⟩ := h; ⟨b, h1, h2, h3.ext he⟩)
      case old =>
        intro i v w' hi h
        have hi' : i = 8 ∨ i = 9 := by simpa using hi
        rcases hi' with rfl | rfl
        · obtain ⟨b, h1, h2, h3⟩ := h; exact ⟨b, 0, h1, h3.lt⟩
        · obtain ⟨b, h1, h2, h3⟩ := h; exact ⟨b, 0, h1, h3.lt⟩
      case obs =>
        intro w0 he0
        have hE0 := hE3.trans he0
        refine ⟨fun w' he' => ?_, fun w' he' => ?_, fun w' he' => ?_, fun w' he' => ?_, fun w' he' => ?_, fun w' he' => ?_, fun w' he' => ?_, fun w' he' => ?_, fun w' he' => ?_, fun w' he' => ?_, trivial⟩
        · refine St1 ((hB2.ext (he0.trans he')).all) ?_
          exact GL.fact rfl (Ext.refl _) ⟨rfl, fun h => absurd h (by decide)⟩
        · refine St0 ?_
          exact GL.fact rfl (Ext.refl _) ⟨rfl, fun h => absurd h (by decide)⟩
        · rintro v rfl
          refine St1 (hleft.ext (he0.trans he')) ?_
          exact GL.fact rfl (Ext.refl _) ⟨rfl, fun h => absurd h (by decide)⟩
        · rintro v rfl v rfl
          refine GL.call rfl rfl rfl (hi0 w' (hE0.trans he')) ?_
          rintro r w'' ⟨rfl, he''⟩
          exact GL.fact rfl he'' ⟨rfl, fun h => absurd h (by decide)⟩
        · refine St1 ((hB2.ext (he0.trans he')).all) ?_
          exact GL.fact rfl (Ext.refl _) ⟨rfl, fun h => absurd h (by decide)⟩
        · refine St0 ?_
          exact GL.fact rfl (Ext.refl _) ⟨rfl, fun h => absurd h (by decide)⟩
        · rintro v rfl
          refine St1 (hright.ext (he0.trans he')) ?_
          exact GL.fact rfl (Ext.refl _) ⟨rfl, fun h => absurd h (by decide)⟩
        · rintro v rfl v rfl
          refine GL.call rfl rfl rfl (hi1 w' (hE0.trans he')) ?_
          rintro r w'' ⟨rfl, he''⟩
          exact GL.fact rfl he'' ⟨rfl, fun h => absurd h (by decide)⟩
        · refine GL.alloc hT rfl rfl rfl fun b w'' hb hB he'' => ?_
          exact GL.fact rfl he'' ⟨⟨b, rfl, by have := he0.size; have := he'.size; omega, hB⟩, fun _ => ⟨b, 0, rfl, by omega⟩⟩
        · refine GL.alloc hT rfl rfl rfl fun b w'' hb hB he'' => ?_
          exact GL.fact rfl he'' ⟨⟨b, rfl, by have := he0.size; have := he'.size; omega, hB⟩, fun _ => ⟨b, 0, rfl, by omega⟩⟩
      case fin =>
        rintro w5 he5 v0 rfl v1 rfl v2 rfl v3 rfl v4 rfl v5 rfl v6 rfl v7 rfl v12 ⟨b6, rfl, hb6, hB6⟩ v13 ⟨b7, rfl, hb7, hB7⟩ hun
        have hne : b6 ≠ b7 := fun e => hun 8 9 rfl rfl (by decide) (by rw [e]; rfl)
        replace hB4 := hB4.ext he5
        have hE5 := hE3.trans he5
        refine GL.storeVar hT rfl rfl rfl rfl rfl (Dig.len _) (Dig.one _) hB6 (by rw [Dig.len]; decide) fun w6 hc6 hB6 => ?_
        replace hB7 := hB7.chg hc6 (fun e => hne e.symm)
        replace hB4 := hB4.chg hc6 (by omega)
        have hE6 : Ext w w6 := hc6.below (by omega) hE5
        refine GL.storeVar hT rfl rfl rfl rfl rfl (Dig.len _) (Dig.one _) hB7 (by rw [Dig.len]; decide) fun w7 hc7 hB7 => ?_
        replace hB6 := hB6.chg hc7 hne
        replace hB4 := hB4.chg hc7 (by omega)
        have hE7 : Ext w w7 := hc7.below (by omega) hE6
        refine St0 ?_
        refine G.quietTail 2 follows (by kernel_rfl) (by kernel_rfl) (by kernel_rfl) (by kernel_rfl) ?_
        refine QSt0 ?_
        refine GQ.tail fun w8 he8 => ?_
        replace hB4 := hB4.ext he8
        replace hB6 := hB6.ext he8
        replace hB7 := hB7.ext he8
        refine GL.buildSlice ([.slice (some ⟨b6, 0, none⟩) 32 32] ++ [.slice (some ⟨b7, 0, none⟩) 32 32]) hT rfl rfl rfl rfl rfl rfl rfl (fillL_two rfl rfl rfl rfl (madeLen _ _)) fun b9 w9 hb9 hB9 he9 => ?_
        replace hB4 := hB4.ext he9
        replace hB6 := hB6.ext he9
        replace hB7 := hB7.ext he9
        refine GL.call rfl rfl rfl (tagOf_call 2 _ [(rootAt (d + 1) p0).1, (rootAt (d + 1) p1).1] any w9 (bs2 hB9 (rdKey hB6.all) (rdKey hB7.all)) (by simp) (two_len _ _) (hK.ext (hE7.trans (he8.trans he9)))) ?_
        rintro r w10 ⟨rfl, he10⟩
        replace hB4 := hB4.ext he10
        refine GL.storeVar hT rfl rfl rfl rfl rfl (Dig.len _) (Dig.one _) hB4 (by rw [Dig.len]; decide) fun w11 hc11 hB11 => ?_
        refine St0 ?_
        exact G.retN rfl rfl hT rfl rfl rfl rfl hB11.all (Dig.len _) ⟨by rw [hS.root hz hd h2]; rfl, hc11.below (by omega) (hE7.trans (he8.trans (he9.trans he10)))⟩
    · rw [hl] at hlf
      obtain ⟨rfl, hpx⟩ := hs.one hx hl
      have hvl := valB_le (h1.leaf hx hl).1
      refine St1 (hlf) ?_
      refine G.drawS 6 (List.range 6) [4, 5] follows (by kernel_rfl) (by kernel_rfl) (by kernel_rfl) (by kernel_rfl) (by kernel_rfl) (by kernel_rfl) ?_
      refine SSt1 (hN.val) ?_
      refine GS.op rfl fun w4 he4 => ?_
      refine GL.buildSlice ([.slice (some ⟨b5, 0 + 1, none⟩) 32 32] ++ [u]) hT rfl rfl rfl rfl rfl rfl rfl (fillL_two rfl rfl (RdF.some hu) rfl (madeLen _ _)) fun b6 w5 hb6 hB6 he5 => ?_
      refine GS.done he5 ?_
      refine GS.op rfl fun w6 he6 => ?_
      have he36 := he4.trans (he5.trans he6)
      have hE6 := hE3.trans he36
      refine GL.call rfl rfl rfl (tagOf_call 1 _ [x.key.1, x.val] any w6 (bs2 (hB6.ext he6) (rdKey (hN.key.ext he36)) (RdB.ext hu (hE13.trans he36))) (by simp) (leaf_len _ (by omega)) (hK.ext hE6)) ?_
      rintro _ w7 ⟨rfl, he7⟩
      refine GS.done he7 ?_
      refine GS.tail fun w8 he8 => ?_
      have he38 := he36.trans (he7.trans he8)
      refine GL.storeVar hT rfl rfl rfl rfl rfl (Dig.len _) (Dig.one _) (hB4.ext he38) (by rw [Dig.len]; decide) fun w9 hc9 hB9 => ?_
      refine St0 ?_
      exact G.retN rfl rfl hT rfl rfl rfl rfl hB9.all (Dig.len _) ⟨by rw [rootAt_one]; rfl, hc9.below (by omega) (hE3.trans he38)⟩
/-- The node at which a road ends. -/
def endNode : Option Pair → Node
  | none => ⟨false, dig0, [], 0, 0⟩
  | some p => leafOf p.key p.val
theorem leaf_eq {ns : List Node} (h : OneAll 0 ns) {i : Nat} {x : Node} (hx : ns[i]? = some x) (hl : x.leaf = true) : x = leafOf x.key x.val := by
  obtain ⟨_, h1, h2⟩ := h.leaf hx hl
  cases x
  simp only at hl h1 h2
  subst hl h1 h2
  rfl
theorem ownD_app {B : Nat} {w : World} {v : Value} {ds : List Dig} {d : Dig} (h : Own B w v (ds.length + 1) 32 25 (dcells ds ++ d.cells)) : OwnD B w v (ds ++ [d]) := by
  have e : dcells (ds ++ [d]) = dcells ds ++ d.cells := by simp [dcells]
  show Own B w v (ds ++ [d]).length 32 _ (dcells (ds ++ [d]))
  rw [List.length_append, e]
  exact h
theorem road6_call (v : Value) (r : Int) (ns : List Node) (k : Dig) (S : Where) (w : World) (h : RdN S w v ns) (hK : Kt w) :
    Does Tryd.prog 40 #[tv v r, dv k] w fun q w' => Ext w w' ∧
      if treeB ns r then ∃ u s, q = .tuple #[ndv (endNode (wayAt 0 (allT ns r) k).1) u, s, iv 0] ∧ OwnB w.heap.size w' u (endNode (wayAt 0 (allT ns r) k).1).val ∧ OwnD w.heap.size w' s (wayAt 0 (allT ns r) k).2
      else q = .tuple #[ndv (endNode none) (.slice none 0 0), .slice none 0 0, iv 8] := by
  refine call_walk Tryd.func40 (by kernel_rfl) rfl Tryd.ntmps40 rfl ?_
  obtain ⟨p, c, rfl, hc⟩ := h.isSlice
  refine St0 ?_
  refine GL.box (vs := [.slice p ns.length c, iv r]) rfl rfl rfl rfl fun b2 w1 hb2 hB2 he1 => ?_
  refine GL.box rfl rfl rfl rfl fun b3 w2 hb3 hB3 he2 => ?_
  refine GL.alloc hT rfl rfl rfl fun b4 w3 hb4 hB4 he3 => ?_
  replace hB2 := hB2.ext he2
  replace hB2 := hB2.ext he3
  replace hB3 := hB3.ext he3
  have hE3 := (he1.trans he2).trans he3
  have s1 := he1.size
  have s2 := he2.size
  have s3 := he3.size
  refine St1 (hB2.all) ?_
  refine GL.call rfl rfl rfl (check6_call ns _ r S w3 (h.ext hE3)) ?_
  rintro _ w4 ⟨rfl, he4⟩
  replace hB2 := hB2.ext he4
  replace hB3 := hB3.ext he4
  replace hB4 := hB4.ext he4
  have hE4 := hE3.trans he4
  cases hok : treeB ns r
  · have e0 : badE false = 8 := rfl
    rw [e0]
    refine St0 ?_
    refine GL.build (ncells (endNode none) (.slice none 0 0)) hT rfl rfl rfl rfl rfl rfl (by rfl) ?_
    refine St0 ?_
    refine GL.storeVar hT rfl rfl rfl rfl rfl (ncells_len _ _) (ncells_one _ rfl) hB4 (by rw [ncells_len]; decide) fun w5 hc5 hB5 => ?_
    refine St0 ?_
    exact G.retNtt rfl rfl hT rfl rfl rfl rfl rfl rfl hB5.all (ncells_len _ _) ⟨hc5.below (by omega) hE4, by simp only [Bool.false_eq_true, if_false]⟩
  have hT' := treeB_iff.1 hok
  have hpos := hT'.pos
  have hfew := hT'.few
  have hst0 := hT'.all
  obtain ⟨n0, rfl⟩ : ∃ n0 : Nat, r = n0 := ⟨r.toNat, by omega⟩
  have e0 : badE true = 0 := rfl
  rw [e0]
  refine St1 ((tvAt hB2.all).2) ?_
  refine G.sub (f' := [(8, iv n0), (9, iv ((0 : Nat) : Int)), (5, .slice none 0 0), (2, ptr b2 0), (3, ptr b3 0), (4, ptr b4 0), (6, iv 0)]) (by (repeat (first | exact Fr.sub_nil _ | refine Fr.sub_cons rfl ?_))) ?_
  refine G.rounds (α := Nat) (fun n f w' => Ext w4 w' ∧ ∃ (d : Nat) (b : Dig) (ps : List Pair) (s : Value) (ds : List Dig), Stand ns n d b ps ∧ Zb d b ∧ d ≤ 256 ∧ ds.length = d ∧ OwnD w4.heap.size w' s ds ∧ wayAt 0 (allT ns n0) k = ((wayAt d ps k).1, ds ++ (wayAt d ps k).2) ∧
    f = [(8, iv n), (9, iv d), (5, s), (2, ptr b2 0), (3, ptr b3 0), (4, ptr b4 0), (6, iv 0)]) (fun n => n) ?round n0 ⟨Ext.refl _, 0, dig0, _, _, [], hst0, zb0, by omega, rfl, Own.bare _ _ none 32 _, by simp, rfl⟩
  rintro n f w5 ⟨he5, d, b, ps, s, ds, hs, hz, hd256, hdl, hown, hway, rfl⟩ again
  have hE5 := hE4.trans he5
  have hle := hs.le
  have s4 := hE4.size
  have s5 := he5.size
  have g4 : w.heap.size ≤ b4 := by omega
  replace hB2 := hB2.ext he5
  replace hB3 := hB3.ext he5
  replace hB4 := hB4.ext he5
  by_cases hn : (n : Int) > 0
  · obtain ⟨i, rfl⟩ : ∃ i, n = i + 1 := ⟨n - 1, by omega⟩
    obtain ⟨x, hx⟩ : ∃ x, ns[i]? = some x := ⟨_, List.getElem?_eq_getElem (by omega)⟩
    obtain ⟨bb, o, c', u, hv, hu, hA⟩ := h.elem hx
    cases hv
    replace hA := hA.ext hE5
    have hlf := (nAt hA).leaf
    refine St1 ((tvAt hB2.all).1) ?_
    (refine GL.indexSlice (i) 36 ((o + i * 36)) hT rfl rfl rfl rfl rfl rfl rfl rfl ?_ ?_ ?_ ?_; (focus omega); (focus omega); (focus omega))
    cases hl : x.leaf
    · rw [hl] at hlf
      obtain ⟨l, rr, p0, p1, hd, e1, e2, hS, h2, rfl⟩ := hs.sides hx hl
      obtain ⟨l', rr', e1', e2', hl1, hl2, _, _, _⟩ := hT'.one.fork (n := 0) hx hl
      rw [e1] at e1'
      rw [e2] at e2'
      refine St1 (hlf) ?_
      rcases bit_or k d with hkb | hkb
      · refine G.drawS 11 (List.range 11) [10] follows (by kernel_rfl) (by kernel_rfl) (by kernel_rfl) (by kernel_rfl) (by kernel_rfl) (by kernel_rfl) ?_
        refine SSt1 ((tvAt hB2.all).1) ?_
        (refine GS.indexSlice (i) 36 ((o + i * 36)) hT rfl rfl rfl rfl rfl rfl rfl rfl ?_ ?_ ?_ ?_; (focus omega); (focus omega); (focus omega))
        refine SSt1 (hA) ?_
        refine GS.call rfl rfl rfl (fun w' he' => roads_call x _ w') ?_
        rw [e1, e2]
        refine SSt1 (hB3.all) ?_
        refine GS.call rfl rfl rfl (fun w' he' => bit6_call k d hd w') ?_
        rw [hkb]
        refine GS.op rfl fun w6 he6 => ?_
        refine GL.alloc hT rfl rfl rfl fun b10 w7 hb10 hB10 he7 => ?_
        refine GS.done he7 ?_
        refine GS.tail fun w8 he8 => ?_
        have he58 := he6.trans (he7.trans he8)
        have s6 := he6.size
        refine GL.storeVar (vs := [iv l, iv rr]) hT rfl rfl rfl rfl rfl rfl (by intro q hq; simp at hq; rcases hq with rfl | rfl <;> rfl) (hB10.ext he8) rfl fun w9 hc9 hB10 => ?_
        have hx59 : Ext w5 w9 := hc9.below (by omega) he58
        replace hB2 := hB2.ext hx59
        replace hown := hown.ext hx59
        have hE9 := hE5.trans hx59
        refine St0 ?_
        refine G.drawS 8 (List.range 8) [7] follows (by kernel_rfl) (by kernel_rfl) (by kernel_rfl) (by kernel_rfl) (by kernel_rfl) (by kernel_rfl) ?_
        refine SSt1 (hB2.all) ?_
        refine GS.bin (v := .int .u8 1) rfl rfl rfl rfl (fun w => run_sub_u8 1 0 w) ?_
        (refine GS.indexArr (1) 1 (1) hT rfl rfl rfl rfl rfl rfl rfl rfl ?_ ?_ ?_ ?_; (focus omega); (focus omega); (focus omega))
        refine SSt1 ((tvAt hB10.all).2) ?_
        refine GS.call rfl rfl rfl (fun w' he' => sum6_call ns hT'.one (by omega) (rr + 1) rr (d + 1) (sideOf b d 1) p1 _ n0 S w' (by omega) hS.right (hz.side hd 1) (h.ext (hE9.trans he')) (hK.ext (hE9.trans he'))) ?_
        refine GS.op rfl fun wa hea => ?_
        refine GL.buildSlice (rootAt (d + 1) p1).cells hT rfl rfl rfl rfl rfl rfl rfl (fillL_one rfl (Dig.len _) (madeLen _ _)) fun b11 wb hb11 hB11 heb => ?_
        refine GS.done heb ?_
        refine GS.tail fun wc hec => ?_
        have hx9c := hea.trans (heb.trans hec)
        replace hown := hown.ext hx9c
        replace hB10 := hB10.ext hx9c
        have hx5c := hx59.trans hx9c
        have hx4c := he5.trans hx5c
        have hEc := hE9.trans hx9c
        have hsrc : RdF any wc (.slice (some ⟨b11, 0, none⟩) 1 1) 1 (rootAt (d + 1) p1).cells := ⟨_, 1, rfl, Nat.le_refl _, .inr ⟨b11, 0, rfl, (hB11.ext hec).all⟩⟩
        refine GL.append hT rfl rfl rfl rfl rfl rfl rfl rfl rfl rfl hown hsrc (Dig.len _) (Dig.one _) (by show (ds.length + 1) * 32 ≤ _; omega) (by omega) hx4c.size fun s' wd hod hbd hrow => ?_
        have hBk : ∀ q, rowOf s = some q → w4.heap.size ≤ q := fun q hq => (hown.row hq).1
        have hEd : Ext w4 wd := hbd.below hBk hx4c.size hx4c
        replace hB10 := hB10.but hbd (hown.ne_blk hB10 (by decide))
        refine St0 ?_
        (refine GL.indexArr (0) 1 (0) hT rfl rfl rfl rfl rfl rfl rfl rfl ?_ ?_ ?_ ?_; (focus omega); (focus omega); (focus omega))
        refine St1 ((tvAt hB10.all).1) ?_
        refine G.sub (by (repeat (first | exact Fr.sub_nil _ | refine Fr.sub_cons rfl ?_))) (again _ _ _ ?_ ⟨hEd, d + 1, sideOf b d 0, _, s', ds ++ [rootAt (d + 1) p1], hS.left, hz.side hd 0, by omega, by simp; omega, ownD_app hod, ?_, rfl⟩)
        · show _ < i + 1
          omega
        · rw [hway, hS.way0 hz hd h2 hkb]
          simp
      · refine G.drawS 11 (List.range 11) [10] follows (by kernel_rfl) (by kernel_rfl) (by kernel_rfl) (by kernel_rfl) (by kernel_rfl) (by kernel_rfl) ?_
        refine SSt1 ((tvAt hB2.all).1) ?_
        (refine GS.indexSlice (i) 36 ((o + i * 36)) hT rfl rfl rfl rfl rfl rfl rfl rfl ?_ ?_ ?_ ?_; (focus omega); (focus omega); (focus omega))
        refine SSt1 (hA) ?_
        refine GS.call rfl rfl rfl (fun w' he' => roads_call x _ w') ?_
        rw [e1, e2]
        refine SSt1 (hB3.all) ?_
        refine GS.call rfl rfl rfl (fun w' he' => bit6_call k d hd w') ?_
        rw [hkb]
        refine GS.op rfl fun w6 he6 => ?_
        refine GL.alloc hT rfl rfl rfl fun b10 w7 hb10 hB10 he7 => ?_
        refine GS.done he7 ?_
        refine GS.tail fun w8 he8 => ?_
        have he58 := he6.trans (he7.trans he8)
        have s6 := he6.size
        refine GL.storeVar (vs := [iv l, iv rr]) hT rfl rfl rfl rfl rfl rfl (by intro q hq; simp at hq; rcases hq with rfl | rfl <;> rfl) (hB10.ext he8) rfl fun w9 hc9 hB10 => ?_
        have hx59 : Ext w5 w9 := hc9.below (by omega) he58
        replace hB2 := hB2.ext hx59
        replace hown := hown.ext hx59
        have hE9 := hE5.trans hx59
        refine St0 ?_
        refine G.drawS 8 (List.range 8) [7] follows (by kernel_rfl) (by kernel_rfl) (by kernel_rfl) (by kernel_rfl) (by kernel_rfl) (by kernel_rfl) ?_
        refine SSt1 (hB2.all) ?_
        refine GS.bin (v := .int .u8 0) rfl rfl rfl rfl (fun w => run_sub_u8 1 1 w) ?_
        (refine GS.indexArr (0) 1 (0) hT rfl rfl rfl rfl rfl rfl rfl rfl ?_ ?_ ?_ ?_; (focus omega); (focus omega); (focus omega))
        refine SSt1 ((tvAt hB10.all).1) ?_
        refine GS.call rfl rfl rfl (fun w' he' => sum6_call ns hT'.one (by omega) (l + 1) l (d + 1) (sideOf b d 0) p0 _ n0 S w' (by omega) hS.left (hz.side hd 0) (h.ext (hE9.trans he')) (hK.ext (hE9.trans he'))) ?_
        refine GS.op rfl fun wa hea => ?_
        refine GL.buildSlice (rootAt (d + 1) p0).cells hT rfl rfl rfl rfl rfl rfl rfl (fillL_one rfl (Dig.len _) (madeLen _ _)) fun b11 wb hb11 hB11 heb => ?_
        refine GS.done heb ?_
        refine GS.tail fun wc hec => ?_
        have hx9c := hea.trans (heb.trans hec)
        replace hown := hown.ext hx9c
        replace hB10 := hB10.ext hx9c
        have hx5c := hx59.trans hx9c
        have hx4c := he5.trans hx5c
        have hEc := hE9.trans hx9c
        have hsrc : RdF any wc (.slice (some ⟨b11, 0, none⟩) 1 1) 1 (rootAt (d + 1) p0).cells := ⟨_, 1, rfl, Nat.le_refl _, .inr ⟨b11, 0, rfl, (hB11.ext hec).all⟩⟩
        refine GL.append hT rfl rfl rfl rfl rfl rfl rfl rfl rfl rfl hown hsrc (Dig.len _) (Dig.one _) (by show (ds.length + 1) * 32 ≤ _; omega) (by omega) hx4c.size fun s' wd hod hbd hrow => ?_
        have hBk : ∀ q, rowOf s = some q → w4.heap.size ≤ q := fun q hq => (hown.row hq).1
        have hEd : Ext w4 wd := hbd.below hBk hx4c.size hx4c
        replace hB10 := hB10.but hbd (hown.ne_blk hB10 (by decide))
        refine St0 ?_
        (refine GL.indexArr (1) 1 (1) hT rfl rfl rfl rfl rfl rfl rfl rfl ?_ ?_ ?_ ?_; (focus omega); (focus omega); (focus omega))
        refine St1 ((tvAt hB10.all).2) ?_
        refine G.sub (by (repeat (first | exact Fr.sub_nil _ | refine Fr.sub_cons rfl ?_))) (again _ _ _ ?_ ⟨hEd, d + 1, sideOf b d 1, _, s', ds ++ [rootAt (d + 1) p0], hS.right, hz.side hd 1, by omega, by simp; omega, ownD_app hod, ?_, rfl⟩)
        · show _ < i + 1
          omega
        · rw [hway, hS.way1 hz hd h2 hkb]
          simp
    · rw [hl] at hlf
      obtain ⟨rfl, hpx⟩ := hs.one hx hl
      have hxe := leaf_eq hT'.one hx hl
      have hvl := valB_le (hT'.one.leaf hx hl).1
      refine St2 (hlf) ((tvAt hB2.all).1) ?_
      (refine GL.indexSlice (i) 36 ((o + i * 36)) hT rfl rfl rfl rfl rfl rfl rfl rfl ?_ ?_ ?_ ?_; (focus omega); (focus omega); (focus omega))
      refine St1 (hA) ?_
      refine GL.storeVar hT rfl rfl rfl rfl rfl (ncells_len _ _) (ncells_one _ hu.one) hB4 (by rw [ncells_len]; decide) fun w6 hc6 hB6 => ?_
      have hE6 : Ext w w6 := hc6.below g4 hE5
      replace hown := hown.keepBlk hB4 (by decide) hc6
      refine St1 ((nAt hB6.all).val) ?_
      refine GL.call rfl rfl rfl (cloneB_call u x.val S w6 (hu.ext hE6) (by omega)) ?_
      rintro u' w7 ⟨hu', he7⟩
      replace hB6 := hB6.ext he7
      replace hown := hown.ext he7
      have s6 := hE6.size
      have hE7 := hE6.trans he7
      refine St0 ?_
      refine GL.store1 hT rfl rfl rfl rfl rfl (RdF.some (Own.fresh hu')) (RdF.one (Own.fresh hu')) hB6 (by rw [ncells_len]; decide) fun w8 hc8 hB8 => ?_
      rw [ncells_set] at hB8
      have hE8 : Ext w w8 := hc8.below g4 hE7
      replace hown := hown.keepBlk hB6 (by decide) hc8
      replace hu' := hu'.keepBlk hB6 (by decide) hc8
      refine St1 (hB8.all) ?_
      refine GL.storeVar hT rfl rfl rfl rfl rfl (ncells_len _ _) (ncells_one _ (RdF.one (Own.fresh hu'))) hB8 (by simp only [ncells_len]) fun w9 hc9 hB9 => ?_
      replace hown := hown.keepBlk hB8 (by decide) hc9
      replace hu' := hu'.keepBlk hB8 (by decide) hc9
      refine St0 ?_
      rw [wayAt_one] at hway
      refine G.retNtt rfl rfl hT rfl rfl rfl rfl rfl rfl hB9.all (ncells_len _ _) ⟨hc9.below g4 hE8, ?_⟩
      rw [if_pos rfl, hway]
      simp only [List.append_nil]
      exact ⟨u', s, by rw [show endNode (some ⟨x.key, x.val⟩) = x from hxe.symm], hu'.mono s6, hown.mono s4⟩
  · have h0 : n = 0 := by omega
    subst h0
    have : ps = [] := (hs.empty).2 rfl
    subst this
    rw [wayAt_nil] at hway
    have e4 : ti56.zero = ncells (endNode none) (.slice none 0 0) := rfl
    rw [e4] at hB4
    refine St0 ?_
    refine St1 (hB4.all) ?_
    refine GL.storeVar hT rfl rfl rfl rfl rfl (ncells_len _ _) (ncells_one _ rfl) hB4 (by simp only [ncells_len]) fun w9 hc9 hB9 => ?_
    replace hown := hown.keepBlk hB4 (by decide) hc9
    refine St0 ?_
    refine G.retNtt rfl rfl hT rfl rfl rfl rfl rfl rfl hB9.all (ncells_len _ _) ⟨hc9.below g4 hE5, ?_⟩
    rw [if_pos rfl, hway]
    simp only [List.append_nil]
    exact ⟨.slice none 0 0, s, rfl, Own.bare _ _ none 1 _, hown.mono s4⟩
end Go.Proofs.YtefneilaongpbaaDoor
