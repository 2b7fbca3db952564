/-
  The law PairsWays: two ways to one map, and root.
-/
import Derived.Test.YtefneilaongpbaaDoorPairsL
import Derived.Test.YtefneilaongpbaaDoorRoot5
import Derived.Test.YtefneilaongpbaaDoorOpens
set_option linter.unusedVariables false
set_option linter.unusedSimpArgs false
set_option maxRecDepth 100000
set_option maxHeartbeats 8000000
namespace Go.Proofs.YtefneilaongpbaaDoor
open Go Go.Bd Go.RowKit Go.WideShapes
attribute [local irreducible] G GL GQ GS shaD

/-- Lists in the keys' order that hold the same are the same. -/
theorem PW.ext : ∀ {ps qs : List Pair}, PW ps → PW qs → (∀ x, x ∈ ps ↔ x ∈ qs) → ps = qs
  | [], [], _, _, _ => rfl
  | [], y :: qs, _, _, h => absurd ((h y).2 (List.mem_cons_self ..)) (by simp)
  | x :: ps, [], _, _, h => absurd ((h x).1 (List.mem_cons_self ..)) (by simp)
  | x :: ps, y :: qs, hp, hq, h => by
    have hp' := List.pairwise_cons.1 hp
    have hq' := List.pairwise_cons.1 hq
    have hxy : x = y := by
      rcases List.mem_cons.1 ((h x).1 (List.mem_cons_self ..)) with e | e
      · exact e
      · rcases List.mem_cons.1 ((h y).2 (List.mem_cons_self ..)) with e' | e'
        · exact e'.symm
        · have h1 := hq'.1 _ e
          have h2 := hp'.1 _ e'
          omega
    subst hxy
    rw [PW.ext hp'.2 hq'.2 fun z => ?_]
    constructor
    · intro hz
      rcases List.mem_cons.1 ((h z).1 (List.mem_cons_of_mem _ hz)) with e | e
      · subst e; have := hp'.1 _ hz; omega
      · exact e
    · intro hz
      rcases List.mem_cons.1 ((h z).2 (List.mem_cons_of_mem _ hz)) with e | e
      · subst e; have := hq'.1 _ hz; omega
      · exact e
theorem ways_law {ps : List Pair} {x y : Pair} (hl : ps.length ≤ 20) (hne : x.key ≠ y.key) (h1 : putE ps x.key x.val = 0) (h2 : putE (putL ps x.key x.val) y.key y.val = 0) :
    putE ps y.key y.val = 0 ∧ putE (putL ps y.key y.val) x.key x.val = 0 ∧ putL (putL ps x.key x.val) y.key y.val = putL (putL ps y.key y.val) x.key x.val := by
  obtain ⟨a1, a2, a3⟩ := putE_iff.1 h1
  obtain ⟨c1, c2, c3⟩ := putE_iff.1 h2
  have hlen : ∀ (qs : List Pair) (k : Dig) (v : Bytes), (withL (without qs k) k v).length ≤ qs.length + 1 := fun qs k v => by
    rw [length_withL]
    have := (List.filter_sublist (l := qs) (p := fun x => !decide (x.key = k))).length_le
    have : (without qs k).length ≤ qs.length := this
    omega
  have h3 : putE ps y.key y.val = 0 := putE_iff.2 ⟨a1, c2, by have := hlen ps y.key y.val; omega⟩
  have h4 : putE (putL ps y.key y.val) x.key x.val = 0 := by
    refine putE_iff.2 ⟨put_map h3, a2, ?_⟩
    have e1 := hlen ps y.key y.val
    rw [putL_ok h3]
    have e2 := hlen (withL (without ps y.key) y.key y.val) x.key x.val
    omega
  refine ⟨h3, h4, PW.ext (put_map h2).pw (put_map h4).pw fun z => ?_⟩
  have hx : (⟨x.key, x.val⟩ : Pair) = x := rfl
  have hy : (⟨y.key, y.val⟩ : Pair) = y := rfl
  rw [putL_ok h2, putL_ok h4, putL_ok h1, putL_ok h3, mem_withL, mem_without, mem_withL, mem_without, mem_withL, mem_without, mem_withL, mem_without, hx, hy]
  constructor
  · rintro (rfl | ⟨rfl | ⟨e1, e2⟩, e3⟩)
    · exact .inr ⟨.inl rfl, fun e => hne e.symm⟩
    · exact .inl rfl
    · exact .inr ⟨.inr ⟨e1, e3⟩, e2⟩
  · rintro (rfl | ⟨rfl | ⟨e1, e2⟩, e3⟩)
    · exact .inr ⟨.inl rfl, hne⟩
    · exact .inl rfl
    · exact .inr ⟨.inr ⟨e1, e3⟩, e2⟩
theorem arg_pair {H : Type} {enc : TypeId × Value → H} {w : World} {r : Reach} {b0 : Nat} {base spare : _} {held : _} {v : Value} {d : DataW H} {p : List MemPlace} (hv : Value.okWide Tryd.prog w r b0 76 v) (h : DataW.Trod enc Tryd.prog w base spare held 76 v d p) : ∃ (x : Pair) (u : Value), v = pv x u ∧ RdB any w u x.val := by
  have hs : Tryd.prog.underlying 76 = some _ := Tryd.underlying76
  obtain ⟨cs, rfl, hsz⟩ := okWide_struct hs hv
  obtain ⟨fuel, hf⟩ := h
  obtain ⟨k, u, bs, hc, hr⟩ := open_pair hf
  have hc' : cs.toList = k.cells ++ [u] := hc
  exact ⟨⟨k, bs⟩, u, by rw [pv, ← hc'], hr⟩
theorem ways5_call (v : Value) (ps : List Pair) (x y : Pair) (ux uy : Value) (w : World) (h : RdP any w v ps) (hx : RdB any w ux x.val) (hy : RdB any w uy y.val) (hK : Kt w) :
    Does Tryd.prog 10 #[v, pv x ux, pv y uy] w fun q w' => q = .bool true ∧ Ext w w' := by
  refine call_walk Tryd.func10 (by kernel_rfl) rfl Tryd.ntmps10 rfl ?_
  obtain ⟨p, c, rfl, hc⟩ := h.isSlice
  obtain ⟨px, cx, rfl, hcx⟩ := RdF.isSlice hx
  obtain ⟨py, cy, rfl, hcy⟩ := RdF.isSlice hy
  refine St0 ?_
  refine GL.box (vs := x.key.cells ++ [.slice px x.val.length cx]) rfl rfl rfl rfl fun b4 w1 hb4 hB4 he1 => ?_
  refine GL.box (vs := y.key.cells ++ [.slice py y.val.length cy]) rfl rfl rfl rfl fun b5 w2 hb5 hB5 he2 => ?_
  replace hB4 := hB4.ext he2
  have e2 := he1.trans he2
  refine St0 ?_
  refine GL.call rfl rfl rfl (vs := []) (alive5_call w2) ?_
  rintro _ w3 ⟨rfl, he3⟩
  replace hB4 := hB4.ext he3
  replace hB5 := hB5.ext he3
  have e3 := e2.trans he3
  refine St0 ?_
  refine GL.call rfl rfl rfl (great5_call _ ps 20 any w3 (h.ext e3) (by omega)) ?_
  rintro r w4 ⟨⟨g, rfl, hg⟩, rfl⟩
  cases g
  case true =>
    refine St0 ?_
    exact G.ret1 rfl rfl rfl rfl ⟨rfl, e3⟩
  obtain ⟨hl20, hv100⟩ := hg rfl
  obtain ⟨kx, vx⟩ := pairAt hB4.all
  obtain ⟨ky, vy⟩ := pairAt hB5.all
  refine St1 (vx) ?_
  by_cases hxb : (x.val.length : Int) > 100
  · refine St0 ?_
    exact G.ret1 rfl rfl rfl rfl ⟨rfl, e3⟩
  refine St1 (vy) ?_
  by_cases hyb : (y.val.length : Int) > 100
  · refine St0 ?_
    exact G.ret1 rfl rfl rfl rfl ⟨rfl, e3⟩
  by_cases hne : x.key = y.key
  · refine St2 (kx) (ky) ?_
    exact G.ret1 rfl rfl rfl rfl ⟨rfl, e3⟩
  refine St3 (kx) (ky) (vx) ?_
  refine GL.call rfl rfl rfl (put_call _ _ ps x.key x.val any any w4 (h.ext e3) (hx.ext e3)) ?_
  rintro _ w5 ⟨x1, rfl, hx1, he5⟩
  replace hB4 := hB4.ext he5
  replace hB5 := hB5.ext he5
  have e5 := e3.trans he5
  obtain ⟨ky5, vy5⟩ := pairAt hB5.all
  refine St2 (ky5) (vy5) ?_
  refine GL.call rfl rfl rfl (put_call _ _ (putL ps x.key x.val) y.key y.val _ any w5 hx1.rd (hy.ext e5)) ?_
  rintro _ w6 ⟨x2, rfl, hx2, he6⟩
  replace hB4 := hB4.ext he6
  replace hB5 := hB5.ext he6
  have e6 := e5.trans he6
  obtain ⟨ky6, vy6⟩ := pairAt hB5.all
  refine St2 (ky6) (vy6) ?_
  refine GL.call rfl rfl rfl (put_call _ _ ps y.key y.val any any w6 (h.ext e6) (hy.ext e6)) ?_
  rintro _ w7 ⟨x3, rfl, hx3, he7⟩
  replace hB4 := hB4.ext he7
  replace hB5 := hB5.ext he7
  replace hx2 := hx2.ext he7
  have e7 := e6.trans he7
  obtain ⟨kx7, vx7⟩ := pairAt hB4.all
  refine St2 (kx7) (vx7) ?_
  refine GL.call rfl rfl rfl (put_call _ _ (putL ps y.key y.val) x.key x.val _ any w7 hx3.rd (hx.ext e7)) ?_
  rintro _ w8 ⟨x4, rfl, hx4, he8⟩
  replace hB4 := hB4.ext he8
  replace hB5 := hB5.ext he8
  replace hx2 := hx2.ext he8
  have e8 := e7.trans he8
  have hway := ways_law (ps := ps) (by omega) (x := x) (y := y) hne
  have hback := ways_law (ps := ps) (by omega) (x := y) (y := x) (fun e => hne e.symm)
  have hmap : putE (putL ps x.key x.val) y.key y.val = 0 → MapOk (putL (putL ps x.key x.val) y.key y.val) := put_map
  generalize putE ps x.key x.val = E1 at *
  generalize putE ps y.key y.val = E3 at *
  generalize putE (putL ps x.key x.val) y.key y.val = E2 at *
  generalize putE (putL ps y.key y.val) x.key x.val = E4 at *
  by_cases z1 : E1 = 0
  case neg =>
    refine St0 ?_
    by_cases z3 : E3 = 0
    · by_cases z4 : E4 = 0
      · exact absurd (hback z3 z4).1 z1
      · refine St0 ?_
        exact G.ret1 rfl rfl rfl rfl ⟨rfl, e8⟩
    · refine St0 ?_
      exact G.ret1 rfl rfl rfl rfl ⟨rfl, e8⟩
  by_cases z2 : E2 = 0
  case neg =>
    refine St0 ?_
    by_cases z3 : E3 = 0
    · by_cases z4 : E4 = 0
      · exact absurd (hback z3 z4).2.1 z2
      · refine St0 ?_
        exact G.ret1 rfl rfl rfl rfl ⟨rfl, e8⟩
    · refine St0 ?_
      exact G.ret1 rfl rfl rfl rfl ⟨rfl, e8⟩
  obtain ⟨z3, z4, heq⟩ := hway z1 z2
  subst z1 z2 z3 z4
  have hQ := hmap rfl
  rw [← heq] at hx4
  generalize putL (putL ps x.key x.val) y.key y.val = Q at *
  clear hmap hway hback heq kx ky vx vy ky5 vy5 ky6 vy6 kx7 vx7
  have e80 : badE true = 0 := rfl
  refine St0 ?_
  refine GL.call rfl rfl rfl (pairsRoot_call x2 Q _ w8 hx2.rd (hK.ext e8)) ?_
  rintro _ w9 ⟨rfl, he9⟩
  rw [mapB_t hQ, e80]
  have e9 := e8.trans he9
  replace hx2 := hx2.ext he9
  replace hx4 := hx4.ext he9
  have s9 := e9.size
  refine St0 ?_
  refine GL.alloc hT rfl rfl rfl fun b16 wa hb16 hB16 hea => ?_
  refine GL.storeVar hT rfl rfl rfl rfl rfl (Dig.len _) (Dig.one _) hB16 (by rw [Dig.len]; rfl) fun wb hcb hB16 => ?_
  have hx9b : Ext w9 wb := hcb.below (by omega) hea
  have eb := e9.trans hx9b
  replace hx2 := hx2.ext hx9b
  replace hx4 := hx4.ext hx9b
  have sb := eb.size
  have lb := hB16.lt
  refine St0 ?_
  refine GL.call rfl rfl rfl (pairsRoot_call x4 Q _ wb hx4.rd (hK.ext eb)) ?_
  rintro _ wc ⟨rfl, hec⟩
  rw [mapB_t hQ, e80]
  have ec := eb.trans hec
  replace hx2 := hx2.ext hec
  replace hx4 := hx4.ext hec
  replace hB16 := hB16.ext hec
  have sc := hec.size
  refine St0 ?_
  refine GL.alloc hT rfl rfl rfl fun b18 wd hb18 hB18 hed => ?_
  replace hB16 := hB16.ext hed
  refine GL.storeVar hT rfl rfl rfl rfl rfl (Dig.len _) (Dig.one _) hB18 (by rw [Dig.len]; rfl) fun we hce hB18 => ?_
  have hxce : Ext wc we := hce.below (by omega) hed
  replace hB16 := hB16.chg hce (by omega)
  have ee := ec.trans hxce
  replace hx2 := hx2.ext hxce
  replace hx4 := hx4.ext hxce
  refine St0 ?_
  refine GL.call rfl rfl rfl (refSame5_call x2 x4 Q Q _ _ we hx2.rd hx4.rd (by have := hQ.few; omega)) ?_
  rintro _ wf ⟨rfl, hef⟩
  rw [decide_eq_true rfl]
  replace hB16 := hB16.ext hef
  replace hB18 := hB18.ext hef
  have hrr : rootE Q = rootE Q := rfl
  refine St2 (hB16.all) (hB18.all) ?_
  exact G.ret1 rfl rfl rfl rfl ⟨rfl, ee.trans hef⟩
end Go.Proofs.YtefneilaongpbaaDoor
