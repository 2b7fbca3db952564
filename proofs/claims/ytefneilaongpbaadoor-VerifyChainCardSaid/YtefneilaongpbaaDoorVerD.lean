/-
  The chapter's examples of a root: the walk.
-/
import Derived.Test.YtefneilaongpbaaDoorVerC
import Derived.Test.YtefneilaongpbaaDoorDrawK
set_option linter.unusedVariables false
set_option linter.unusedSimpArgs false
set_option maxRecDepth 100000
set_option maxHeartbeats 4000000
namespace Go.Bd
section
variable {P : Program} {fn : Func} {f : Fr} {w : World} {tt : List (Nat × Ti)} {n : Sz}
/-- Three results, each in a variable of one cell. -/
theorem run_result3c {t1 t2 t3 : Tmp} {y1 y2 y3 : TypeId} {i1 i2 i3 : Ti} {b1 b2 b3 : Nat} {v1 v2 v3 : Value} {S1 S2 S3 : Nat → Nat × Nat → Prop} (hT : Tys P tt) (h1 : TT.get tt y1 = some i1) (h2 : TT.get tt y2 = some i2) (h3 : TT.get tt y3 = some i3) (g1 : i1.desc.agg = false) (g2 : i2.desc.agg = false) (g3 : i3.desc.agg = false)
    (hr : fn.results = #[.cell t1 y1, .cell t2 y2, .cell t3 y3]) (x1 : Fr.get f t1 = some (ptr b1 0)) (x2 : Fr.get f t2 = some (ptr b2 0)) (x3 : Fr.get f t3 = some (ptr b3 0)) (A1 : At S1 w b1 0 [v1]) (A2 : At S2 w b2 0 [v2]) (A3 : At S3 w b3 0 [v3]) :
    ∀ a, St n f a → (results fn a.tmps).run P w = .ok (.tuple #[v1, v2, v3]) w := fun a ha => by
  have c1 : w.cell? ⟨b1, 0, none⟩ = some v1 := by have := A1.cell (j := 0) (v := v1) rfl; simpa using this
  have c2 : w.cell? ⟨b2, 0, none⟩ = some v2 := by have := A2.cell (j := 0) (v := v2) rfl; simpa using this
  have c3 : w.cell? ⟨b3, 0, none⟩ = some v3 := by have := A3.cell (j := 0) (v := v3) rfl; simpa using this
  have r1 := run_load1 (P := P) hT h1 g1 c1
  have r2 := run_load1 (P := P) hT h2 g2 c2
  have r3 := run_load1 (P := P) hT h3 g3 c3
  have e1 : a.tmps[t1]? = some (ptr b1 0) := ha.at_ t1 _ x1
  have e2 : a.tmps[t2]? = some (ptr b2 0) := ha.at_ t2 _ x2
  have e3 : a.tmps[t3]? = some (ptr b3 0) := ha.at_ t3 _ x3
  simp [results, hr, e1, e2, e3, asAddr, r1, r2, r3]
end
end Go.Bd
namespace Go.Proofs.YtefneilaongpbaaDoor
open Go Go.Bd Go.RowKit
attribute [local irreducible] G GL GQ GS shaD

def noPrf : Prf := ⟨Dig.zero, 0, Dig.zero, [], []⟩
abbrev nil : Value := .slice none 0 0
theorem noPrf_m (w : World) : PrfM any w noPrf nil nil := ⟨RdF.nil _ _ _ _, RdF.nil _ _ _ _⟩
theorem noPrf_may : mayB noPrf = true := by decide
theorem noPrf_in : inputsP noPrf = [[0]] := by rw [inputsP, noPrf_may]; rfl
theorem noPrf_root : rootV noPrf = noneD := by rw [rootV, noPrf_may]; rfl
theorem alive8_call (w : World) (hK : Kt w) : Does Tryd.prog 37 #[] w fun r w' => r = .bool true ∧ Ext w w' := by
  refine call_walk (vs := []) Tryd.func37 (by kernel_rfl) rfl Tryd.ntmps37 rfl ?_
  refine St0 ?_
  refine GL.build (pcells noPrf nil nil) hT rfl rfl rfl rfl rfl rfl (by show _ = some (Dig.zero.cells ++ (bv 0 :: (Dig.zero.cells ++ [nil, nil]))); rw [Dig.zero_cells]; rfl) ?_
  refine GL.call rfl rfl rfl (inputs_call noPrf nil nil _ w (noPrf_m w) (by decide) (by decide) hK) ?_
  rintro r w1 ⟨v, rfl, hO, he1⟩
  rw [noPrf_may, noPrf_in] at *
  have e1 : badE true = 0 := rfl
  rw [e1]
  refine St0 ?_
  refine GL.build (pcells noPrf nil nil) hT rfl rfl rfl rfl rfl rfl (by show _ = some (Dig.zero.cells ++ (bv 0 :: (Dig.zero.cells ++ [nil, nil]))); rw [Dig.zero_cells]; rfl) ?_
  refine GL.call rfl rfl rfl (vroot_call noPrf nil nil _ w1 (noPrf_m w1) (by decide) (by decide) (hK.ext he1)) ?_
  rintro r w2 ⟨rfl, he2⟩
  rw [noPrf_may, noPrf_root] at *
  rw [e1]
  have he12 := he1.trans he2
  replace hO := hO.ext he2
  refine St0 ?_
  refine GL.alloc hT rfl rfl rfl fun b3 w3 hb3 hB3 he3 => ?_
  have l3 := hB3.lt
  have s12 := he12.size
  refine GL.storeVar hT rfl rfl rfl rfl rfl (Dig.len _) (Dig.one _) hB3 (by rw [Dig.len]; rfl) fun w4 hc4 hB3 => ?_
  have he24 : Ext w2 w4 := hc4.below (by omega) he3
  replace hO := hO.ext he24
  have he4 := he12.trans he24
  obtain ⟨bo, oo, co, uo, hvo, huo, hAo⟩ := hO.rd.elem (i := 0) rfl
  subst hvo
  rw [show ([[0]] : List Bytes).length = 1 from rfl]
  refine St0 ?_
  refine G.drawS 23 (List.range 23) [11] follows (by kernel_rfl) (by kernel_rfl) (by kernel_rfl) (by kernel_rfl) (by kernel_rfl) (by kernel_rfl) ?_
  refine SSt0 ?_
  (refine GS.indexSlice (0) 1 (oo) hT rfl rfl rfl rfl rfl rfl rfl rfl ?_ ?_ ?_ ?_; (focus omega); (focus omega); (focus omega))
  refine SSt1 (hAo) ?_
  refine GS.op rfl fun w5 he5 => ?_
  refine GL.buildSlice [bv 0] hT rfl rfl rfl rfl rfl rfl rfl (fillL_one rfl rfl (madeLen _ _)) fun b6 w6 hb6 hB6 he6 => ?_
  refine GS.done he6 ?_
  have he46 := he5.trans he6
  refine GS.call (v := .bool true) rfl rfl rfl (fun w' he' => (same_call uo _ [0] [0] _ any w' (RdB.ext huo (he46.trans he')) ⟨_, 1, rfl, Nat.le_refl _, .inr ⟨b6, 0, rfl, (hB6.ext he').all⟩⟩).mono fun r w'' ⟨h1, h2⟩ => ⟨by rw [h1]; rfl, by rw [h2]; exact Ext.refl _⟩) ?_
  refine SSt1 ((hB3.ext he46).all) ?_
  refine GS.call rfl rfl rfl (fun w' he' => tagNone_call w' (hK.ext ((he4.trans he46).trans he'))) ?_
  have hnn : noneD = noneD := rfl
  refine SSt0 ?_
  refine GS.tail fun w7 he7 => ?_
  refine St0 ?_
  exact G.ret1 rfl rfl rfl rfl ⟨rfl, he4.trans (he46.trans he7)⟩

/-! the chapter's examples -/
def k3 : Dig := key1 3
def k200 : Dig := key1 200
def nineD : Dig := shaD (tagB 9 [])
def leafA : Dig := shaD (tagB 1 [(key1 3).1, [97]])
def leafB : Dig := shaD (tagB 1 [(key1 200).1, [97]])
def exA : Prf := ⟨key1 3, 1, Dig.zero, [97], [nineD]⟩
def exB : Prf := ⟨key1 200, 1, Dig.zero, [97], [nineD]⟩
def exC : Prf := ⟨Dig.zero, 3, Dig.zero, [], []⟩
theorem exA_may : mayB exA = true := by rfl
theorem exB_may : mayB exB = true := by rfl
theorem exC_may : mayB exC = false := by rfl
theorem exA_root : rootV exA = shaD (tagB 2 [leafA.1, nineD.1]) := by
  have hb : exA.key.bit 0 = 0 := by rfl
  rw [rootV, exA_may, if_pos rfl]
  show shaD (upB exA 0 _ nineD) = _
  rw [upB, if_pos hb]
  rfl
theorem exB_root : rootV exB = shaD (tagB 2 [nineD.1, leafB.1]) := by
  have hb : exB.key.bit 0 = 1 := by rfl
  rw [rootV, exB_may, if_pos rfl]
  show shaD (upB exB 0 _ nineD) = _
  rw [upB, if_neg (by rw [hb]; decide)]
  rfl

theorem prf_fill (k : Dig) (b c : Nat) : fillL ([(0, 32), (32, 1), (33, 32), (65, 1), (66, 1)][·]?) ti35.zero [(0, dv k), (1, bv 1), (3, .slice (some ⟨b, 0, none⟩) 1 1), (4, .slice (some ⟨c, 0, none⟩) 1 1)] = some (pcells ⟨k, 1, Dig.zero, [97], [nineD]⟩ (.slice (some ⟨b, 0, none⟩) 1 1) (.slice (some ⟨c, 0, none⟩) 1 1)) := by
  obtain ⟨l, hl⟩ := k
  match l, hl with
  | [_, _, _, _, _, _, _, _, _, _, _, _, _, _, _, _, _, _, _, _, _, _, _, _, _, _, _, _, _, _, _, _], _ => rfl
theorem digs1 {w : World} {b : Nat} {T : TypeId} {d : Dig} (h : Blk w b T d.cells) : RdD any w (.slice (some ⟨b, 0, none⟩) 1 1) [d] := ⟨_, 1, rfl, Nat.le_refl _, .inr ⟨b, 0, rfl, by have := h.all; simpa [dcells] using this⟩⟩
theorem verifyNames_call (w : World) (hK : Kt w) : Does Tryd.prog 5 #[] w fun r w' => r = .bool true ∧ Ext w w' := by
  refine call_walk (vs := []) Tryd.func5 (by kernel_rfl) rfl Tryd.ntmps5 rfl ?_
  refine St0 ?_
  refine GL.buildArr (key1 3).cells hT rfl rfl rfl rfl rfl rfl (by rw [key1_cells]; rfl) ?_
  refine GL.buildArr (key1 200).cells hT rfl rfl rfl rfl rfl rfl (by rw [key1_cells]; rfl) ?_
  refine GL.alloc hT rfl rfl rfl fun b1 w1 hb1 hB1 he1 => ?_
  have l1 := hB1.lt
  refine GL.alloc hT rfl rfl rfl fun b2 w2 hb2 hB2 he2 => ?_
  have l2 := hB2.lt
  replace hB1 := hB1.ext he2
  have s1 := he1.size
  have s2 := he2.size
  refine GL.storeVar hT rfl rfl rfl rfl rfl (Dig.len (key1 3)) (Dig.one _) hB1 (by rw [Dig.len]; rfl) fun w3 hc3 hB1 => ?_
  replace hB2 := hB2.chg hc3 (by omega)
  refine GL.storeVar hT rfl rfl rfl rfl rfl (Dig.len (key1 200)) (Dig.one _) hB2 (by rw [Dig.len]; rfl) fun w4 hc4 hB2 => ?_
  replace hB1 := hB1.chg hc4 (by omega)
  have e4 : Ext w w4 := hc4.below (by omega) (hc3.below (by omega) (he1.trans he2))
  refine St0 ?_
  refine GL.call rfl rfl rfl (tagOf_call 9 (.slice none 0 0) [] any w4 (bs0 _ _ _) (by simp) (by decide) (hK.ext e4)) ?_
  rintro r w5 ⟨rfl, he5⟩
  rw [show shaD (tagB 9 []) = nineD from rfl]
  replace hB1 := hB1.ext he5
  replace hB2 := hB2.ext he5
  refine GL.alloc hT rfl rfl rfl fun b3 w6 hb3 hB3 he6 => ?_
  have l3 := hB3.lt
  have lx1 := hB1.lt
  have lx2 := hB2.lt
  replace hB1 := hB1.ext he6
  replace hB2 := hB2.ext he6
  refine GL.storeVar hT rfl rfl rfl rfl rfl (Dig.len _) (Dig.one _) hB3 (by rw [Dig.len]; rfl) fun w7 hc7 hB3 => ?_
  replace hB1 := hB1.chg hc7 (by omega)
  replace hB2 := hB2.chg hc7 (by omega)
  have s45 := (he5.trans he6).size
  have s4 := e4.size
  have e7 : Ext w w7 := hc7.below (by omega) (e4.trans (he5.trans he6))
  have ly1 := hB1.lt
  have ly2 := hB2.lt
  have ly3 := hB3.lt
  refine St0 ?_
  refine G.drawK 12 w7.heap.size [10, 11] [(1, ptr b1 0), (2, ptr b2 0), (3, ptr b3 0), (0, .bool false)] (fun i v w' => match i with
    | 0 => Value.slice (some ⟨b1, 0, none⟩) 32 32 = v
    | 1 => ∃ b, Value.slice (some ⟨b, 0, none⟩) 1 1 = v ∧ w7.heap.size ≤ b ∧ ∃ fr, w'.heap[b]? = some (Obj.cells [bv 97].toArray 5 fr)
    | 2 => RdB any w' v [97]
    | 3 => RdBs any w' v [(key1 3).1, [97]]
    | 4 => dv leafA = v
    | 5 => Value.slice (some ⟨b2, 0, none⟩) 32 32 = v
    | 6 => ∃ b, Value.slice (some ⟨b, 0, none⟩) 1 1 = v ∧ w7.heap.size ≤ b ∧ ∃ fr, w'.heap[b]? = some (Obj.cells [bv 97].toArray 5 fr)
    | 7 => RdB any w' v [97]
    | 8 => RdBs any w' v [(key1 200).1, [97]]
    | 9 => dv leafB = v
    | _ => ∃ b, ptr b 0 = v ∧ w7.heap.size ≤ b ∧ Blk w' b 25 ti25.zero) follows (by kernel_rfl) (by kernel_rfl) (by kernel_rfl) (by kernel_rfl) (by kernel_rfl) (by (repeat (first | exact Fr.sub_nil _ | refine Fr.sub_cons rfl ?_))) (Nat.le_refl _) ?mono ?old ?obs ?fin
  case mono =>
    intro i v w1 w2 he h
    have cellsK : ∀ b, (∃ fr, w1.heap[b]? = some (Obj.cells [bv 97].toArray 5 fr)) → ∃ fr, w2.heap[b]? = some (Obj.cells [bv 97].toArray 5 fr) := fun b ⟨fr, h1⟩ => let ⟨fr', h2, _⟩ := he.cells _ _ _ _ h1; ⟨fr', h2⟩
    rcases i with _ | _ | _ | _ | _ | _ | _ | _ | _ | _ | i
    · exact h
    · obtain ⟨b, h1, h2, h3⟩ := h; exact ⟨b, h1, h2, cellsK b h3⟩
    · exact he.rdF h
    · exact he.rdBs h
    · exact h
    · exact h
    · obtain ⟨b, h1, h2, h3⟩ := h; exact ⟨b, h1, h2, cellsK b h3⟩
    · exact he.rdF h
    · exact he.rdBs h
    · exact h
    · obtain ⟨b, h1, h2, h3⟩ := h; exact ⟨b, h1, h2, he.blk h3 (by decide)⟩
  case old =>
    intro i v w' hi h
    have hi' : i = 10 ∨ i = 11 := by simpa using hi
    rcases hi' with rfl | rfl
    · obtain ⟨b, h1, h2, h3⟩ := h; exact ⟨b, 0, h1.symm, h3.lt⟩
    · obtain ⟨b, h1, h2, h3⟩ := h; exact ⟨b, 0, h1.symm, h3.lt⟩
  case obs =>
    intro w0 he0
    have hs0 := he0.size
    have hE0 := e7.trans he0
    have hKs : ∀ w', Soft w7.heap.size w0 w' → Ext w w' := fun w' h' => Below.trans hE0 (h'.below.mono (by omega))
    refine ⟨fun w' he' => ?_, fun w' he' => ?_, fun w' he' => ?_, fun w' he' => ?_, fun w' he' => ?_, fun w' he' => ?_, fun w' he' => ?_, fun w' he' => ?_, fun w' he' => ?_, fun w' he' => ?_, fun w' he' => ?_, fun w' he' => ?_, trivial⟩
    · refine St0 ?_
      exact GL.factK rfl (Soft.refl _ _) ⟨rfl, fun h => absurd h (by decide)⟩
    · have := he'.size
      refine GL.buildSlice [bv 97] hT rfl rfl rfl rfl rfl rfl rfl (fillL_one rfl rfl (madeLen _ _)) fun b w'' hb hB he'' => ?_
      exact GL.factK rfl (Soft.ofExt (by omega) he'') ⟨⟨b, rfl, by omega, _, hB⟩, fun h => absurd h (by decide)⟩
    · rintro v ⟨b, rfl, hb, fr, hB⟩
      refine GL.markK (cs := [bv 97]) hT rfl rfl rfl rfl rfl rfl rfl hB fun w'' hc hfr => ?_
      obtain ⟨fr', hfr'⟩ := hfr
      exact GL.factK rfl (Soft.mark hb hB hc ⟨fr', hfr'⟩) ⟨⟨_, 1, rfl, Nat.le_refl _, .inr ⟨b, 0, rfl, _, _, fr', hfr', trivial, fun j v hj => by rw [Nat.zero_add, List.getElem?_toArray]; exact hj⟩⟩, fun h => absurd h (by decide)⟩
    · rintro v rfl v hv
      have := he'.size
      refine GL.buildSlice ([.slice (some ⟨b1, 0, none⟩) 32 32] ++ [v]) hT rfl rfl rfl rfl rfl rfl rfl (fillL_two rfl rfl (RdF.some hv) rfl (madeLen _ _)) fun b w'' hb hB he'' => ?_
      exact GL.factK rfl (Soft.ofExt (by omega) he'') ⟨bs2 hB (rdKey ((he'.at (hB1.ext he0).all).ext he'')) (RdB.ext hv he''), fun h => absurd h (by decide)⟩
    · rintro v hv
      have := he'.size
      refine GL.call rfl rfl rfl (tagOf_call 1 v _ any w' hv (by simp) (by decide) (hK.ext (hKs w' he'))) ?_
      rintro r w'' ⟨rfl, he''⟩
      exact GL.factK rfl (Soft.ofExt (by omega) he'') ⟨rfl, fun h => absurd h (by decide)⟩
    · refine St0 ?_
      exact GL.factK rfl (Soft.refl _ _) ⟨rfl, fun h => absurd h (by decide)⟩
    · have := he'.size
      refine GL.buildSlice [bv 97] hT rfl rfl rfl rfl rfl rfl rfl (fillL_one rfl rfl (madeLen _ _)) fun b w'' hb hB he'' => ?_
      exact GL.factK rfl (Soft.ofExt (by omega) he'') ⟨⟨b, rfl, by omega, _, hB⟩, fun h => absurd h (by decide)⟩
    · rintro v ⟨b, rfl, hb, fr, hB⟩
      refine GL.markK (cs := [bv 97]) hT rfl rfl rfl rfl rfl rfl rfl hB fun w'' hc hfr => ?_
      obtain ⟨fr', hfr'⟩ := hfr
      exact GL.factK rfl (Soft.mark hb hB hc ⟨fr', hfr'⟩) ⟨⟨_, 1, rfl, Nat.le_refl _, .inr ⟨b, 0, rfl, _, _, fr', hfr', trivial, fun j v hj => by rw [Nat.zero_add, List.getElem?_toArray]; exact hj⟩⟩, fun h => absurd h (by decide)⟩
    · rintro v rfl v hv
      have := he'.size
      refine GL.buildSlice ([.slice (some ⟨b2, 0, none⟩) 32 32] ++ [v]) hT rfl rfl rfl rfl rfl rfl rfl (fillL_two rfl rfl (RdF.some hv) rfl (madeLen _ _)) fun b w'' hb hB he'' => ?_
      exact GL.factK rfl (Soft.ofExt (by omega) he'') ⟨bs2 hB (rdKey ((he'.at (hB2.ext he0).all).ext he'')) (RdB.ext hv he''), fun h => absurd h (by decide)⟩
    · rintro v hv
      have := he'.size
      refine GL.call rfl rfl rfl (tagOf_call 1 v _ any w' hv (by simp) (by decide) (hK.ext (hKs w' he'))) ?_
      rintro r w'' ⟨rfl, he''⟩
      exact GL.factK rfl (Soft.ofExt (by omega) he'') ⟨rfl, fun h => absurd h (by decide)⟩
    · have := he'.size
      refine GL.alloc hT rfl rfl rfl fun b w'' hb hB he'' => ?_
      exact GL.factK rfl (Soft.ofExt (by omega) he'') ⟨⟨b, rfl, by omega, hB⟩, fun _ => ⟨b, 0, rfl, by omega⟩⟩
    · have := he'.size
      refine GL.alloc hT rfl rfl rfl fun b w'' hb hB he'' => ?_
      exact GL.factK rfl (Soft.ofExt (by omega) he'') ⟨⟨b, rfl, by omega, hB⟩, fun _ => ⟨b, 0, rfl, by omega⟩⟩
  case fin =>
    rintro w8 he8 v0 - v1 - v2 - v3 - v4 rfl v5 - v6 - v7 - v8 - v9 rfl v10 ⟨b4, rfl, hb4, hB4⟩ v11 ⟨b5, rfl, hb5, hB5⟩ hun
    have hne : b4 ≠ b5 := fun e => hun 10 11 rfl rfl (by decide) (by rw [e]; rfl)
    have hs8 := he8.size
    have hB1 := he8.blk hB1 (by decide)
    have hB2 := he8.blk hB2 (by decide)
    have hB3 := he8.blk hB3 (by decide)
    have e8 : Ext w w8 := Below.trans e7 (he8.below.mono (by omega))
    have s78 := e7.size
    refine GL.storeVar hT rfl rfl rfl rfl rfl (Dig.len _) (Dig.one _) hB4 (by rw [Dig.len]; rfl) fun w9 hc9 hB4 => ?_
    replace hB5 := hB5.chg hc9 (fun e => hne e.symm)
    replace hB1 := hB1.chg hc9 (by omega)
    replace hB2 := hB2.chg hc9 (by omega)
    replace hB3 := hB3.chg hc9 (by omega)
    refine GL.storeVar hT rfl rfl rfl rfl rfl (Dig.len _) (Dig.one _) hB5 (by rw [Dig.len]; rfl) fun w10 hc10 hB5 => ?_
    replace hB4 := hB4.chg hc10 hne
    replace hB1 := hB1.chg hc10 (by omega)
    replace hB2 := hB2.chg hc10 (by omega)
    replace hB3 := hB3.chg hc10 (by omega)
    have e10 : Ext w w10 := hc10.below (by omega) (hc9.below (by omega) e8)
    have lz1 := hB1.lt
    have lz2 := hB2.lt
    have lz3 := hB3.lt
    have lz4 := hB4.lt
    have lz5 := hB5.lt
    clear hun he8 hs8 s78 hc9 hc10 e8
    refine St1 (hB1.all) ?_
    refine GL.buildSlice [bv 97] hT rfl rfl rfl rfl rfl rfl rfl (fillL_one rfl rfl (madeLen _ _)) fun b27 w11 hb27 hB27 he11 => ?_
    refine GL.markK (cs := [bv 97]) hT rfl rfl rfl rfl rfl rfl rfl hB27 fun w12 hc12 hfr => ?_
    obtain ⟨fr', hfr'⟩ := hfr
    have he12 : Ext w10 w12 := hc12.below (by omega) he11
    have hA27 : At any w12 b27 0 (bcells [97]) := ⟨_, _, fr', hfr', trivial, fun j v hj => by rw [Nat.zero_add, List.getElem?_toArray]; exact hj⟩
    replace hB1 := hB1.ext he12
    replace hB2 := hB2.ext he12
    replace hB3 := hB3.ext he12
    replace hB4 := hB4.ext he12
    replace hB5 := hB5.ext he12
    refine St1 (hB3.all) ?_
    refine GL.buildSlice nineD.cells hT rfl rfl rfl rfl rfl rfl rfl (fillL_one rfl (Dig.len _) (madeLen _ _)) fun b30 w13 hb30 hB30 he13 => ?_
    replace hB1 := hB1.ext he13
    replace hB2 := hB2.ext he13
    replace hB3 := hB3.ext he13
    replace hB4 := hB4.ext he13
    replace hB5 := hB5.ext he13
    refine GL.build (pcells exA (.slice (some ⟨b27, 0, none⟩) 1 1) (.slice (some ⟨b30, 0, none⟩) 1 1)) hT rfl rfl rfl rfl rfl rfl (prf_fill _ _ _) ?_
    have e13 := e10.trans (he12.trans he13)
    refine GL.call rfl rfl rfl (vroot_call exA _ _ any w13 ⟨⟨_, 1, rfl, Nat.le_refl _, .inr ⟨b27, 0, rfl, hA27.ext he13⟩⟩, digs1 hB30⟩ (by decide) (by decide) (hK.ext e13)) ?_
    rintro r w14 ⟨rfl, he14⟩
    replace hB1 := hB1.ext he14
    replace hB2 := hB2.ext he14
    replace hB3 := hB3.ext he14
    replace hB4 := hB4.ext he14
    replace hB5 := hB5.ext he14
    have e14 := e13.trans he14
    rw [exA_may, exA_root]
    have e1 : badE true = 0 := rfl
    rw [e1]
    refine St0 ?_
    refine GL.alloc hT rfl rfl rfl fun b6 w15 hb6 hB6 he15 => ?_
    have l6 := hB6.lt
    have m1 := hB1.lt
    have m2 := hB2.lt
    have m3 := hB3.lt
    have m4 := hB4.lt
    have m5 := hB5.lt
    replace hB1 := hB1.ext he15
    replace hB2 := hB2.ext he15
    replace hB3 := hB3.ext he15
    replace hB4 := hB4.ext he15
    replace hB5 := hB5.ext he15
    have s14 := e14.size
    refine GL.storeVar hT rfl rfl rfl rfl rfl (Dig.len _) (Dig.one _) hB6 (by rw [Dig.len]; rfl) fun w16 hc16 hB6 => ?_
    replace hB1 := hB1.chg hc16 (by omega)
    replace hB2 := hB2.chg hc16 (by omega)
    replace hB3 := hB3.chg hc16 (by omega)
    replace hB4 := hB4.chg hc16 (by omega)
    replace hB5 := hB5.chg hc16 (by omega)
    have e16 : Ext w w16 := hc16.below (by omega) (e14.trans he15)
    clear hA27 hfr' hB27 hB30 hc12 hc16 lz1 lz2 lz3 lz4 lz5 m1 m2 m3 m4 m5
    refine St1 (hB2.all) ?_
    refine GL.buildSlice [bv 97] hT rfl rfl rfl rfl rfl rfl rfl (fillL_one rfl rfl (madeLen _ _)) fun b37 w21 hb37 hB37 he21 => ?_
    have m1 := hB1.lt
    refine GL.markK (cs := [bv 97]) hT rfl rfl rfl rfl rfl rfl rfl hB37 fun w22 hc22 hfr => ?_
    obtain ⟨fr', hfr'⟩ := hfr
    have he22 : Ext w16 w22 := hc22.below (by omega) he21
    have hA37 : At any w22 b37 0 (bcells [97]) := ⟨_, _, fr', hfr', trivial, fun j v hj => by rw [Nat.zero_add, List.getElem?_toArray]; exact hj⟩
    replace hB1 := hB1.ext he22
    replace hB2 := hB2.ext he22
    replace hB3 := hB3.ext he22
    replace hB4 := hB4.ext he22
    replace hB5 := hB5.ext he22
    replace hB6 := hB6.ext he22
    refine St1 (hB3.all) ?_
    refine GL.buildSlice nineD.cells hT rfl rfl rfl rfl rfl rfl rfl (fillL_one rfl (Dig.len _) (madeLen _ _)) fun b40 w23 hb40 hB40 he23 => ?_
    replace hB1 := hB1.ext he23
    replace hB2 := hB2.ext he23
    replace hB3 := hB3.ext he23
    replace hB4 := hB4.ext he23
    replace hB5 := hB5.ext he23
    replace hB6 := hB6.ext he23
    refine GL.build (pcells exB (.slice (some ⟨b37, 0, none⟩) 1 1) (.slice (some ⟨b40, 0, none⟩) 1 1)) hT rfl rfl rfl rfl rfl rfl (prf_fill _ _ _) ?_
    have e23 := e16.trans (he22.trans he23)
    refine GL.call rfl rfl rfl (vroot_call exB _ _ any w23 ⟨⟨_, 1, rfl, Nat.le_refl _, .inr ⟨b37, 0, rfl, hA37.ext he23⟩⟩, digs1 hB40⟩ (by decide) (by decide) (hK.ext e23)) ?_
    rintro r w24 ⟨rfl, he24⟩
    replace hB1 := hB1.ext he24
    replace hB2 := hB2.ext he24
    replace hB3 := hB3.ext he24
    replace hB4 := hB4.ext he24
    replace hB5 := hB5.ext he24
    replace hB6 := hB6.ext he24
    have e24 := e23.trans he24
    rw [exB_may, exB_root]
    rw [e1]
    refine St0 ?_
    refine GL.alloc hT rfl rfl rfl fun b8 w25 hb8 hB8 he25 => ?_
    have l8 := hB8.lt
    have n1 := hB1.lt
    have n2 := hB2.lt
    have n3 := hB3.lt
    have n4 := hB4.lt
    have n5 := hB5.lt
    have n6 := hB6.lt
    replace hB1 := hB1.ext he25
    replace hB2 := hB2.ext he25
    replace hB3 := hB3.ext he25
    replace hB4 := hB4.ext he25
    replace hB5 := hB5.ext he25
    replace hB6 := hB6.ext he25
    have s24 := e24.size
    refine GL.storeVar hT rfl rfl rfl rfl rfl (Dig.len _) (Dig.one _) hB8 (by rw [Dig.len]; rfl) fun w26 hc26 hB8 => ?_
    replace hB3 := hB3.chg hc26 (by omega)
    replace hB4 := hB4.chg hc26 (by omega)
    replace hB5 := hB5.chg hc26 (by omega)
    replace hB6 := hB6.chg hc26 (by omega)
    have e26 : Ext w w26 := hc26.below (by omega) (e24.trans he25)
    clear hA37 hfr' hB37 hB40 hc22 hc26 m1 n1 n2 n3 n4 n5 n6 hB1 hB2
    refine St0 ?_
    refine GL.build (pcells exC nil nil) hT rfl rfl rfl rfl rfl rfl (by show _ = some (Dig.zero.cells ++ (bv 3 :: (Dig.zero.cells ++ [nil, nil]))); rw [Dig.zero_cells]; rfl) ?_
    refine GL.call rfl rfl rfl (vroot_call exC nil nil any w26 ⟨RdF.nil _ _ _ _, RdF.nil _ _ _ _⟩ (by decide) (by decide) (hK.ext e26)) ?_
    rintro r w27 ⟨rfl, he27⟩
    replace hB3 := hB3.ext he27
    replace hB4 := hB4.ext he27
    replace hB5 := hB5.ext he27
    replace hB6 := hB6.ext he27
    replace hB8 := hB8.ext he27
    have e27 := e26.trans he27
    rw [exC_may]
    have e3 : badE false = 8 := rfl
    rw [e3]
    refine St0 ?_
    refine GL.alloc hT rfl rfl rfl fun b10 w28 hb10 hB10 he28 => ?_
    have l10 := hB10.lt
    have n3 := hB3.lt
    have n4 := hB4.lt
    have n5 := hB5.lt
    have n6 := hB6.lt
    have n8 := hB8.lt
    replace hB3 := hB3.ext he28
    replace hB4 := hB4.ext he28
    replace hB5 := hB5.ext he28
    replace hB6 := hB6.ext he28
    replace hB8 := hB8.ext he28
    have s27 := e27.size
    refine GL.storeVar hT rfl rfl rfl rfl rfl (Dig.len _) (Dig.one _) hB10 (by rw [Dig.len]; rfl) fun w29 hc29 hB10 => ?_
    replace hB3 := hB3.chg hc29 (by omega)
    replace hB4 := hB4.chg hc29 (by omega)
    replace hB5 := hB5.chg hc29 (by omega)
    replace hB6 := hB6.chg hc29 (by omega)
    replace hB8 := hB8.chg hc29 (by omega)
    have e29 : Ext w w29 := hc29.below (by omega) (e27.trans he28)
    clear hc29 n3 n4 n5 n6 n8 hB10 l10
    have hq1 : shaD (tagB 2 [leafA.1, nineD.1]) = shaD (tagB 2 [leafA.1, nineD.1]) := rfl
    have hq2 : shaD (tagB 2 [nineD.1, leafB.1]) = shaD (tagB 2 [nineD.1, leafB.1]) := rfl
    refine St0 ?_
    refine G.drawS 37 (List.range 37) [11, 23] follows (by kernel_rfl) (by kernel_rfl) (by kernel_rfl) (by kernel_rfl) (by kernel_rfl) (by kernel_rfl) ?_
    refine GS.call rfl rfl rfl (vs := []) (fun w' he' => alive8_call w' (hK.ext (e29.trans he'))) ?_
    refine SSt1 (hB6.all) ?_
    refine GS.op rfl fun w30 he30 => ?_
    replace hB3 := hB3.ext he30
    replace hB4 := hB4.ext he30
    replace hB5 := hB5.ext he30
    replace hB6 := hB6.ext he30
    replace hB8 := hB8.ext he30
    refine GL.buildSlice ([.slice (some ⟨b4, 0, none⟩) 32 32] ++ [.slice (some ⟨b3, 0, none⟩) 32 32]) hT rfl rfl rfl rfl rfl rfl rfl (fillL_two rfl rfl rfl rfl (madeLen _ _)) fun b61 w31 hb61 hB61 he31 => ?_
    replace hB3 := hB3.ext he31
    replace hB4 := hB4.ext he31
    replace hB5 := hB5.ext he31
    replace hB6 := hB6.ext he31
    replace hB8 := hB8.ext he31
    refine GS.done he31 ?_
    have e31 := e29.trans (he30.trans he31)
    refine GS.call rfl rfl rfl (fun w' he' => tagOf_call 2 _ [leafA.1, nineD.1] any w' (bs2 (hB61.ext he') (rdKey (hB4.all.ext he')) (rdKey (hB3.all.ext he'))) (by simp) (two_len _ _) (hK.ext (e31.trans he'))) ?_
    refine SSt1 (hB8.all) ?_
    refine GS.op rfl fun w32 he32 => ?_
    replace hB3 := hB3.ext he32
    replace hB4 := hB4.ext he32
    replace hB5 := hB5.ext he32
    replace hB6 := hB6.ext he32
    replace hB8 := hB8.ext he32
    refine GL.buildSlice ([.slice (some ⟨b3, 0, none⟩) 32 32] ++ [.slice (some ⟨b5, 0, none⟩) 32 32]) hT rfl rfl rfl rfl rfl rfl rfl (fillL_two rfl rfl rfl rfl (madeLen _ _)) fun b73 w33 hb73 hB73 he33 => ?_
    replace hB3 := hB3.ext he33
    replace hB4 := hB4.ext he33
    replace hB5 := hB5.ext he33
    replace hB6 := hB6.ext he33
    replace hB8 := hB8.ext he33
    refine GS.done he33 ?_
    have e33 := e31.trans (he32.trans he33)
    refine GS.call rfl rfl rfl (fun w' he' => tagOf_call 2 _ [nineD.1, leafB.1] any w' (bs2 (hB73.ext he') (rdKey (hB3.all.ext he')) (rdKey (hB5.all.ext he'))) (by simp) (two_len _ _) (hK.ext (e33.trans he'))) ?_
    refine SSt0 ?_
    refine GS.build (pcells exC nil nil) hT rfl rfl rfl rfl rfl rfl (by show _ = some (Dig.zero.cells ++ (bv 3 :: (Dig.zero.cells ++ [nil, nil]))); rw [Dig.zero_cells]; rfl) ?_
    refine GS.buildArr Dig.zero.cells hT rfl rfl rfl rfl rfl rfl (by rw [Dig.zero_cells]; rfl) ?_
    refine GS.call (v := .bool false) rfl rfl rfl (fun w' he' => (vfits_call exC Dig.zero nil nil any w' ⟨RdF.nil _ _ _ _, RdF.nil _ _ _ _⟩ (by decide) (by decide) (hK.ext (e33.trans he'))).mono fun r w'' ⟨h1, h2⟩ => ⟨by rw [h1, fitsB, exC_may]; rfl, h2⟩) ?_
    refine SSt0 ?_
    refine GS.tail fun w34 he34 => ?_
    refine St0 ?_
    exact G.ret1 rfl rfl rfl rfl ⟨rfl, e33.trans he34⟩
end Go.Proofs.YtefneilaongpbaaDoor
