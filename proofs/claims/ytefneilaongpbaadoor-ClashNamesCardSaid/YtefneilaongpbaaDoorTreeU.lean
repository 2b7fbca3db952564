/-
  The laws ClashTells and ClashShows: their walks.
-/
import Derived.Test.YtefneilaongpbaaDoorTreeS
set_option linter.unusedVariables false
set_option linter.unusedSimpArgs false
set_option maxRecDepth 100000
set_option maxHeartbeats 8000000
namespace Go.Proofs.YtefneilaongpbaaDoor
open Go Go.Bd Go.RowKit
attribute [local irreducible] G GL GQ GS shaD

theorem tells9_call (v : Value) (r : Int) (ns : List Node) (a b : Prf) (u s u' s' : Value) (w : World) (h : RdN any w v ns) (ha : PrfM any w a u s) (hb : PrfM any w b u' s') (hK : Kt w) :
    Does Tryd.prog 19 #[tv v r, prv a u s, prv b u' s'] w fun q w' => q = .bool true ∧ Ext w w' := by
  refine call_walk Tryd.func19 (by kernel_rfl) rfl Tryd.ntmps19 rfl ?_
  obtain ⟨pp, c, rfl, hc⟩ := h.isSlice
  refine St0 ?_
  refine GL.box (vs := [.slice pp ns.length c, iv r]) rfl rfl rfl rfl fun b3 w1 hb3 hB3 he1 => ?_
  refine GL.box (vs := pcells a u s) rfl rfl rfl rfl fun b4 w2 hb4 hB4 he2 => ?_
  refine GL.box (vs := pcells b u' s') rfl rfl rfl rfl fun b5 w3 hb5 hB5 he3 => ?_
  replace hB3 := hB3.ext he2
  replace hB3 := hB3.ext he3
  replace hB4 := hB4.ext he3
  have hE3 := (he1.trans he2).trans he3
  refine St1 (hB3.all) ?_
  refine GL.call rfl rfl rfl (great6_call ns _ r 600 any w3 (h.ext hE3) (by omega)) ?_
  rintro _ w4 ⟨⟨g, rfl, hg⟩, he4⟩
  replace hB3 := hB3.ext he4
  replace hB4 := hB4.ext he4
  replace hB5 := hB5.ext he4
  have hE4 := hE3.trans he4
  cases g
  case true =>
    refine St0 ?_
    exact G.ret1 rfl rfl rfl rfl ⟨rfl, hE4⟩
  obtain ⟨hl600, hv100⟩ := hg rfl
  have hv47 : ∀ x ∈ ns, x.val.length ≤ 140737488355328 := fun x hx => by have := hv100 x hx; omega
  refine St1 (hB4.all) ?_
  refine GL.call rfl rfl rfl (great7_call a u s any w4 (ha.ext hE4)) ?_
  rintro _ w5 ⟨rfl, he5⟩
  replace hB3 := hB3.ext he5
  replace hB4 := hB4.ext he5
  replace hB5 := hB5.ext he5
  have hE5 := hE4.trans he5
  cases hga : (decide (100 < a.val.length) || decide (300 < a.sides.length))
  case true =>
    refine St0 ?_
    exact G.ret1 rfl rfl rfl rfl ⟨rfl, hE5⟩
  simp only [Bool.or_eq_false_iff, decide_eq_false_iff_not] at hga
  refine St1 (hB5.all) ?_
  refine GL.call rfl rfl rfl (great7_call b u' s' any w5 (hb.ext hE5)) ?_
  rintro _ w6 ⟨rfl, he6⟩
  replace hB3 := hB3.ext he6
  replace hB4 := hB4.ext he6
  replace hB5 := hB5.ext he6
  have hE6 := hE5.trans he6
  cases hgb : (decide (100 < b.val.length) || decide (300 < b.sides.length))
  case true =>
    refine St0 ?_
    exact G.ret1 rfl rfl rfl rfl ⟨rfl, hE6⟩
  simp only [Bool.or_eq_false_iff, decide_eq_false_iff_not] at hgb
  refine St0 ?_
  refine G.drawN 6 [4, 5] [(3, ptr b3 0), (4, ptr b4 0), (5, ptr b5 0)] (fun i v w' => match i with
    | 0 => tv (.slice pp ns.length c) r = v | 1 => ∃ u, v = tv u r ∧ OwnN w6.heap.size w' u ns | 2 => prv a u s = v | 3 => ∃ ua sa, v = prv a ua sa ∧ PrfOwn w6.heap.size w' a ua sa
    | 4 => ∃ b, v = ptr b 0 ∧ w6.heap.size ≤ b ∧ Blk w' b 52 ti52.zero
    | _ => ∃ b, v = ptr b 0 ∧ w6.heap.size ≤ b ∧ Blk w' b 35 ti35.zero) follows (by kernel_rfl) (by kernel_rfl) (by kernel_rfl) (by kernel_rfl) (by kernel_rfl) (by (repeat (first | exact Fr.sub_nil _ | refine Fr.sub_cons rfl ?_))) ?mono ?old ?obs ?fin
  case mono =>
    intro i v w1 w2 he h
    rcases i with _ | _ | _ | _ | _ | i
    · exact h
    · obtain ⟨u, h1, h2⟩ := h; exact ⟨u, h1, h2.ext he⟩
    · exact h
    · obtain ⟨ua, sa, h1, h2⟩ := h; exact ⟨ua, sa, h1, h2.val.ext he, h2.sides.ext he⟩
    · obtain ⟨b, h1, h2, h3⟩ := h; exact ⟨b, h1, h2, h3.ext he⟩
    · obtain ⟨b, h1, h2, h3⟩ := h; exact ⟨b, h1, h2, h3.ext he⟩
  case old =>
    intro i v w' hi h
    have hi' : i = 4 ∨ i = 5 := by simpa using hi
    rcases hi' with rfl | rfl
    · obtain ⟨b, h1, h2, h3⟩ := h; exact ⟨b, 0, h1, h3.lt⟩
    · obtain ⟨b, h1, h2, h3⟩ := h; exact ⟨b, 0, h1, h3.lt⟩
  case obs =>
    intro w0 he0
    have z0 := he0.size
    refine ⟨fun w' he' => ?_, fun w' he' => ?_, fun w' he' => ?_, fun w' he' => ?_, fun w' he' => ?_, fun w' he' => ?_, trivial⟩
    · refine St1 ((hB3.ext (he0.trans he')).all) ?_
      exact GL.fact rfl (Ext.refl _) ⟨rfl, fun h => absurd h (by decide)⟩
    · rintro v rfl
      have z1 := he'.size
      refine GL.call rfl rfl rfl (refTwin6_call _ r ns any w' (h.ext (hE6.trans (he0.trans he'))) (by omega) hv47) ?_
      rintro _ w'' ⟨uo, rfl, ho, he''⟩
      exact GL.fact rfl he'' ⟨⟨uo, rfl, ho.mono (by omega)⟩, fun h => absurd h (by decide)⟩
    · refine St1 ((hB4.ext (he0.trans he')).all) ?_
      exact GL.fact rfl (Ext.refl _) ⟨rfl, fun h => absurd h (by decide)⟩
    · rintro v rfl
      have z1 := he'.size
      refine GL.call rfl rfl rfl (ref7Twin_call a u s any w' (ha.ext (hE6.trans (he0.trans he'))) (by omega) (by omega)) ?_
      rintro _ w'' ⟨ua, sa, rfl, ho, he''⟩
      exact GL.fact rfl he'' ⟨⟨ua, sa, rfl, ho.val.mono (by omega), ho.sides.mono (by omega)⟩, fun h => absurd h (by decide)⟩
    · refine GL.alloc hT rfl rfl rfl fun b w'' hb hB he'' => ?_
      have z1 := he'.size
      exact GL.fact rfl he'' ⟨⟨b, rfl, by omega, hB⟩, fun _ => ⟨b, 0, rfl, by omega⟩⟩
    · refine GL.alloc hT rfl rfl rfl fun b w'' hb hB he'' => ?_
      have z1 := he'.size
      exact GL.fact rfl he'' ⟨⟨b, rfl, by omega, hB⟩, fun _ => ⟨b, 0, rfl, by omega⟩⟩
  case fin =>
    rintro w7 he7 v0 rfl v1 ⟨uo, rfl, ho⟩ v2 rfl v3 ⟨ua, sa, rfl, hma⟩ v4 ⟨b7, rfl, hb7, hB7⟩ v5 ⟨b8, rfl, hb8, hB8⟩ hun
    have hne : b7 ≠ b8 := fun e => hun 4 5 rfl rfl (by decide) (by rw [e]; rfl)
    have z7 := he7.size
    have l3 := hB3.lt
    have l4 := hB4.lt
    have l5 := hB5.lt
    replace hB3 := hB3.ext he7
    replace hB4 := hB4.ext he7
    replace hB5 := hB5.ext he7
    have hE7 := hE6.trans he7
    refine GL.storeVar (vs := [uo, iv r]) hT rfl rfl rfl rfl rfl rfl (by intro q hq; simp at hq; rcases hq with rfl | rfl; exact ho.one; rfl) hB7 rfl fun w8 hc8 hB7' => ?_
    replace ho := ho.chg hB7 rfl hc8
    replace hma : PrfOwn w6.heap.size w8 a ua sa := ⟨hma.val.keepBlk hB7 rfl hc8, hma.sides.keepBlk hB7 rfl hc8⟩
    replace hB8 := hB8.chg hc8 (fun e => hne e.symm)
    have hE68 : Ext w6 w8 := hc8.below hb7 he7
    refine GL.storeVar hT rfl rfl rfl rfl rfl (pcells_len _ _ _) (pcells_one _ (RdF.one (Own.fresh hma.val)) (RdF.one (Own.fresh hma.sides))) hB8 (by rw [pcells_len]; decide) fun w9 hc9 hB8' => ?_
    replace ho := ho.chg hB8 rfl hc9
    replace hma : PrfOwn w6.heap.size w9 a ua sa := ⟨hma.val.keepBlk hB8 rfl hc9, hma.sides.keepBlk hB8 rfl hc9⟩
    replace hB7' := hB7'.chg hc9 hne
    have hE69 : Ext w6 w9 := hc9.below hb8 hE68
    have hE9 := hE6.trans hE69
    replace hB3 := (hB3.chg hc8 (by omega)).chg hc9 (by omega)
    replace hB4 := (hB4.chg hc8 (by omega)).chg hc9 (by omega)
    replace hB5 := (hB5.chg hc8 (by omega)).chg hc9 (by omega)
    clear hun hb7 hb8 hc8 hc9 z7 l3 l4 l5 hE68
    refine St2 (hB8'.all) (hB5.all) ?_
    refine GL.call rfl rfl rfl (seek_call a b ua sa u' s' _ any w9 hma.m (hb.ext hE9) (by omega) (by omega) (by omega) (by omega) (hK.ext hE9)) ?_
    rintro _ wa ⟨vx1, vy1, rfl, hx1, hy1, hea⟩
    replace hB3 := hB3.ext hea
    replace hB4 := hB4.ext hea
    replace hB5 := hB5.ext hea
    replace hB7' := hB7'.ext hea
    replace hB8' := hB8'.ext hea
    replace ho := ho.ext hea
    have hEa := hE9.trans hea
    refine St2 (hB4.all) (hB5.all) ?_
    refine GL.call rfl rfl rfl (refSeek_call a b u s u' s' any any wa (ha.ext hEa) (hb.ext hEa) (by omega) (by omega)) ?_
    rintro _ wb ⟨vx2, vy2, rfl, hx2, hy2, heb⟩
    replace hB3 := hB3.ext heb
    replace hB4 := hB4.ext heb
    replace hB5 := hB5.ext heb
    replace hB7' := hB7'.ext heb
    replace hB8' := hB8'.ext heb
    replace ho := ho.ext heb
    have hEb := hEa.trans heb
    replace hx1 := RdB.ext hx1 heb
    replace hy1 := RdB.ext hy1 heb
    refine St2 (hB7'.all) (hB8'.all) ?_
    refine GL.call rfl rfl rfl (clashOf_call uo r ns a ua sa _ _ wb ho.rd ⟨(Own.ext hma.val (hea.trans heb)).fresh, (Own.ext hma.sides (hea.trans heb)).fresh⟩ (by omega) (by omega) (hK.ext hEb)) ?_
    rintro _ wc ⟨vx3, vy3, rfl, hx3, hy3, hec⟩
    replace hB3 := hB3.ext hec
    replace hB4 := hB4.ext hec
    replace hB5 := hB5.ext hec
    replace hB7' := hB7'.ext hec
    replace hB8' := hB8'.ext hec
    replace ho := ho.ext hec
    have hEc := hEb.trans hec
    replace hx1 := RdB.ext hx1 hec
    replace hy1 := RdB.ext hy1 hec
    replace hx2 := RdB.ext hx2 hec
    replace hy2 := RdB.ext hy2 hec
    refine St2 (hB3.all) (hB4.all) ?_
    refine GL.call rfl rfl rfl (refOf9_call _ r ns a u s any any wc (h.ext hEc) (ha.ext hEc) (by omega)) ?_
    rintro _ wd ⟨vx4, vy4, rfl, hx4, hy4, hed⟩
    replace hB3 := hB3.ext hed
    replace hB4 := hB4.ext hed
    replace hB5 := hB5.ext hed
    replace hB7' := hB7'.ext hed
    replace hB8' := hB8'.ext hed
    replace ho := ho.ext hed
    have hEd := hEc.trans hed
    replace hx1 := RdB.ext hx1 hed
    replace hy1 := RdB.ext hy1 hed
    replace hx2 := RdB.ext hx2 hed
    replace hy2 := RdB.ext hy2 hed
    replace hx3 := RdB.ext hx3 hed
    replace hy3 := RdB.ext hy3 hed
    generalize seekR a b = R1 at *
    generalize ofR ns r a = R2 at *
    refine St0 ?_
    refine GL.call rfl rfl rfl (same_call vx1 vx2 _ _ _ _ wd hx1 hx2) ?_
    rintro _ we ⟨rfl, rfl⟩
    rw [decide_eq_true rfl]
    refine St0 ?_
    refine GL.call rfl rfl rfl (same_call vy1 vy2 _ _ _ _ we hy1 hy2) ?_
    rintro _ wf ⟨rfl, rfl⟩
    rw [decide_eq_true rfl]
    refine St0 ?_
    refine GL.call rfl rfl rfl (same_call vx3 vx4 _ _ _ _ wf hx3 hx4) ?_
    rintro _ wg ⟨rfl, rfl⟩
    rw [decide_eq_true rfl]
    refine St0 ?_
    refine GL.call rfl rfl rfl (same_call vy3 vy4 _ _ _ _ wg hy3 hy4) ?_
    rintro _ wh ⟨rfl, rfl⟩
    rw [decide_eq_true rfl]
    refine St2 (hB7'.all) (hB3.all) ?_
    refine GL.call rfl rfl rfl (refSame6_call uo _ r r ns ns _ any wh ho.rd (h.ext hEd) (by omega)) ?_
    rintro _ wi ⟨rfl, hei⟩
    rw [decide_eq_true ⟨rfl, rfl⟩]
    replace hB4 := hB4.ext hei
    replace hB8' := hB8'.ext hei
    have hEi := hEd.trans hei
    refine St2 (hB8'.all) (hB4.all) ?_
    have x9 := (hea.trans (heb.trans (hec.trans hed))).trans hei
    refine GL.call rfl rfl rfl (ref7Same_call a a ua sa u s _ any wi ⟨(Own.ext hma.val x9).fresh, (Own.ext hma.sides x9).fresh⟩ (ha.ext hEi) (by omega) (by omega)) ?_
    rintro _ wj ⟨rfl, hej⟩
    rw [decide_eq_true rfl]
    refine St0 ?_
    exact G.ret1 rfl rfl rfl rfl ⟨rfl, hEi.trans hej⟩

/-! ### ClashShows -/
/-- A proof of one root that tells something else: the two first unlike inputs. -/
theorem shows_law {ns : List Node} {r : Int} {p : Prf} (hT : treeB ns r = true) (hf : fitsB p (rootAt 0 (allT ns r)) = true) (hne : ¬ (toldB p = gotB6 ns r p.key ∧ toldV p = gotV6 ns r p.key)) (hpl : p.val.length ≤ 1000) :
    ∃ x y, ofR ns r p = (x, y, 0) ∧ x ≠ y ∧ shaD x = shaD y ∧ x.length ≤ 2000 ∧ y.length ≤ 2000 := by
  have h := treeB_iff.1 hT
  obtain ⟨h1, h2⟩ := made_told h p.key
  have hf' := hf
  unfold fitsB at hf'
  simp only [Bool.and_eq_true, decide_eq_true_eq] at hf'
  have hk := proofN_key h p.key
  have hu : unlikeB (proofN ns r p.key) p = true := by
    unfold unlikeB
    rw [h1, h2]
    by_cases e1 : gotB6 ns r p.key = toldB p
    · have e2 : gotV6 ns r p.key ≠ toldV p := fun e => hne ⟨e1.symm, e.symm⟩
      simp [e2]
    · simp [e1]
  obtain ⟨x, y, hd, hxy, hs⟩ := seek_law (made_may h p.key) hf'.1 hk hu
  have hm := proofN_small ns r p.key
  have hmem : ∀ {l m : List Bytes} {x y : Bytes}, firstDiff l m = some (x, y) → x ∈ l ∧ y ∈ m := by
    intro l
    induction l with
    | nil => intro m x y h; cases h
    | cons c l ih =>
      intro m x y h
      cases m with
      | nil => cases h
      | cons d m =>
        simp only [firstDiff] at h
        split at h
        · obtain ⟨h1, h2⟩ := ih h
          exact ⟨List.mem_cons_of_mem _ h1, List.mem_cons_of_mem _ h2⟩
        · cases h; exact ⟨List.mem_cons_self .., List.mem_cons_self ..⟩
  refine ⟨x, y, ?_, hxy, hs ((made_root h p.key).trans hf'.2.symm), fromL_small _ (by omega) 0 _ x (hmem hd).1, fromL_small p hpl 0 _ y (hmem hd).2⟩
  unfold ofR
  rw [hT, hf'.1, hf, decide_eq_true hk, hu]
  simp only [Bool.and_self, if_true]
  exact seekR_ok (by rw [made_may h, hf'.1]; rfl) (by rw [decide_eq_true hk, hu]; rfl) hd
theorem shows9_call (v : Value) (r : Int) (ns : List Node) (p : Prf) (u s : Value) (w : World) (h : RdN any w v ns) (hp : PrfM any w p u s) (hK : Kt w) :
    Does Tryd.prog 20 #[tv v r, prv p u s] w fun q w' => q = .bool true ∧ Ext w w' := by
  refine call_walk Tryd.func20 (by kernel_rfl) rfl Tryd.ntmps20 rfl ?_
  obtain ⟨pp, c, rfl, hc⟩ := h.isSlice
  refine St0 ?_
  refine GL.box (vs := [.slice pp ns.length c, iv r]) rfl rfl rfl rfl fun b2 w1 hb2 hB2 he1 => ?_
  refine GL.box (vs := pcells p u s) rfl rfl rfl rfl fun b3 w2 hb3 hB3 he2 => ?_
  replace hB2 := hB2.ext he2
  have hE2 := he1.trans he2
  refine St0 ?_
  refine GL.call rfl rfl rfl (vs := []) (alive9_call w2 (hK.ext hE2)) ?_
  rintro _ w3 ⟨rfl, he3⟩
  replace hB2 := hB2.ext he3
  replace hB3 := hB3.ext he3
  have hE3 := hE2.trans he3
  refine St1 (hB2.all) ?_
  refine GL.call rfl rfl rfl (great6_call ns _ r 600 any w3 (h.ext hE3) (by omega)) ?_
  rintro _ w4 ⟨⟨g, rfl, hg⟩, he4⟩
  replace hB2 := hB2.ext he4
  replace hB3 := hB3.ext he4
  have hE4 := hE3.trans he4
  cases g
  case true =>
    refine St0 ?_
    exact G.ret1 rfl rfl rfl rfl ⟨rfl, hE4⟩
  refine St1 (hB3.all) ?_
  refine GL.call rfl rfl rfl (great7_call p u s any w4 (hp.ext hE4)) ?_
  rintro _ w5 ⟨rfl, he5⟩
  replace hB2 := hB2.ext he5
  replace hB3 := hB3.ext he5
  have hE5 := hE4.trans he5
  cases hga : (decide (100 < p.val.length) || decide (300 < p.sides.length))
  case true =>
    refine St0 ?_
    exact G.ret1 rfl rfl rfl rfl ⟨rfl, hE5⟩
  have hpv : p.val.length ≤ 100 ∧ p.sides.length ≤ 300 := by simpa using hga
  refine St1 (hB2.all) ?_
  refine GL.call rfl rfl rfl (tsum6_call _ r ns any w5 (h.ext hE5) (hK.ext hE5)) ?_
  rintro _ w6 ⟨rfl, he6⟩
  replace hB2 := hB2.ext he6
  replace hB3 := hB3.ext he6
  have hE6 := hE5.trans he6
  refine St0 ?_
  refine GL.alloc hT rfl rfl rfl fun b6 w7 hb6 hB6 he7 => ?_
  have s7 := he7.size
  have l2 := hB2.lt
  have l3 := hB3.lt
  replace hB2 := hB2.ext he7
  replace hB3 := hB3.ext he7
  refine GL.storeVar hT rfl rfl rfl rfl rfl (Dig.len _) (Dig.one _) hB6 (by rw [Dig.len]; rfl) fun w8 hc8 hB6 => ?_
  replace hB2 := hB2.chg hc8 (by omega)
  replace hB3 := hB3.chg hc8 (by omega)
  have hE68 : Ext w6 w8 := hc8.below (by omega) he7
  have hE8 := hE6.trans hE68
  cases hTB : treeB ns r
  · rw [show badE false = 8 from rfl]
    refine St0 ?_
    exact G.ret1 rfl rfl rfl rfl ⟨rfl, hE8⟩
  rw [show badE true = 0 from rfl]
  have hsum : sumN ns r = rootAt 0 (allT ns r) := by unfold sumN; rw [hTB, if_pos rfl]
  rw [hsum] at hB6
  have hB3a := hB3.all
  have hB6a := hB6.all
  clear hsum hE68 hc8 s7 l2 l3
  refine St2 (hB3a) (hB6a) ?_
  refine GL.call rfl rfl rfl (vfits_call p _ u s any w8 (hp.ext hE8) (by omega) (by omega) (hK.ext hE8)) ?_
  rintro _ w9 ⟨rfl, he9⟩
  replace hB2 := hB2.ext he9
  replace hB3 := hB3.ext he9
  have hE9 := hE8.trans he9
  cases hf : fitsB p (rootAt 0 (allT ns r))
  · refine St0 ?_
    exact G.ret1 rfl rfl rfl rfl ⟨rfl, hE9⟩
  refine St1 (hB3.all) ?_
  refine GL.call rfl rfl rfl (told_call p u s any w9 (hp.ext hE9) (by omega)) ?_
  rintro _ wa ⟨vt, rfl, hvt, hea⟩
  replace hB2 := hB2.ext hea
  replace hB3 := hB3.ext hea
  have hEa := hE9.trans hea
  obtain ⟨hk, _⟩ := pat hB3.all
  refine St2 (hB2.all) (hk) ?_
  refine GL.call rfl rfl rfl (get6_call _ r ns p.key any wa (h.ext hEa)) ?_
  rintro _ wb ⟨vg, rfl, hvg, heb⟩
  replace hB2 := hB2.ext heb
  replace hB3 := hB3.ext heb
  have hEb := hEa.trans heb
  replace hvt := Own.ext hvt heb
  by_cases h1 : toldB p = gotB6 ns r p.key
  case neg =>
    have hn : ¬ (toldB p = gotB6 ns r p.key ∧ toldV p = gotV6 ns r p.key) := fun e => h1 e.1
    rw [Bool.eq_not_of_ne h1]
    generalize hgb : gotB6 ns r p.key = gb
    cases gb
    · refine St0 ?_
      obtain ⟨x, y, hR, hxy, hs, hxl, hyl⟩ := shows_law hTB hf hn (by omega)
      refine St2 (hB2.all) (hB3.all) ?_
      refine GL.call rfl rfl rfl (clashOf_call _ r ns p u s any any wb (h.ext hEb) (hp.ext hEb) (by omega) (by omega) (hK.ext hEb)) ?_
      rintro _ wd ⟨vx, vy, rfl, hvx, hvy, hed⟩
      have hEd := hEb.trans hed
      rw [hR] at hvx hvy
      rw [show (((ofR ns r p).2.2 : Nat) : Int) = 0 by rw [hR]; rfl]
      refine St0 ?_
      refine GL.call rfl rfl rfl (same_call vx vy x y _ _ wd hvx hvy) ?_
      rintro _ we ⟨rfl, rfl⟩
      rw [decide_eq_false hxy]
      refine St0 ?_
      refine GL.buildSlice [vx] hT rfl rfl rfl rfl rfl rfl rfl (fillL_one (RdF.some hvx) rfl (madeLen _ _)) fun b86 w15 hb86 hB86 he15 => ?_
      have e15 := hEd.trans he15
      refine GL.call rfl rfl rfl (shaOf_call _ x any w15 (bs1 hB86 (RdB.ext hvx he15)) (by omega) (hK.ext e15)) ?_
      rintro _ w16 ⟨rfl, he16⟩
      refine St0 ?_
      refine GL.buildSlice [vy] hT rfl rfl rfl rfl rfl rfl rfl (fillL_one (RdF.some hvy) rfl (madeLen _ _)) fun b89 w17 hb89 hB89 he17 => ?_
      have e17 := e15.trans (he16.trans he17)
      refine GL.call rfl rfl rfl (shaOf_call _ y any w17 (bs1 hB89 (RdB.ext hvy (he15.trans (he16.trans he17)))) (by omega) (hK.ext e17)) ?_
      rintro _ w18 ⟨rfl, he18⟩
      rw [hs]
      have hqq : shaD y = shaD y := rfl
      refine St0 ?_
      exact G.ret1 rfl rfl rfl rfl ⟨rfl, e17.trans he18⟩
    · refine St0 ?_
      obtain ⟨x, y, hR, hxy, hs, hxl, hyl⟩ := shows_law hTB hf hn (by omega)
      refine St2 (hB2.all) (hB3.all) ?_
      refine GL.call rfl rfl rfl (clashOf_call _ r ns p u s any any wb (h.ext hEb) (hp.ext hEb) (by omega) (by omega) (hK.ext hEb)) ?_
      rintro _ wd ⟨vx, vy, rfl, hvx, hvy, hed⟩
      have hEd := hEb.trans hed
      rw [hR] at hvx hvy
      rw [show (((ofR ns r p).2.2 : Nat) : Int) = 0 by rw [hR]; rfl]
      refine St0 ?_
      refine GL.call rfl rfl rfl (same_call vx vy x y _ _ wd hvx hvy) ?_
      rintro _ we ⟨rfl, rfl⟩
      rw [decide_eq_false hxy]
      refine St0 ?_
      refine GL.buildSlice [vx] hT rfl rfl rfl rfl rfl rfl rfl (fillL_one (RdF.some hvx) rfl (madeLen _ _)) fun b86 w15 hb86 hB86 he15 => ?_
      have e15 := hEd.trans he15
      refine GL.call rfl rfl rfl (shaOf_call _ x any w15 (bs1 hB86 (RdB.ext hvx he15)) (by omega) (hK.ext e15)) ?_
      rintro _ w16 ⟨rfl, he16⟩
      refine St0 ?_
      refine GL.buildSlice [vy] hT rfl rfl rfl rfl rfl rfl rfl (fillL_one (RdF.some hvy) rfl (madeLen _ _)) fun b89 w17 hb89 hB89 he17 => ?_
      have e17 := e15.trans (he16.trans he17)
      refine GL.call rfl rfl rfl (shaOf_call _ y any w17 (bs1 hB89 (RdB.ext hvy (he15.trans (he16.trans he17)))) (by omega) (hK.ext e17)) ?_
      rintro _ w18 ⟨rfl, he18⟩
      rw [hs]
      have hqq : shaD y = shaD y := rfl
      refine St0 ?_
      exact G.ret1 rfl rfl rfl rfl ⟨rfl, e17.trans he18⟩
  rw [h1]
  have hvt' := hvt
  by_cases h2 : toldV p = gotV6 ns r p.key
  · cases gotB6 ns r p.key
    · refine St0 ?_
      refine GL.call rfl rfl rfl (same_call vt vg _ _ _ _ wb hvt.fresh hvg.fresh) ?_
      rintro _ we ⟨rfl, rfl⟩
      rw [decide_eq_true h2]
      refine St0 ?_
      exact G.ret1 rfl rfl rfl rfl ⟨rfl, hEb⟩
    · refine St0 ?_
      refine GL.call rfl rfl rfl (same_call vt vg _ _ _ _ wb hvt.fresh hvg.fresh) ?_
      rintro _ we ⟨rfl, rfl⟩
      rw [decide_eq_true h2]
      refine St0 ?_
      exact G.ret1 rfl rfl rfl rfl ⟨rfl, hEb⟩
  · have hn : ¬ (toldB p = gotB6 ns r p.key ∧ toldV p = gotV6 ns r p.key) := fun e => h2 e.2
    generalize hgb : gotB6 ns r p.key = gb
    cases gb
    · refine St0 ?_
      refine GL.call rfl rfl rfl (same_call vt vg _ _ _ _ wb hvt.fresh hvg.fresh) ?_
      rintro _ we ⟨rfl, rfl⟩
      rw [decide_eq_false h2]
      refine St0 ?_
      obtain ⟨x, y, hR, hxy, hs, hxl, hyl⟩ := shows_law hTB hf hn (by omega)
      refine St2 (hB2.all) (hB3.all) ?_
      refine GL.call rfl rfl rfl (clashOf_call _ r ns p u s any any we (h.ext hEb) (hp.ext hEb) (by omega) (by omega) (hK.ext hEb)) ?_
      rintro _ wd ⟨vx, vy, rfl, hvx, hvy, hed⟩
      have hEd := hEb.trans hed
      rw [hR] at hvx hvy
      rw [show (((ofR ns r p).2.2 : Nat) : Int) = 0 by rw [hR]; rfl]
      refine St0 ?_
      refine GL.call rfl rfl rfl (same_call vx vy x y _ _ wd hvx hvy) ?_
      rintro _ we ⟨rfl, rfl⟩
      rw [decide_eq_false hxy]
      refine St0 ?_
      refine GL.buildSlice [vx] hT rfl rfl rfl rfl rfl rfl rfl (fillL_one (RdF.some hvx) rfl (madeLen _ _)) fun b86 w15 hb86 hB86 he15 => ?_
      have e15 := hEd.trans he15
      refine GL.call rfl rfl rfl (shaOf_call _ x any w15 (bs1 hB86 (RdB.ext hvx he15)) (by omega) (hK.ext e15)) ?_
      rintro _ w16 ⟨rfl, he16⟩
      refine St0 ?_
      refine GL.buildSlice [vy] hT rfl rfl rfl rfl rfl rfl rfl (fillL_one (RdF.some hvy) rfl (madeLen _ _)) fun b89 w17 hb89 hB89 he17 => ?_
      have e17 := e15.trans (he16.trans he17)
      refine GL.call rfl rfl rfl (shaOf_call _ y any w17 (bs1 hB89 (RdB.ext hvy (he15.trans (he16.trans he17)))) (by omega) (hK.ext e17)) ?_
      rintro _ w18 ⟨rfl, he18⟩
      rw [hs]
      have hqq : shaD y = shaD y := rfl
      refine St0 ?_
      exact G.ret1 rfl rfl rfl rfl ⟨rfl, e17.trans he18⟩
    · refine St0 ?_
      refine GL.call rfl rfl rfl (same_call vt vg _ _ _ _ wb hvt.fresh hvg.fresh) ?_
      rintro _ we ⟨rfl, rfl⟩
      rw [decide_eq_false h2]
      refine St0 ?_
      obtain ⟨x, y, hR, hxy, hs, hxl, hyl⟩ := shows_law hTB hf hn (by omega)
      refine St2 (hB2.all) (hB3.all) ?_
      refine GL.call rfl rfl rfl (clashOf_call _ r ns p u s any any we (h.ext hEb) (hp.ext hEb) (by omega) (by omega) (hK.ext hEb)) ?_
      rintro _ wd ⟨vx, vy, rfl, hvx, hvy, hed⟩
      have hEd := hEb.trans hed
      rw [hR] at hvx hvy
      rw [show (((ofR ns r p).2.2 : Nat) : Int) = 0 by rw [hR]; rfl]
      refine St0 ?_
      refine GL.call rfl rfl rfl (same_call vx vy x y _ _ wd hvx hvy) ?_
      rintro _ we ⟨rfl, rfl⟩
      rw [decide_eq_false hxy]
      refine St0 ?_
      refine GL.buildSlice [vx] hT rfl rfl rfl rfl rfl rfl rfl (fillL_one (RdF.some hvx) rfl (madeLen _ _)) fun b86 w15 hb86 hB86 he15 => ?_
      have e15 := hEd.trans he15
      refine GL.call rfl rfl rfl (shaOf_call _ x any w15 (bs1 hB86 (RdB.ext hvx he15)) (by omega) (hK.ext e15)) ?_
      rintro _ w16 ⟨rfl, he16⟩
      refine St0 ?_
      refine GL.buildSlice [vy] hT rfl rfl rfl rfl rfl rfl rfl (fillL_one (RdF.some hvy) rfl (madeLen _ _)) fun b89 w17 hb89 hB89 he17 => ?_
      have e17 := e15.trans (he16.trans he17)
      refine GL.call rfl rfl rfl (shaOf_call _ y any w17 (bs1 hB89 (RdB.ext hvy (he15.trans (he16.trans he17)))) (by omega) (hK.ext e17)) ?_
      rintro _ w18 ⟨rfl, he18⟩
      rw [hs]
      have hqq : shaD y = shaD y := rfl
      refine St0 ?_
      exact G.ret1 rfl rfl rfl rfl ⟨rfl, e17.trans he18⟩
end Go.Proofs.YtefneilaongpbaaDoor
