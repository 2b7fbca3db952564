/-
  pairs.Put and pairs.Drop.
-/
import Derived.Test.YtefneilaongpbaaPairsF
import Derived.Test.YtefneilaongpbaaPairsI
import Derived.Test.YtefneilaongpbaaPPure
set_option linter.unusedVariables false
set_option linter.unusedSimpArgs false
set_option maxRecDepth 100000
set_option maxHeartbeats 4000000
namespace Go.Proofs.Ytefneilaongpbaa
open Go Go.Bd Go.RowKit
attribute [local irreducible] G GL GQ GS

theorem _root_.Go.Bd.Own.ne_blk {B : Nat} {w : World} {v : Value} {n sz : Nat} {T T' : TypeId} {cs c : List Value} {b : Nat} (h : Own B w v n sz T cs) (hB : Blk w b T' c) (hne : Nat.beq T T' = false) : rowOf v ≠ some b := by
  intro e
  rcases h.2 with ⟨rfl, p, rfl⟩ | ⟨g, cap, rest, rfl, _, _, hblk, _⟩
  · simp [rowOf] at e
  · cases cap with
    | zero => simp [rowOf] at e
    | succ q =>
      simp [rowOf] at e
      subst e
      unfold Blk at hblk hB
      rw [hblk] at hB
      simp only [Option.some.injEq, Obj.cells.injEq] at hB
      rw [hB.2.1] at hne
      simp at hne
theorem _root_.Go.Bd.Own.keepBlk {B : Nat} {w w' : World} {v : Value} {n sz : Nat} {T T' : TypeId} {cs c : List Value} {b : Nat} (h : Own B w v n sz T cs) (hB : Blk w b T' c) (hne : Nat.beq T T' = false && Nat.blt 0 sz) (hc : Chg b w w') : Own B w' v n sz T cs := by
  have h2 : Nat.beq T T' = false ∧ Nat.blt 0 sz = true := by simpa using hne
  exact h.keep (fun g hg _ => hc.block g (fun e => h.ne_blk hB h2.1 (by rw [hg, e]))) (by simpa [Nat.blt_eq] using h2.2)
theorem PairN.chg {B : Nat} {w w' : World} {e : List Value} {x : Pair} {b : Nat} {T' : TypeId} {c : List Value} (h : PairN B w e x) (hB : Blk w b T' c) (hne : Nat.beq 5 T' = false) (hc : Chg b w w') : PairN B w' e x :=
  let ⟨u, h1, h2⟩ := h; ⟨u, h1, h2.keepBlk hB (by rw [hne]; rfl) hc⟩
theorem pairsN_one {B : Nat} {w : World} {es : List (List Value)} {ps : List Pair} (h : All2 (PairN B w) es ps) : ∀ c ∈ es.flatten, c.oneCell' = true :=
  pairs_one (h.imp fun e x ⟨u, h1, h2⟩ => (⟨u, h1, h2.fresh⟩ : PairC (fresh B) w e x))
theorem pairsN_len33 {B : Nat} {w : World} {es : List (List Value)} {ps : List Pair} (h : All2 (PairN B w) es ps) : ∀ e ∈ es, e.length = 33 := fun e he => by
  obtain ⟨j, hj⟩ := List.mem_iff_getElem?.1 he
  have hjl : j < ps.length := by rw [← h.length]; exact (List.getElem?_eq_some_iff.1 hj).1
  obtain ⟨e', he', x, rfl, _⟩ := h.at j _ (List.getElem?_eq_getElem hjl)
  rw [hj] at he'; cases he'
  exact pcell_len _ _
theorem set_mid {A D : List Value} {e e' : List Value} (he : e'.length = e.length) {o : Nat} (hA : A.length = o) {R : List Value} : splice ((A ++ (e ++ D)) ++ R) o e' = (A ++ (e' ++ D)) ++ R := by
  have : (A ++ (e ++ D)) ++ R = A ++ (e ++ (D ++ R)) := by simp
  rw [this, splice_at hA he.symm]
  simp
theorem put_call (v u : Value) (ps : List Pair) (k : Dig) (bs : Bytes) (S S' : Where) (w : World) (h : RdP S w v ps) (hu : RdB S' w u bs) :
    Does Try.prog 28 #[v, dv k, u] w fun r w' => ∃ x, r = .tuple #[x, iv (putE ps k bs)] ∧ OwnP w.heap.size w' x (putL ps k bs) ∧ Ext w w' := by
  refine call_walk Try.func28 (by kernel_rfl) rfl Try.ntmps28 rfl ?_
  obtain ⟨p, c, rfl, hc⟩ := h.isSlice
  obtain ⟨pu, cu, rfl, hcu⟩ := RdF.isSlice hu
  refine St0 ?_
  refine GL.box rfl rfl rfl rfl fun b4 w1 hb4 hB4 he1 => ?_
  refine St0 ?_
  refine GL.call rfl rfl rfl (pcheck_call _ ps S w1 (h.ext he1)) ?_
  rintro r w2 ⟨rfl, he2⟩
  replace hB4 := hB4.ext he2
  have he := he1.trans he2
  cases hok : mapB ps
  · have e1 : badE false = 8 := rfl
    rw [e1]
    refine St0 ?_
    exact G.ret2 rfl rfl rfl rfl rfl ⟨_, by rw [(putE_bad (by simp [hok])).1], by rw [(putE_bad (by simp [hok])).2]; exact OwnP.bare _ _ none, he⟩
  have hM := mapB_iff.1 hok
  have hfew := hM.few
  have e1 : badE true = 0 := rfl
  rw [e1]
  refine St0 ?_
  refine GL.call rfl rfl rfl (value_call pu bs.length cu w2) ?_
  rintro r w3 ⟨rfl, rfl⟩
  cases hvb : valB bs.length
  · refine St0 ?_
    exact G.ret2 rfl rfl rfl rfl rfl ⟨_, by rw [(putE_bad (by simp [hvb])).1], by rw [(putE_bad (by simp [hvb])).2]; exact OwnP.bare _ _ none, he⟩
  have hvl := valB_le hvb
  have hboth : (mapB ps && valB bs.length) = true := by simp [hok, hvb]
  refine St1 (hB4.all) ?_
  refine GL.call rfl rfl rfl (find_call _ ps k S w3 (h.ext he) hM) ?_
  rintro r w4 ⟨rfl, he4⟩
  replace hB4 := hB4.ext he4
  have hE := he.trans he4
  have hlen := put_len hM k bs
  have hale := ahead_le ps k
  cases hhas : hasK ps k
  · -- a new key
    rw [hhas] at hlen
    simp only [Bool.false_eq_true, if_false] at hlen
    by_cases hfull : (ps.length : Int) = 512
    · refine St0 ?_
      have := putE_full (k := k) (v := bs) hboth (by omega)
      exact G.ret2 rfl rfl rfl rfl rfl ⟨_, by rw [this.1], by rw [this.2]; exact OwnP.bare _ _ none, hE⟩
    obtain ⟨hE0, hL0⟩ := putE_ok (k := k) (v := bs) hboth (by omega)
    refine St0 ?_
    refine GL.call rfl rfl rfl (pairsTwin_call _ ps S w4 (h.ext hE) (by omega) (fun x hx => by have := valB_le (hM.valid x hx); omega)) ?_
    rintro out w5 ⟨hout, he5⟩
    replace hB4 := hB4.ext he5
    have hE5 := hE.trans he5
    have sE := hE.size
    refine St0 ?_
    refine G.draw 5 [(4, ptr b4 0), (2, .slice pu bs.length cu), (8, iv (ahead ps k : Nat)), (9, .bool false), (10, out)] (fun i v w' => match i with
      | 0 => dv k = v | 1 => Value.slice pu bs.length cu = v | 2 => OwnB w5.heap.size w' v bs | 3 => ∃ u', v = .agg (k.cells ++ [u']).toArray ∧ OwnB w5.heap.size w' u' bs | _ => ∃ b, v = ptr b 0 ∧ w5.heap.size ≤ b ∧ Blk w' b 89 ti89.zero) follows (by kernel_rfl) (by kernel_rfl) (by kernel_rfl) (by kernel_rfl) (by (repeat (first | exact Fr.sub_nil _ | refine Fr.sub_cons rfl ?_))) ?mono ?obs ?fin
    case mono =>
      intro i v w3 w4 he h
      rcases i with _ | _ | _ | _ | i
      · exact h
      · exact h
      · exact Own.ext h he
      · obtain ⟨u', h1, h2⟩ := h; exact ⟨u', h1, h2.ext he⟩
      · obtain ⟨b, h1, h2, h3⟩ := h; exact ⟨b, h1, h2, h3.ext he⟩
    case obs =>
      intro w0 he0
      refine ⟨fun w' he' => ?_, fun w' he' => ?_, fun w' he' => ?_, fun w' he' => ?_, fun w' he' => ?_, trivial⟩
      · refine St1 ((hB4.ext (he0.trans he')).all) ?_
        exact GL.fact rfl (Ext.refl _) rfl
      · refine St0 ?_
        exact GL.fact rfl (Ext.refl _) rfl
      · rintro v rfl
        refine GL.call rfl rfl rfl (cloneB_call _ bs _ w' (hu.ext (hE5.trans (he0.trans he'))) (by omega)) ?_
        rintro r w'' ⟨ho, he''⟩
        exact GL.fact rfl he'' (ho.mono (Nat.le_trans he0.size he'.size))
      · rintro v rfl u' hu'
        refine GL.build (k.cells ++ [u']) hT rfl rfl rfl rfl rfl rfl (pair_fill k hu'.some) ?_
        exact GL.fact rfl (Ext.refl _) ⟨u', rfl, hu'⟩
      · refine GL.alloc hT rfl rfl rfl fun b w'' hb hB he'' => ?_
        exact GL.fact rfl he'' ⟨b, rfl, by have := he0.size; have := he'.size; omega, hB⟩
    case fin =>
      rintro w6 he6 v0 rfl v1 rfl u2 hu2 v3 ⟨u', rfl, hu'⟩ v4 ⟨b, rfl, hb, hB⟩
      have rout : ∀ q, rowOf out = some q → w4.heap.size ≤ q ∧ q < w5.heap.size := fun q hq => let ⟨_, _, ho⟩ := hout; ho.row hq
      replace hout := hout.ext he6
      have s6 := he6.size
      have s5 := he5.size
      have lb := hB.lt
      refine GL.storeVar hT rfl rfl rfl rfl rfl (pcell_len _ _) (pairOne hu'.one) hB (by rw [pcell_len]; decide) fun w7 hc7 hB7 => ?_
      have hE7 : Ext w w7 := hc7.below (by omega) (hE5.trans he6)
      have s7 := hc7.size
      replace hu' := hu'.keepBlk hB (by decide) hc7
      obtain ⟨es, hes, hown⟩ := hout
      replace hes := hes.imp fun _ _ h => PairN.chg h hB (by decide) hc7
      replace hown := hown.keep (w' := w7) (fun g hg hl => hc7.block g (by have := rout g hg; omega)) (by decide)
      have hel := pairsN_len33 hes
      have hun : PairN w4.heap.size w7 (k.cells ++ [u']) ⟨k, bs⟩ := ⟨u', rfl, hu'.mono s5⟩
      refine St1 (hB7.all) ?_
      refine GL.buildSlice (k.cells ++ [u']) hT rfl rfl rfl rfl rfl rfl rfl (fillL_one rfl (pcell_len _ _) (madeLen _ _)) fun b8 w8 hb8 hB8 he8 => ?_
      have s8 := he8.size
      replace hown := hown.ext he8
      replace hun := hun.ext he8
      replace hes := hes.imp fun _ _ h => PairN.ext h he8
      refine GL.call rfl rfl rfl (insert_call out ps.length (ahead ps k) b8 es.flatten (k.cells ++ [u']) w4.heap.size w8 hown hB8 (pcell_len _ _) (pairOne hu'.one) (pairsN_one hes) (fun e => by have := rout _ e; omega) hale (by omega) (by omega)) ?_
      rintro r w9 ⟨ho, hb9⟩
      refine St0 ?_
      refine G.ret2 rfl rfl rfl rfl rfl ⟨_, by rw [hE0], ⟨es.take (ahead ps k) ++ ((k.cells ++ [u']) :: es.drop (ahead ps k)), ?_, ?_⟩, hb9.below (fun q hq => by have := rout q hq; omega) (by omega) (hE7.trans he8)⟩
      · rw [hL0, hM.with_not hhas]
        exact ((hes.take _).imp fun _ _ h => (h.but hown hb9).mono sE).append (.cons ((hun.but hown hb9).mono sE) ((hes.drop _).imp fun _ _ h => (h.but hown hb9).mono sE))
      · rw [hL0, List.flatten_append, List.flatten_cons, flat_take hel, flat_drop hel, hlen]
        exact ho.mono sE
  · rw [hhas] at hlen
    simp only [if_true] at hlen
    obtain ⟨hE0, hL0⟩ := putE_ok (k := k) (v := bs) hboth (by omega)
    refine St0 ?_
    refine GL.call rfl rfl rfl (pairsTwin_call _ ps S w4 (h.ext hE) (by omega) (fun x hx => by have := valB_le (hM.valid x hx); omega)) ?_
    rintro out w5 ⟨hout, he5⟩
    replace hB4 := hB4.ext he5
    have hE5 := hE.trans he5
    have sE := hE.size
    refine St0 ?_
    refine G.draw 5 [(4, ptr b4 0), (2, .slice pu bs.length cu), (8, iv (ahead ps k : Nat)), (9, .bool true), (10, out)] (fun i v w' => match i with
      | 0 => dv k = v | 1 => Value.slice pu bs.length cu = v | 2 => OwnB w5.heap.size w' v bs | 3 => ∃ u', v = .agg (k.cells ++ [u']).toArray ∧ OwnB w5.heap.size w' u' bs | _ => ∃ b, v = ptr b 0 ∧ w5.heap.size ≤ b ∧ Blk w' b 89 ti89.zero) follows (by kernel_rfl) (by kernel_rfl) (by kernel_rfl) (by kernel_rfl) (by (repeat (first | exact Fr.sub_nil _ | refine Fr.sub_cons rfl ?_))) ?mono ?obs ?fin
    case mono =>
      intro i v w3 w4 he h
      rcases i with _ | _ | _ | _ | i
      · exact h
      · exact h
      · exact Own.ext h he
      · obtain ⟨u', h1, h2⟩ := h; exact ⟨u', h1, h2.ext he⟩
      · obtain ⟨b, h1, h2, h3⟩ := h; exact ⟨b, h1, h2, h3.ext he⟩
    case obs =>
      intro w0 he0
      refine ⟨fun w' he' => ?_, fun w' he' => ?_, fun w' he' => ?_, fun w' he' => ?_, fun w' he' => ?_, trivial⟩
      · refine St1 ((hB4.ext (he0.trans he')).all) ?_
        exact GL.fact rfl (Ext.refl _) rfl
      · refine St0 ?_
        exact GL.fact rfl (Ext.refl _) rfl
      · rintro v rfl
        refine GL.call rfl rfl rfl (cloneB_call _ bs _ w' (hu.ext (hE5.trans (he0.trans he'))) (by omega)) ?_
        rintro r w'' ⟨ho, he''⟩
        exact GL.fact rfl he'' (ho.mono (Nat.le_trans he0.size he'.size))
      · rintro v rfl u' hu'
        refine GL.build (k.cells ++ [u']) hT rfl rfl rfl rfl rfl rfl (pair_fill k hu'.some) ?_
        exact GL.fact rfl (Ext.refl _) ⟨u', rfl, hu'⟩
      · refine GL.alloc hT rfl rfl rfl fun b w'' hb hB he'' => ?_
        exact GL.fact rfl he'' ⟨b, rfl, by have := he0.size; have := he'.size; omega, hB⟩
    case fin =>
      rintro w6 he6 v0 rfl v1 rfl u2 hu2 v3 ⟨u', rfl, hu'⟩ v4 ⟨b, rfl, hb, hB⟩
      have rout : ∀ q, rowOf out = some q → w4.heap.size ≤ q ∧ q < w5.heap.size := fun q hq => let ⟨_, _, ho⟩ := hout; ho.row hq
      replace hout := hout.ext he6
      have s6 := he6.size
      have s5 := he5.size
      have lb := hB.lt
      refine GL.storeVar hT rfl rfl rfl rfl rfl (pcell_len _ _) (pairOne hu'.one) hB (by rw [pcell_len]; decide) fun w7 hc7 hB7 => ?_
      have hE7 : Ext w w7 := hc7.below (by omega) (hE5.trans he6)
      have s7 := hc7.size
      replace hu' := hu'.keepBlk hB (by decide) hc7
      obtain ⟨es, hes, hown⟩ := hout
      replace hes := hes.imp fun _ _ h => PairN.chg h hB (by decide) hc7
      replace hown := hown.keep (w' := w7) (fun g hg hl => hc7.block g (by have := rout g hg; omega)) (by decide)
      have hel := pairsN_len33 hes
      have hun : PairN w4.heap.size w7 (k.cells ++ [u']) ⟨k, bs⟩ := ⟨u', rfl, hu'.mono s5⟩
      obtain ⟨x, hx, hxk⟩ := hasK_find hhas
      have hlt := (List.getElem?_eq_some_iff.1 hx).1
      obtain ⟨g, cap, rest, hv, hrow, hgB, hnc, hblk, hrl, hcl⟩ := hown.parts (by omega)
      subst hv
      have hrg := rout g hrow
      refine St1 (hB7.all) ?_
      (refine GL.indexSlice ((ahead ps k)) 33 ((ahead ps k * 33)) hT rfl rfl rfl rfl rfl rfl rfl rfl ?_ ?_ ?_ ?_; (focus omega); (focus omega); (focus omega))
      obtain ⟨e0, he0, hx0⟩ := hes.at (ahead ps k) x hx
      obtain ⟨hfl, hfl2⟩ := flatten_at 33 es hel (ahead ps k) e0 he0
      have he0l : e0.length = 33 := hel e0 (List.mem_of_getElem? he0)
      rw [hfl] at hblk
      refine GL.storeIn hT rfl rfl rfl rfl rfl (pcell_len _ _) (pairOne hu'.one) hblk (by rw [pcell_len]; simp only [List.length_append, hfl2, he0l]; omega) fun w8 hc8 hblk8 => ?_
      rw [set_mid (by rw [pcell_len, he0l]) hfl2] at hblk8
      refine St0 ?_
      have hb8 := But.of_chg hc8
      rw [← hrow] at hb8
      refine G.ret2 rfl rfl rfl rfl rfl ⟨_, by rw [hE0], ⟨es.take (ahead ps k) ++ ((k.cells ++ [u']) :: es.drop (ahead ps k + 1)), ?_, ?_⟩, hc8.below (by omega) hE7⟩
      · rw [hL0, hM.with_has hhas]
        exact ((hes.take _).imp fun _ _ h => (h.but hown hb8).mono sE).append (.cons ((hun.but hown hb8).mono sE) ((hes.drop _).imp fun _ _ h => (h.but hown hb8).mono sE))
      · rw [hL0, hlen, List.flatten_append, List.flatten_cons]
        exact (Own.of_blk hgB hnc (by simp only [List.length_append, hfl2, Dig.len, List.length_singleton, flat_drop hel, List.length_drop, hcl]; omega) hblk8 hrl).mono sE
theorem drop_call (v : Value) (ps : List Pair) (k : Dig) (S : Where) (w : World) (h : RdP S w v ps) :
    Does Try.prog 30 #[v, dv k] w fun r w' => ∃ x, r = .tuple #[x, iv (dropE ps k)] ∧ OwnP w.heap.size w' x (dropL ps k) ∧ Ext w w' := by
  refine call_walk Try.func30 (by kernel_rfl) rfl Try.ntmps30 rfl ?_
  obtain ⟨p, c, rfl, hc⟩ := h.isSlice
  refine St0 ?_
  refine GL.box rfl rfl rfl rfl fun b3 w1 hb3 hB3 he1 => ?_
  refine St0 ?_
  refine GL.call rfl rfl rfl (pcheck_call _ ps S w1 (h.ext he1)) ?_
  rintro r w2 ⟨rfl, he2⟩
  replace hB3 := hB3.ext he2
  have he := he1.trans he2
  cases hok : mapB ps
  · have e1 : badE false = 8 := rfl
    have e2 : dropE ps k = 8 := by simp [dropE, hok]
    rw [e1]
    refine St0 ?_
    exact G.ret2 rfl rfl rfl rfl rfl ⟨_, by rw [e2], by rw [show dropL ps k = [] by simp [dropL, e2]]; exact OwnP.bare _ _ none, he⟩
  have hM := mapB_iff.1 hok
  have hfew := hM.few
  have e1 : badE true = 0 := rfl
  rw [e1]
  refine St1 (hB3.all) ?_
  refine GL.call rfl rfl rfl (find_call _ ps k S w2 (h.ext he) hM) ?_
  rintro r w3 ⟨rfl, he3⟩
  replace hB3 := hB3.ext he3
  have hE := he.trans he3
  have hale := ahead_le ps k
  cases hhas : hasK ps k
  · have e2 : dropE ps k = 6 := by simp [dropE, hok, hhas]
    refine St0 ?_
    exact G.ret2 rfl rfl rfl rfl rfl ⟨_, by rw [e2], by rw [show dropL ps k = [] by simp [dropL, e2]]; exact OwnP.bare _ _ none, hE⟩
  have e2 : dropE ps k = 0 := by simp [dropE, hok, hhas]
  have e3 : dropL ps k = without ps k := by simp [dropL, e2]
  obtain ⟨x, hx, hxk⟩ := hasK_find hhas
  have hlt := (List.getElem?_eq_some_iff.1 hx).1
  refine St0 ?_
  refine GL.call rfl rfl rfl (pairsTwin_call _ ps S w3 (h.ext hE) (by omega) (fun x hx => by have := valB_le (hM.valid x hx); omega)) ?_
  rintro out w4 ⟨⟨es, hes, hown⟩, he4⟩
  have hE4 := hE.trans he4
  have sE := hE.size
  have s4 := he4.size
  have hel := pairsN_len33 hes
  refine St0 ?_
  rw [show ((ahead ps k : Nat) : Int) + 1 = ((ahead ps k + 1 : Nat) : Int) by omega]
  refine GL.call rfl rfl rfl (delete_call out ps.length (ahead ps k) es.flatten w3.heap.size w4 hown (pairsN_one hes) hlt (by omega) (by omega)) ?_
  rintro r w5 ⟨ho, hb5⟩
  refine St0 ?_
  have hlen := length_without hM k
  rw [hhas] at hlen
  simp only [if_true] at hlen
  refine G.ret2 rfl rfl rfl rfl rfl ⟨_, by rw [e2], ⟨es.take (ahead ps k) ++ es.drop (ahead ps k + 1), ?_, ?_⟩, hb5.below (fun q hq => by have := hown.row hq; omega) (by omega) hE4⟩
  · rw [e3, hM.without_has hhas]
    exact ((hes.take _).imp fun _ _ h => (h.but hown hb5).mono sE).append ((hes.drop _).imp fun _ _ h => (h.but hown hb5).mono sE)
  · rw [e3, hlen, List.flatten_append, flat_take hel, flat_drop hel]
    exact ho.mono sE
end Go.Proofs.Ytefneilaongpbaa
