import Derived.Test.YtefneilaongpbaaDoorTreeP
import Derived.Test.YtefneilaongpbaaDoorClashA

/-
  A key's value in a tree; first unlike inputs: the document's, and a tree's.
-/
set_option linter.unusedVariables false
set_option linter.unusedSimpArgs false
set_option maxRecDepth 100000
set_option maxHeartbeats 8000000
namespace Go.Proofs.YtefneilaongpbaaDoor
open Go Go.Bd Go.RowKit
attribute [local irreducible] G GL GQ GS shaD

/-! ### A key's value -/
def valT (ps : List Pair) (k : Dig) : Bytes := ((ps.find? fun x => decide (x.key = k)).map Pair.val).getD []
noncomputable def gotB6 (ns : List Node) (r : Int) (k : Dig) : Bool := treeB ns r && hasT (allT ns r) k
noncomputable def gotV6 (ns : List Node) (r : Int) (k : Dig) : Bytes := if gotB6 ns r k then valT (allT ns r) k else []
theorem valT_mem {ps : List Pair} (h : PW ps) {x : Pair} (hx : x ∈ ps) : valT ps x.key = x.val := by
  unfold valT
  induction ps with
  | nil => cases hx
  | cons y ps ih =>
    obtain ⟨h1, h2⟩ := List.pairwise_cons.1 h
    rcases List.mem_cons.1 hx with rfl | hx
    · simp
    · have hne : y.key ≠ x.key := fun e => by have := h1 x hx; rw [e] at this; omega
      rw [List.find?_cons_of_neg (by simpa using hne)]
      exact ih h2 hx
theorem hasT_none {ps : List Pair} {k : Dig} (h : ∀ x ∈ ps, x.key ≠ k) : hasT ps k = false := by
  simp only [hasT, List.any_eq_false, decide_eq_true_eq]
  exact h
theorem hasT_mem {ps : List Pair} {x : Pair} (hx : x ∈ ps) : hasT ps x.key = true := by
  simp only [hasT, List.any_eq_true, decide_eq_true_eq]
  exact ⟨x, hx, rfl⟩
theorem get6_call (v : Value) (r : Int) (ns : List Node) (k : Dig) (S : Where) (w : World) (h : RdN S w v ns) :
    Does Tryd.prog 61 #[tv v r, dv k] w fun q w' => ∃ u, q = .tuple #[u, .bool (gotB6 ns r k)] ∧ OwnB w.heap.size w' u (gotV6 ns r k) ∧ Ext w w' := by
  refine call_walk Tryd.func61 (by kernel_rfl) rfl Tryd.ntmps61 rfl ?_
  obtain ⟨p, c, rfl, hc⟩ := h.isSlice
  refine St0 ?_
  refine GL.box (vs := [.slice p ns.length c, iv r]) rfl rfl rfl rfl fun b2 w1 hb2 hB2 he1 => ?_
  refine GL.box rfl rfl rfl rfl fun b3 w2 hb3 hB3 he2 => ?_
  replace hB2 := hB2.ext he2
  have hE2 := he1.trans he2
  refine St1 (hB2.all) ?_
  refine GL.call rfl rfl rfl (check6_call ns _ r S w2 (h.ext hE2)) ?_
  rintro _ w3 ⟨rfl, he3⟩
  replace hB2 := hB2.ext he3
  replace hB3 := hB3.ext he3
  have hE3 := hE2.trans he3
  cases hok : treeB ns r
  · have e0 : badE false = 8 := rfl
    have e1 : gotB6 ns r k = false := by unfold gotB6; rw [hok]; rfl
    have e2 : gotV6 ns r k = [] := by unfold gotV6; rw [e1]; rfl
    rw [e0, e1, e2]
    refine St0 ?_
    exact G.ret2 rfl rfl rfl rfl rfl ⟨.slice none 0 0, rfl, nilB _ _, hE3⟩
  have e0 : badE true = 0 := rfl
  have hT' := treeB_iff.1 hok
  have hfew := hT'.few
  rw [e0]
  refine St2 (hB2.all) (hB3.all) ?_
  refine GL.call rfl rfl rfl (find6_call _ r ns k S w3 (h.ext hE3) hT') ?_
  rintro _ w4 ⟨m, rfl, hF, hml, he4⟩
  replace hB2 := hB2.ext he4
  have hE4 := hE3.trans he4
  have hh := hF.has
  by_cases hm0 : (m : Int) = 0
  · rw [decide_eq_false (by omega)] at hh
    have e1 : gotB6 ns r k = false := by unfold gotB6; rw [hok, hh]; rfl
    have e2 : gotV6 ns r k = [] := by unfold gotV6; rw [e1]; rfl
    rw [e1, e2]
    refine St0 ?_
    exact G.ret2 rfl rfl rfl rfl rfl ⟨.slice none 0 0, rfl, nilB _ _, hE4⟩
  · rcases hF with ⟨h1, _⟩ | ⟨i, x, rfl, hx, hl, hk, hmem⟩
    · omega
    have e1 : gotB6 ns r k = true := by unfold gotB6; rw [hok, hh, decide_eq_true (by omega)]; rfl
    have e2 : gotV6 ns r k = x.val := by unfold gotV6; rw [e1, if_pos rfl]; exact valT_mem hT'.pw hmem
    have hvl := valB_le (hT'.one.leaf hx hl).1
    rw [e1, e2]
    obtain ⟨bb, o, c', u, hv, hu, hA⟩ := (h.ext hE4).elem hx
    cases hv
    refine St1 ((tvAt hB2.all).1) ?_
    (refine GL.indexSlice (i) 36 ((o + i * 36)) hT rfl rfl rfl rfl rfl rfl rfl rfl ?_ ?_ ?_ ?_; (focus omega); (focus omega); (focus omega))
    refine St1 ((nAt hA).val) ?_
    refine GL.call rfl rfl rfl (cloneB_call u x.val S w4 hu (by omega)) ?_
    rintro u' w5 ⟨hu', he5⟩
    refine St0 ?_
    exact G.ret2 rfl rfl rfl rfl rfl ⟨u', rfl, hu'.mono hE4.size, hE4.trans he5⟩
/-- What a made proof tells is what the tree has. -/
theorem made_told {ns : List Node} {r : Int} (h : TreeOk ns r) (k : Dig) : toldB (proofN ns r k) = gotB6 ns r k ∧ toldV (proofN ns r k) = gotV6 ns r k := by
  have hm := made_may h k
  have he := h.wayEnd k
  have hp := h.pw
  have key : toldB (proofN ns r k) = gotB6 ns r k ∧ (toldB (proofN ns r k) = true → (proofN ns r k).val = valT (allT ns r) k) := by
    unfold toldB gotB6
    rw [hm, treeB_t h, proofN_ok h]
    generalize (wayAt 0 (allT ns r) k).2 = Ds at *
    generalize (wayAt 0 (allT ns r) k).1 = e at *
    rw [proofX_en]
    cases e with
    | none =>
      simp only at he ⊢
      rw [hasT_none he]
      exact ⟨rfl, fun h => by simp at h⟩
    | some x =>
      simp only at he ⊢
      by_cases hk : x.key = k
      · subst hk
        have h1 := hasT_mem he.1
        have h2 := (valT_mem hp he.1).symm
        simp [h1, h2]
      · have h1 := hasT_none (he.2.2 hk)
        simp [hk, h1]
  refine ⟨key.1, ?_⟩
  unfold toldV gotV6
  rw [← key.1]
  cases ht : toldB (proofN ns r k)
  · rfl
  · rw [if_pos rfl, if_pos rfl]; exact key.2 ht
theorem proofN_key {ns : List Node} {r : Int} (h : TreeOk ns r) (k : Dig) : (proofN ns r k).key = k := by rw [proofN_ok h, proofX_key]

/-! ### First unlike inputs -/
theorem refUnlike_call (a b : Prf) (u s u' s' : Value) (S S' : Where) (w : World) (ha : PrfM S w a u s) (hb : PrfM S' w b u' s') (hal : a.val.length ≤ 1000) (hbl : b.val.length ≤ 1000) :
    Does Tryd.prog 131 #[prv a u s, prv b u' s'] w fun r w' => r = .bool (decide (a.key = b.key) && unlikeB a b) ∧ Ext w w' := by
  refine call_walk Tryd.func131 (by kernel_rfl) rfl Tryd.ntmps131 rfl ?_
  refine St0 ?_
  refine GL.box rfl rfl rfl rfl fun b2 w1 hb2 hB2 he1 => ?_
  refine GL.box rfl rfl rfl rfl fun b3 w2 hb3 hB3 he2 => ?_
  replace hB2 := hB2.ext he2
  have he12 := he1.trans he2
  refine St1 (hB2.all) ?_
  refine GL.call rfl rfl rfl (refTold_call a u s _ w2 (ha.ext he12) (by omega)) ?_
  rintro r w3 ⟨va, rfl, hva, he3⟩
  replace hB2 := hB2.ext he3
  replace hB3 := hB3.ext he3
  refine St1 (hB3.all) ?_
  refine GL.call rfl rfl rfl (refTold_call b u' s' _ w3 (hb.ext (he12.trans he3)) (by omega)) ?_
  rintro r w4 ⟨vb, rfl, hvb, he4⟩
  replace hB2 := hB2.ext he4
  replace hB3 := hB3.ext he4
  replace hva := hva.ext he4
  have e4 := he12.trans (he3.trans he4)
  by_cases hk : a.key = b.key
  case neg =>
    refine St2 ((pat hB2.all).1) ((pat hB3.all).1) ?_
    exact G.ret1 rfl rfl rfl rfl ⟨by rw [decide_eq_false hk]; rfl, e4⟩
  rw [decide_eq_true hk]
  cases ht : toldB a <;> cases ht' : toldB b
  · --
    refine St2 ((pat hB2.all).1) ((pat hB3.all).1) ?_
    refine GL.call rfl rfl rfl (same_call va vb _ _ _ _ w4 hva.fresh hvb.fresh) ?_
    rintro r w5 ⟨rfl, rfl⟩
    cases hd : decide (toldV a = toldV b)
    · refine St0 ?_
      exact G.ret1 rfl rfl rfl rfl ⟨by simp [unlike_eq, ht, ht', hd], e4⟩
    · refine St0 ?_
      exact G.ret1 rfl rfl rfl rfl ⟨by simp [unlike_eq, ht, ht', hd], e4⟩
  · refine St2 ((pat hB2.all).1) ((pat hB3.all).1) ?_
    exact G.ret1 rfl rfl rfl rfl ⟨by simp [unlike_eq, ht, ht'], e4⟩
  · refine St2 ((pat hB2.all).1) ((pat hB3.all).1) ?_
    exact G.ret1 rfl rfl rfl rfl ⟨by simp [unlike_eq, ht, ht'], e4⟩
  · --
    refine St2 ((pat hB2.all).1) ((pat hB3.all).1) ?_
    refine GL.call rfl rfl rfl (same_call va vb _ _ _ _ w4 hva.fresh hvb.fresh) ?_
    rintro r w5 ⟨rfl, rfl⟩
    cases hd : decide (toldV a = toldV b)
    · refine St0 ?_
      exact G.ret1 rfl rfl rfl rfl ⟨by simp [unlike_eq, ht, ht', hd], e4⟩
    · refine St0 ?_
      exact G.ret1 rfl rfl rfl rfl ⟨by simp [unlike_eq, ht, ht', hd], e4⟩
end Go.Proofs.YtefneilaongpbaaDoor
/-
  First unlike inputs: the document's; those of a tree and a proof.
-/
set_option linter.unusedVariables false
set_option linter.unusedSimpArgs false
set_option maxRecDepth 100000
set_option maxHeartbeats 8000000
namespace Go.Proofs.YtefneilaongpbaaDoor
open Go Go.Bd Go.RowKit
attribute [local irreducible] G GL GQ GS shaD

theorem firstDiff_pos : ∀ {xs ys : List Bytes} {x y : Bytes}, firstDiff xs ys = some (x, y) → ∃ p : Nat, xs[p]? = some x ∧ ys[p]? = some y ∧ x ≠ y ∧ ∀ j, j < p → xs[j]? = ys[j]?
  | [], _, x, y, h => by simp [firstDiff] at h
  | _ :: _, [], x, y, h => by simp [firstDiff] at h
  | a :: xs, b :: ys, x, y, h => by
    simp only [firstDiff] at h
    by_cases hab : a = b
    · rw [if_pos hab] at h
      obtain ⟨p, h1, h2, h3, h4⟩ := firstDiff_pos h
      refine ⟨p + 1, by simpa using h1, by simpa using h2, h3, fun j hj => ?_⟩
      cases j with
      | zero => simp [hab]
      | succ j => simpa using h4 j (by omega)
    · rw [if_neg hab] at h
      simp only [Option.some.injEq, Prod.mk.injEq] at h
      exact ⟨0, by simp [h.1], by simp [h.2], by rw [← h.1, ← h.2]; exact hab, fun j hj => by omega⟩
theorem refFirst_call (a b : Prf) (x y : Bytes) (u s u' s' : Value) (S S' : Where) (w : World) (ha : PrfM S w a u s) (hb : PrfM S' w b u' s') (hal : a.val.length ≤ 1000) (hbl : b.val.length ≤ 1000) (hma : mayB a = true) (hmb : mayB b = true) (hd : firstDiff (fromP a) (fromP b) = some (x, y)) :
    Does Tryd.prog 132 #[prv a u s, prv b u' s'] w fun r w' => ∃ vx vy, r = .tuple #[vx, vy] ∧ RdB any w' vx x ∧ RdB any w' vy y ∧ Ext w w' := by
  refine call_walk Tryd.func132 (by kernel_rfl) rfl Tryd.ntmps132 rfl ?_
  obtain ⟨q, hqx, hqy, hne, hsame⟩ := firstDiff_pos hd
  have hla : (fromP a).length ≤ 257 := by
    unfold fromP; rw [fromL_len]
    simp only [mayB, Bool.and_eq_true, decide_eq_true_eq] at hma; omega
  have hlb : (fromP b).length ≤ 257 := by
    unfold fromP; rw [fromL_len]
    simp only [mayB, Bool.and_eq_true, decide_eq_true_eq] at hmb; omega
  have hqa := (List.getElem?_eq_some_iff.1 hqx).1
  have hqb := (List.getElem?_eq_some_iff.1 hqy).1
  refine St0 ?_
  refine GL.box (vs := pcells a u s) rfl rfl rfl rfl fun b2 w1 hb2 hB2 he1 => ?_
  refine GL.box (vs := pcells b u' s') rfl rfl rfl rfl fun b3 w2 hb3 hB3 he2 => ?_
  replace hB2 := hB2.ext he2
  have hE2 := he1.trans he2
  refine St0 ?_
  refine G.drawS 4 [0, 2, 1, 3] [1, 3] follows (by kernel_rfl) (by kernel_rfl) (by kernel_rfl) (by kernel_rfl) (by kernel_rfl) (by kernel_rfl) ?_
  refine SSt2 (hB2.all) (hB3.all) ?_
  refine GS.op rfl fun w3 he3 => ?_
  refine GL.call rfl rfl rfl (from0_call a u s hma hal S w3 (ha.ext (hE2.trans he3))) ?_
  rintro vl w4 ⟨hl, he4⟩
  refine GS.done he4 ?_
  refine GS.op rfl fun w5 he5 => ?_
  have hE5 := hE2.trans (he3.trans (he4.trans he5))
  refine GL.call rfl rfl rfl (from0_call b u' s' hmb hbl S' w5 (hb.ext hE5)) ?_
  rintro vm w6 ⟨hm, he6⟩
  refine GS.done he6 ?_
  refine GS.tail fun w7 he7 => ?_
  have hl7 := (hl.ext (he5.trans (he6.trans he7))).rd
  have hm7 := (hm.ext he7).rd
  have hE7 := hE5.trans (he6.trans he7)
  generalize fromP a = xs at *
  generalize fromP b = ys at *
  obtain ⟨pl, cl, rfl, hcl⟩ := hl7.isSlice
  obtain ⟨pm, cm, rfl, hcm⟩ := hm7.isSlice
  refine St0 ?_
  refine G.sub (f' := [(8, iv ((0 : Nat) : Int)), (6, .slice pl xs.length cl), (7, .slice pm ys.length cm)]) (by (repeat (first | exact Fr.sub_nil _ | refine Fr.sub_cons rfl ?_))) ?_
  refine G.rounds (α := Nat) (fun i f w' => i ≤ q ∧ Ext w7 w' ∧ f = [(8, iv i), (6, .slice pl xs.length cl), (7, .slice pm ys.length cm)]) (fun i => q - i) ?round 0 ⟨by omega, Ext.refl _, rfl⟩
  rintro i f w8 ⟨hi, he8, rfl⟩ again
  have hE8 := hE7.trans he8
  obtain ⟨xi, hxi⟩ : ∃ z, xs[i]? = some z := ⟨_, List.getElem?_eq_getElem (by omega)⟩
  obtain ⟨yi, hyi⟩ : ∃ z, ys[i]? = some z := ⟨_, List.getElem?_eq_getElem (by omega)⟩
  obtain ⟨bl, ol, cl', ul, hvl, hul, hAl⟩ := (hl7.ext he8).elem hxi
  obtain ⟨bm, om, cm', um, hvm, hum, hAm⟩ := (hm7.ext he8).elem hyi
  cases hvl
  cases hvm
  by_cases h1 : (i : Int) + 1 < xs.length
  · by_cases h2 : (i : Int) + 1 < ys.length
    · refine St0 ?_
      refine G.quiet follows (by kernel_rfl) ?_
      refine QSt0 ?_
      (refine GQ.indexSlice (i) 1 ((ol + i)) hT rfl rfl rfl rfl rfl rfl rfl rfl ?_ ?_ ?_ ?_; (focus omega); (focus omega); (focus omega))
      refine QSt1 (hAl) ?_
      (refine GQ.indexSlice (i) 1 ((om + i)) hT rfl rfl rfl rfl rfl rfl rfl rfl ?_ ?_ ?_ ?_; (focus omega); (focus omega); (focus omega))
      refine QSt1 (hAm) ?_
      refine GQ.call (v := .bool (decide (xi = yi))) rfl rfl rfl (fun w' he' => (same_call ul um xi yi _ _ w' (RdB.ext hul he') (RdB.ext hum he')).mono fun r w'' ⟨h1, h2⟩ => ⟨h1, by rw [h2]; exact Ext.refl _⟩) ?_
      by_cases hxy : xi = yi
      · rw [decide_eq_true hxy]
        refine QSt0 ?_
        refine GQ.nil fun w9 he9 => ?_
        have hiq : i ≠ q := fun e => by
          subst e
          rw [hqx] at hxi
          rw [hqy] at hyi
          cases hxi
          cases hyi
          exact hne hxy
        refine St0 ?_
        exact G.sub (by (repeat (first | exact Fr.sub_nil _ | refine Fr.sub_cons rfl ?_))) (again (i + 1) _ _ (by omega) ⟨by omega, he8.trans he9, rfl⟩)
      · rw [decide_eq_false hxy]
        refine QSt0 ?_
        refine GQ.nil fun w9 heW => ?_
        have hiq : i = q := by
          rcases Nat.lt_or_eq_of_le hi with h | h
          · have := hsame i h
            rw [hxi, hyi] at this
            exact absurd (Option.some.inj this) hxy
          · exact h
        refine St0 ?_
        refine G.quiet follows (by kernel_rfl) ?_
        refine QSt0 ?_
        (refine GQ.indexSlice (i) 1 ((ol + i)) hT rfl rfl rfl rfl rfl rfl rfl rfl ?_ ?_ ?_ ?_; (focus omega); (focus omega); (focus omega))
        refine QSt1 (hAl.ext heW) ?_
        (refine GQ.indexSlice (i) 1 ((om + i)) hT rfl rfl rfl rfl rfl rfl rfl rfl ?_ ?_ ?_ ?_; (focus omega); (focus omega); (focus omega))
        refine QSt1 (hAm.ext heW) ?_
        refine GQ.nil fun wz hez => ?_
        subst hiq
        rw [hqx] at hxi
        rw [hqy] at hyi
        cases hxi
        cases hyi
        have hx := heW.trans hez
        exact G.ret2 rfl rfl rfl rfl rfl ⟨ul, um, rfl, (hul.ext hx).imp fun _ _ _ => trivial, (hum.ext hx).imp fun _ _ _ => trivial, hE8.trans hx⟩
    · refine St0 ?_
      refine G.quiet follows (by kernel_rfl) ?_
      refine QSt0 ?_
      refine GQ.nil fun w9 heW => ?_
      have hiq : i = q := by omega
      refine St0 ?_
      refine G.quiet follows (by kernel_rfl) ?_
      refine QSt0 ?_
      (refine GQ.indexSlice (i) 1 ((ol + i)) hT rfl rfl rfl rfl rfl rfl rfl rfl ?_ ?_ ?_ ?_; (focus omega); (focus omega); (focus omega))
      refine QSt1 (hAl.ext heW) ?_
      (refine GQ.indexSlice (i) 1 ((om + i)) hT rfl rfl rfl rfl rfl rfl rfl rfl ?_ ?_ ?_ ?_; (focus omega); (focus omega); (focus omega))
      refine QSt1 (hAm.ext heW) ?_
      refine GQ.nil fun wz hez => ?_
      subst hiq
      rw [hqx] at hxi
      rw [hqy] at hyi
      cases hxi
      cases hyi
      have hx := heW.trans hez
      exact G.ret2 rfl rfl rfl rfl rfl ⟨ul, um, rfl, (hul.ext hx).imp fun _ _ _ => trivial, (hum.ext hx).imp fun _ _ _ => trivial, hE8.trans hx⟩
  · refine St0 ?_
    refine G.quiet follows (by kernel_rfl) ?_
    refine QSt0 ?_
    refine GQ.nil fun w9 heW => ?_
    have hiq : i = q := by omega
    refine St0 ?_
    refine G.quiet follows (by kernel_rfl) ?_
    refine QSt0 ?_
    (refine GQ.indexSlice (i) 1 ((ol + i)) hT rfl rfl rfl rfl rfl rfl rfl rfl ?_ ?_ ?_ ?_; (focus omega); (focus omega); (focus omega))
    refine QSt1 (hAl.ext heW) ?_
    (refine GQ.indexSlice (i) 1 ((om + i)) hT rfl rfl rfl rfl rfl rfl rfl rfl ?_ ?_ ?_ ?_; (focus omega); (focus omega); (focus omega))
    refine QSt1 (hAm.ext heW) ?_
    refine GQ.nil fun wz hez => ?_
    subst hiq
    rw [hqx] at hxi
    rw [hqy] at hyi
    cases hxi
    cases hyi
    have hx := heW.trans hez
    exact G.ret2 rfl rfl rfl rfl rfl ⟨ul, um, rfl, (hul.ext hx).imp fun _ _ _ => trivial, (hum.ext hx).imp fun _ _ _ => trivial, hE8.trans hx⟩
theorem seekR_bad {a b : Prf} (h : (mayB a && mayB b) = false) : seekR a b = ([], [], 8) := by unfold seekR; rw [h]; rfl
theorem seekR_like {a b : Prf} (h : (mayB a && mayB b) = true) (h2 : (decide (a.key = b.key) && unlikeB a b) = false) : seekR a b = ([], [], 2) := by unfold seekR; rw [h, h2]; rfl
theorem seekR_ok {a b : Prf} {x y : Bytes} (h : (mayB a && mayB b) = true) (h2 : (decide (a.key = b.key) && unlikeB a b) = true) (h3 : firstDiff (fromP a) (fromP b) = some (x, y)) : seekR a b = (x, y, 0) := by unfold seekR; rw [h, h2, h3]; rfl
theorem rdNil (w : World) : RdB any w (.slice none 0 0) [] := RdF.nil _ _ _ _
theorem refSeek_call (a b : Prf) (u s u' s' : Value) (S S' : Where) (w : World) (ha : PrfM S w a u s) (hb : PrfM S' w b u' s') (hal : a.val.length ≤ 1000) (hbl : b.val.length ≤ 1000) :
    Does Tryd.prog 81 #[prv a u s, prv b u' s'] w fun r w' => ∃ vx vy, r = .tuple #[vx, vy, iv (seekR a b).2.2] ∧ RdB any w' vx (seekR a b).1 ∧ RdB any w' vy (seekR a b).2.1 ∧ Ext w w' := by
  refine call_walk Tryd.func81 (by kernel_rfl) rfl Tryd.ntmps81 rfl ?_
  refine St0 ?_
  refine GL.box (vs := pcells a u s) rfl rfl rfl rfl fun b2 w1 hb2 hB2 he1 => ?_
  refine GL.box (vs := pcells b u' s') rfl rfl rfl rfl fun b3 w2 hb3 hB3 he2 => ?_
  replace hB2 := hB2.ext he2
  have hE2 := he1.trans he2
  refine St1 (hB2.all) ?_
  refine GL.call rfl rfl rfl (refMay_call a u s S w2 (ha.ext hE2)) ?_
  rintro _ w3 ⟨rfl, he3⟩
  replace hB2 := hB2.ext he3
  replace hB3 := hB3.ext he3
  have hE3 := hE2.trans he3
  cases hma : mayB a
  · rw [seekR_bad (by rw [hma]; rfl)]
    refine St0 ?_
    exact G.ret3 rfl rfl rfl rfl rfl rfl ⟨_, _, rfl, rdNil _, rdNil _, hE3⟩
  refine St1 (hB3.all) ?_
  refine GL.call rfl rfl rfl (refMay_call b u' s' S' w3 (hb.ext hE3)) ?_
  rintro _ w4 ⟨rfl, he4⟩
  replace hB2 := hB2.ext he4
  replace hB3 := hB3.ext he4
  have hE4 := hE3.trans he4
  cases hmb : mayB b
  · rw [seekR_bad (by rw [hmb, Bool.and_false])]
    refine St0 ?_
    exact G.ret3 rfl rfl rfl rfl rfl rfl ⟨_, _, rfl, rdNil _, rdNil _, hE4⟩
  have hmm : (mayB a && mayB b) = true := by rw [hma, hmb]; rfl
  refine St2 (hB2.all) (hB3.all) ?_
  refine GL.call rfl rfl rfl (refUnlike_call a b u s u' s' S S' w4 (ha.ext hE4) (hb.ext hE4) hal hbl) ?_
  rintro _ w5 ⟨rfl, he5⟩
  replace hB2 := hB2.ext he5
  replace hB3 := hB3.ext he5
  have hE5 := hE4.trans he5
  cases hun : (decide (a.key = b.key) && unlikeB a b)
  · rw [seekR_like hmm hun]
    refine St0 ?_
    exact G.ret3 rfl rfl rfl rfl rfl rfl ⟨_, _, rfl, rdNil _, rdNil _, hE5⟩
  have hun2 := hun
  simp only [Bool.and_eq_true, decide_eq_true_eq] at hun2
  obtain ⟨x, y, hfd, _, _⟩ := seek_law hma hmb hun2.1 hun2.2
  rw [seekR_ok hmm hun hfd]
  refine St2 (hB2.all) (hB3.all) ?_
  refine GL.call rfl rfl rfl (refFirst_call a b x y u s u' s' S S' w5 (ha.ext hE5) (hb.ext hE5) hal hbl hma hmb hfd) ?_
  rintro _ w6 ⟨vx, vy, rfl, hx, hy, he6⟩
  refine St0 ?_
  exact G.ret3 rfl rfl rfl rfl rfl rfl ⟨vx, vy, rfl, hx, hy, hE5.trans he6⟩
/-- First unlike inputs of a tree's own proof and a proof. -/
noncomputable def ofR (ns : List Node) (r : Int) (p : Prf) : Bytes × Bytes × Nat :=
  if treeB ns r && mayB p then (if fitsB p (rootAt 0 (allT ns r)) && (decide ((proofN ns r p.key).key = p.key) && unlikeB (proofN ns r p.key) p) then seekR (proofN ns r p.key) p else ([], [], 6)) else ([], [], 8)
theorem clashOf_call (v : Value) (r : Int) (ns : List Node) (p : Prf) (u s : Value) (S S' : Where) (w : World) (h : RdN S w v ns) (hp : PrfM S' w p u s) (hpl : p.val.length ≤ 1000) (hps : p.sides.length ≤ 300) (hK : Kt w) :
    Does Tryd.prog 82 #[tv v r, prv p u s] w fun q w' => ∃ vx vy, q = .tuple #[vx, vy, iv (ofR ns r p).2.2] ∧ RdB any w' vx (ofR ns r p).1 ∧ RdB any w' vy (ofR ns r p).2.1 ∧ Ext w w' := by
  refine call_walk Tryd.func82 (by kernel_rfl) rfl Tryd.ntmps82 rfl ?_
  obtain ⟨pp, c, rfl, hc⟩ := h.isSlice
  refine St0 ?_
  refine GL.box (vs := [.slice pp ns.length c, iv r]) rfl rfl rfl rfl fun b2 w1 hb2 hB2 he1 => ?_
  refine GL.box (vs := pcells p u s) rfl rfl rfl rfl fun b3 w2 hb3 hB3 he2 => ?_
  replace hB2 := hB2.ext he2
  have hE2 := he1.trans he2
  refine St2 (hB2.all) ((pat hB3.all).1) ?_
  refine GL.call rfl rfl rfl (make7_call _ r ns p.key S w2 (h.ext hE2) (hK.ext hE2)) ?_
  rintro _ w3 ⟨uo, so, rfl, huo, hso, he3⟩
  replace hB2 := hB2.ext he3
  replace hB3 := hB3.ext he3
  have hE3 := hE2.trans he3
  refine St0 ?_
  refine GL.alloc hT rfl rfl rfl fun b7 w4 hb7 hB7 he4 => ?_
  refine St0 ?_
  refine GL.storeVar hT rfl rfl rfl rfl rfl (pcells_len _ _ _) (pcells_one _ (RdF.one (Own.fresh huo)) (RdF.one (Own.fresh hso))) hB7 (by rw [pcells_len]; decide) fun w5 hc5 hB7 => ?_
  have hE35 : Ext w3 w5 := hc5.below (by omega) he4
  replace hB2 := hB2.ext hE35
  replace hB3 := hB3.ext hE35
  replace huo := huo.ext hE35
  replace hso := hso.ext hE35
  have hE5 := hE3.trans hE35
  obtain ⟨hol, hosl⟩ := proofN_small ns r p.key
  cases hok : treeB ns r
  · have e0 : badE false = 8 := rfl
    have e1 : ofR ns r p = ([], [], 8) := by unfold ofR; rw [hok]; rfl
    rw [e0, e1]
    refine St0 ?_
    exact G.ret3 rfl rfl rfl rfl rfl rfl ⟨_, _, rfl, rdNil _, rdNil _, hE5⟩
  have e0 : badE true = 0 := rfl
  rw [e0]
  refine St1 (hB3.all) ?_
  refine GL.call rfl rfl rfl (check_call p u s S' w5 (hp.ext hE5)) ?_
  rintro _ w6 ⟨rfl, he6⟩
  replace hB2 := hB2.ext he6
  replace hB3 := hB3.ext he6
  replace hB7 := hB7.ext he6
  replace huo := huo.ext he6
  replace hso := hso.ext he6
  have hE6 := hE5.trans he6
  cases hmp : mayB p
  · have e0 : badE false = 8 := rfl
    have e1 : ofR ns r p = ([], [], 8) := by unfold ofR; rw [hmp, Bool.and_false]; rfl
    rw [e0, e1]
    refine St0 ?_
    exact G.ret3 rfl rfl rfl rfl rfl rfl ⟨_, _, rfl, rdNil _, rdNil _, hE6⟩
  rw [e0]
  refine St1 (hB2.all) ?_
  refine GL.call rfl rfl rfl (tsum6_call _ r ns S w6 (h.ext hE6) (hK.ext hE6)) ?_
  rintro _ w7 ⟨rfl, he7⟩
  replace hB2 := hB2.ext he7
  replace hB3 := hB3.ext he7
  replace hB7 := hB7.ext he7
  replace huo := huo.ext he7
  replace hso := hso.ext he7
  have hE7 := hE6.trans he7
  have e2 : sumN ns r = rootAt 0 (allT ns r) := by unfold sumN; rw [hok]; rfl
  rw [e2]
  refine St0 ?_
  refine GL.alloc hT rfl rfl rfl fun b8 w8 hb8 hB8 he8 => ?_
  refine St0 ?_
  refine GL.storeVar hT rfl rfl rfl rfl rfl (Dig.len _) (Dig.one _) hB8 (by rw [Dig.len]; decide) fun w9 hc9 hB8 => ?_
  have hE79 : Ext w7 w9 := hc9.below (by omega) he8
  replace hB2 := hB2.ext hE79
  replace hB3 := hB3.ext hE79
  replace hB7 := hB7.ext hE79
  replace huo := huo.ext hE79
  replace hso := hso.ext hE79
  have hE9 := hE7.trans hE79
  refine St2 (hB3.all) (hB8.all) ?_
  refine GL.call rfl rfl rfl (vfits_call p (rootAt 0 (allT ns r)) u s S' w9 (hp.ext hE9) hpl hps (hK.ext hE9)) ?_
  rintro _ wa ⟨rfl, hea⟩
  replace hB2 := hB2.ext hea
  replace hB3 := hB3.ext hea
  replace hB7 := hB7.ext hea
  replace huo := huo.ext hea
  replace hso := hso.ext hea
  have hEa := hE9.trans hea
  have e3 : ofR ns r p = (if fitsB p (rootAt 0 (allT ns r)) && (decide ((proofN ns r p.key).key = p.key) && unlikeB (proofN ns r p.key) p) then seekR (proofN ns r p.key) p else ([], [], 6)) := by unfold ofR; rw [hok, hmp]; rfl
  rw [e3]
  cases hf : fitsB p (rootAt 0 (allT ns r))
  · refine St0 ?_
    exact G.ret3 rfl rfl rfl rfl rfl rfl ⟨_, _, rfl, rdNil _, rdNil _, hEa⟩
  refine St2 (hB7.all) (hB3.all) ?_
  refine GL.call rfl rfl rfl (cunlike_call (proofN ns r p.key) p uo so u s _ S' wa ⟨(Own.fresh huo), (Own.fresh hso)⟩ (hp.ext hEa) (by omega) hpl) ?_
  rintro _ wb ⟨rfl, heb⟩
  replace hB3 := hB3.ext heb
  replace hB7 := hB7.ext heb
  replace huo := huo.ext heb
  replace hso := hso.ext heb
  have hEb := hEa.trans heb
  cases hun : (decide ((proofN ns r p.key).key = p.key) && unlikeB (proofN ns r p.key) p)
  · refine St0 ?_
    exact G.ret3 rfl rfl rfl rfl rfl rfl ⟨_, _, rfl, rdNil _, rdNil _, hEb⟩
  refine St2 (hB7.all) (hB3.all) ?_
  refine GL.call rfl rfl rfl (seek_call (proofN ns r p.key) p uo so u s _ S' wb ⟨(Own.fresh huo), (Own.fresh hso)⟩ (hp.ext hEb) (by omega) hpl (by omega) hps (hK.ext hEb)) ?_
  rintro _ wc ⟨vx, vy, rfl, hx, hy, hec⟩
  refine St0 ?_
  exact G.ret3 rfl rfl rfl rfl rfl rfl ⟨vx, vy, rfl, hx, hy, hEb.trans hec⟩
end Go.Proofs.YtefneilaongpbaaDoor
/-
  First unlike inputs: the document's of a tree and a proof; the laws ClashTells and ClashShows.
-/
set_option linter.unusedVariables false
set_option linter.unusedSimpArgs false
set_option maxRecDepth 100000
set_option maxHeartbeats 8000000
namespace Go.Proofs.YtefneilaongpbaaDoor
open Go Go.Bd Go.RowKit
attribute [local irreducible] G GL GQ GS shaD

theorem refOf9_call (v : Value) (r : Int) (ns : List Node) (p : Prf) (u s : Value) (S S' : Where) (w : World) (h : RdN S w v ns) (hp : PrfM S' w p u s) (hpl : p.val.length ≤ 1000) :
    Does Tryd.prog 83 #[tv v r, prv p u s] w fun q w' => ∃ vx vy, q = .tuple #[vx, vy, iv (ofR ns r p).2.2] ∧ RdB any w' vx (ofR ns r p).1 ∧ RdB any w' vy (ofR ns r p).2.1 ∧ Ext w w' := by
  refine call_walk Tryd.func83 (by kernel_rfl) rfl Tryd.ntmps83 rfl ?_
  obtain ⟨pp, c, rfl, hc⟩ := h.isSlice
  refine St0 ?_
  refine GL.box (vs := [.slice pp ns.length c, iv r]) rfl rfl rfl rfl fun b2 w1 hb2 hB2 he1 => ?_
  refine GL.box (vs := pcells p u s) rfl rfl rfl rfl fun b3 w2 hb3 hB3 he2 => ?_
  replace hB2 := hB2.ext he2
  have hE2 := he1.trans he2
  refine St1 (hB2.all) ?_
  refine GL.call rfl rfl rfl (refMay6_call ns _ r S w2 (h.ext hE2)) ?_
  rintro _ w3 ⟨rfl, he3⟩
  replace hB2 := hB2.ext he3
  replace hB3 := hB3.ext he3
  have hE3 := hE2.trans he3
  cases hok : treeB ns r
  · have e1 : ofR ns r p = ([], [], 8) := by unfold ofR; rw [hok]; rfl
    rw [e1]
    refine St0 ?_
    exact G.ret3 rfl rfl rfl rfl rfl rfl ⟨_, _, rfl, rdNil _, rdNil _, hE3⟩
  refine St1 (hB3.all) ?_
  refine GL.call rfl rfl rfl (refMay_call p u s S' w3 (hp.ext hE3)) ?_
  rintro _ w4 ⟨rfl, he4⟩
  replace hB2 := hB2.ext he4
  replace hB3 := hB3.ext he4
  have hE4 := hE3.trans he4
  cases hmp : mayB p
  · have e1 : ofR ns r p = ([], [], 8) := by unfold ofR; rw [hmp, Bool.and_false]; rfl
    rw [e1]
    refine St0 ?_
    exact G.ret3 rfl rfl rfl rfl rfl rfl ⟨_, _, rfl, rdNil _, rdNil _, hE4⟩
  have hT' := treeB_iff.1 hok
  have hfew := hT'.few
  have hall := hT'.len
  obtain ⟨hol, hosl⟩ := proofN_small ns r p.key
  refine St2 (hB2.all) ((pat hB3.all).1) ?_
  refine GL.call rfl rfl rfl (refOf7_call _ r ns p.key S w4 (h.ext hE4) hT') ?_
  rintro _ w5 ⟨uo, so, rfl, huo, hso, he5⟩
  replace hB2 := hB2.ext he5
  replace hB3 := hB3.ext he5
  have hE5 := hE4.trans he5
  refine St0 ?_
  refine GL.alloc hT rfl rfl rfl fun b7 w6 hb7 hB7 he6 => ?_
  refine St0 ?_
  refine GL.storeVar hT rfl rfl rfl rfl rfl (pcells_len _ _ _) (pcells_one _ (RdF.one (Own.fresh huo)) (RdF.one (Own.fresh hso))) hB7 (by rw [pcells_len]; decide) fun w7 hc7 hB7 => ?_
  have hE57 : Ext w5 w7 := hc7.below (by omega) he6
  replace hB2 := hB2.ext hE57
  replace hB3 := hB3.ext hE57
  replace huo := huo.ext hE57
  replace hso := hso.ext hE57
  have hE7 := hE5.trans hE57
  have e3 : ofR ns r p = (if fitsB p (rootAt 0 (allT ns r)) && (decide ((proofN ns r p.key).key = p.key) && unlikeB (proofN ns r p.key) p) then seekR (proofN ns r p.key) p else ([], [], 6)) := by unfold ofR; rw [hok, hmp]; rfl
  rw [e3]
  refine St0 ?_
  refine G.drawS 12 [0, 1, 2, 3, 4, 5, 6, 7, 8, 9, 10, 11] [2] follows (by kernel_rfl) (by kernel_rfl) (by kernel_rfl) (by kernel_rfl) (by kernel_rfl) (by kernel_rfl) ?_
  refine SSt2 (hB3.all) (hB2.all) ?_
  refine GS.op rfl fun w8 he8 => ?_
  refine GL.call rfl rfl rfl (refAll6_call ns _ r S w8 hT' (h.ext (hE7.trans he8))) ?_
  rintro vp w9 ⟨hop, he9⟩
  refine GS.done he9 ?_
  have hE9 := hE7.trans (he8.trans he9)
  refine GS.call rfl rfl rfl (fun w' he' => refOf_call 256 0 vp (allT ns r) _ w' rfl (by omega) (hop.ext he').rd (hT'.all.under zb0) (by omega) (fun y hy => by have := valB_le (hT'.valid y hy); omega)) ?_
  refine GS.call rfl rfl rfl (fun w' he' => refFits_call p (rootAt 0 (allT ns r)) u s S' w' (hp.ext (hE9.trans he')) hpl) ?_
  cases hf : fitsB p (rootAt 0 (allT ns r))
  · refine SSt0 ?_
    refine GS.tail fun wa hea => ?_
    refine St0 ?_
    exact G.ret3 rfl rfl rfl rfl rfl rfl ⟨_, _, rfl, rdNil _, rdNil _, hE9.trans hea⟩
  refine SSt2 ((hB7.ext (he8.trans he9)).all) ((hB3.ext (he8.trans he9)).all) ?_
  refine GS.call rfl rfl rfl (fun w' he' => refUnlike_call (proofN ns r p.key) p uo so u s _ S' w' ⟨(Own.ext huo ((he8.trans he9).trans he')).fresh, (Own.ext hso ((he8.trans he9).trans he')).fresh⟩ (hp.ext (hE9.trans he')) (by omega) hpl) ?_
  cases hun : (decide ((proofN ns r p.key).key = p.key) && unlikeB (proofN ns r p.key) p)
  · refine SSt0 ?_
    refine GS.tail fun wa hea => ?_
    refine St0 ?_
    exact G.ret3 rfl rfl rfl rfl rfl rfl ⟨_, _, rfl, rdNil _, rdNil _, hE9.trans hea⟩
  refine SSt0 ?_
  refine GS.tail fun wa hea => ?_
  have hEa := hE9.trans hea
  have x7a := he8.trans (he9.trans hea)
  have hmo := made_may hT' p.key
  have hmm : (mayB (proofN ns r p.key) && mayB p) = true := by rw [hmo, hmp]; rfl
  have hun2 := hun
  simp only [Bool.and_eq_true, decide_eq_true_eq] at hun2
  obtain ⟨x, y, hfd, _, _⟩ := seek_law hmo hmp hun2.1 hun2.2
  rw [show (true && true) = true from rfl, if_pos rfl, seekR_ok hmm hun hfd]
  refine St2 ((hB7.ext x7a).all) ((hB3.ext x7a).all) ?_
  refine GL.call rfl rfl rfl (refFirst_call (proofN ns r p.key) p x y uo so u s _ S' wa ⟨(Own.ext huo x7a).fresh, (Own.ext hso x7a).fresh⟩ (hp.ext hEa) (by omega) hpl hmo hmp hfd) ?_
  rintro _ wb ⟨vx, vy, rfl, hx, hy, heb⟩
  refine St0 ?_
  exact G.ret3 rfl rfl rfl rfl rfl rfl ⟨vx, vy, rfl, hx, hy, hEa.trans heb⟩
end Go.Proofs.YtefneilaongpbaaDoor
