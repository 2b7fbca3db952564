/-
  pairs.Check.
-/
import Derived.Test.YtefneilaongpbaaDoorPrf1
import Derived.Test.YtefneilaongpbaaDoorBits1
set_option linter.unusedVariables false
set_option maxRecDepth 100000
set_option maxHeartbeats 4000000
namespace Go.Proofs.YtefneilaongpbaaDoor
open Go Go.Bd Go.RowKit
attribute [local irreducible] G GL GQ

/-- Pairs are a map. -/
structure MapOk (ps : List Pair) : Prop where
  few : ps.length ≤ 512
  val : ∀ (i : Nat) (x : Pair), ps[i]? = some x → valB x.val.length = true
  sorted : ∀ (i : Nat) (x y : Pair), ps[i]? = some x → ps[i + 1]? = some y → x.key.num < y.key.num
noncomputable def mapB (ps : List Pair) : Bool := @decide (MapOk ps) (Classical.propDecidable _)
theorem mapB_t {ps : List Pair} (h : MapOk ps) : mapB ps = true := by simp [mapB, h]
theorem mapB_f {ps : List Pair} (h : ¬ MapOk ps) : mapB ps = false := by simp [mapB, h]
theorem mapB_iff {ps : List Pair} : mapB ps = true ↔ MapOk ps := by simp [mapB]
/-- No error, or 'bad'. -/
def badE (ok : Bool) : Int := if ok then 0 else 8

theorem RdP.isSlice {S : Where} {w : World} {v : Value} {ps : List Pair} (h : RdP S w v ps) : ∃ p c, v = .slice p ps.length c ∧ ps.length ≤ c := by
  obtain ⟨es, _, h⟩ := h
  exact h.isSlice
/-- Pair i of a slice. -/
theorem RdP.elem {S : Where} {w : World} {v : Value} {ps : List Pair} (h : RdP S w v ps) {i : Nat} {x : Pair} (hx : ps[i]? = some x) :
    ∃ b o c u, v = .slice (some ⟨b, o, none⟩) ps.length c ∧ RdB S w u x.val ∧ At S w b (o + i * 33) (x.key.cells ++ [u]) := by
  obtain ⟨b, o, c, e, hv, ⟨u, rfl, hu⟩, hA⟩ := RdL.elem 33 pairC_len h hx (by omega)
  exact ⟨b, o, c, u, hv, hu, hA⟩
theorem pairAt {S : Where} {w : World} {b o : Nat} {k : Dig} {u : Value} (h : At S w b o (k.cells ++ [u])) : At S w b o k.cells ∧ At S w b (o + 32) [u] :=
  ⟨h.sub [] k.cells (q := [u]) rfl rfl, h.sub k.cells [u] (q := []) (by simp) (by rw [k.len])⟩
theorem pairOne {k : Dig} {u : Value} (hu : u.oneCell' = true) : ∀ c ∈ k.cells ++ [u], c.oneCell' = true := by
  intro c hc
  rcases List.mem_append.1 hc with h | h
  · exact k.one _ h
  · simp at h; subst h; exact hu

theorem pcheck_call (v : Value) (ps : List Pair) (S : Where) (w : World) (h : RdP S w v ps) :
    Does Tryd.prog 76 #[v] w fun r w' => r = iv (badE (mapB ps)) ∧ Ext w w' := by
  refine call_walk Tryd.func76 (by kernel_rfl) rfl Tryd.ntmps76 rfl ?_
  obtain ⟨p, c, rfl, hc⟩ := h.isSlice
  by_cases h512 : (ps.length : Int) > 512
  · refine St0 ?_
    exact G.ret1 rfl rfl rfl rfl ⟨by rw [mapB_f fun h => by have := h.few; omega]; rfl, Ext.refl w⟩
  refine St0 ?_
  refine G.sub (f' := [(10, iv ((0 : Nat) : Int)), (8, .slice p ps.length c), (9, iv (ps.length : Nat)), (0, .slice p ps.length c)]) (by (repeat (first | exact Fr.sub_nil _ | refine Fr.sub_cons rfl ?_))) ?_
  refine G.rounds (α := Nat) (fun j f w' => j ≤ ps.length ∧ Ext w w' ∧ (∀ i x, i < j → ps[i]? = some x → valB x.val.length = true) ∧ (∀ i x y, i + 1 < j → ps[i]? = some x → ps[i + 1]? = some y → x.key.num < y.key.num) ∧
    f = [(10, iv j), (8, .slice p ps.length c), (9, iv (ps.length : Nat)), (0, .slice p ps.length c)]) (fun j => ps.length - j) ?round 0 ⟨by omega, Ext.refl w, fun i x hi => by omega, fun i x y hi => by omega, rfl⟩
  rintro j f w1 ⟨hj, he1, hval, hsort, rfl⟩ again
  by_cases hlt : (j : Int) < ps.length
  · obtain ⟨x, hx⟩ : ∃ x, ps[j]? = some x := ⟨_, List.getElem?_eq_getElem (by omega)⟩
    obtain ⟨b, o, c', u, hv, hu, hA⟩ := (h.ext he1).elem hx
    cases hv
    obtain ⟨pu, cu, rfl, hcu⟩ := RdF.isSlice hu
    refine St0 ?_
    (refine GL.indexSlice (j) 33 ((o + j * 33)) hT rfl rfl rfl rfl rfl rfl rfl rfl ?_ ?_ ?_ ?_; (focus omega); (focus omega); (focus omega))
    refine GL.loadN hT rfl rfl rfl rfl rfl hA (by simp [Dig.len]; rfl) ?_
    refine GL.alloc hT rfl rfl rfl fun b4 w2 hb4 hB4 he2 => ?_
    refine St0 ?_
    refine GL.storeVar hT rfl rfl rfl rfl rfl (by simp [Dig.len]; rfl) (pairOne rfl) hB4 (by simp [Dig.len]; rfl) fun w3 hc3 hB4 => ?_
    refine St0 ?_
    have he3 : Ext w w3 := hc3.below (by have := he1.size; omega) (he1.trans he2)
    have hP := pairAt hB4.all
    by_cases hok : valB x.val.length = true
    · by_cases hj0 : (j : Int) > 0
      · obtain ⟨y, hy⟩ : ∃ y, ps[j - 1]? = some y := ⟨_, List.getElem?_eq_getElem (by omega)⟩
        obtain ⟨b', o', c'', u', hv', hu', hA'⟩ := (h.ext he3).elem hy
        cases hv'
        by_cases hah : aheadB y.key x.key = true
        · refine G.quiet follows (by kernel_rfl) ?_
          refine QSt1 (hP.2) ?_
          refine GQ.call rfl rfl rfl (fun w' he' => (value_call _ _ _ w').mono fun v w'' ⟨h1, h2⟩ => ⟨h1, by rw [h2]; exact Ext.refl _⟩) ?_
          rw [hok]
          refine QSt0 ?_
          (refine GQ.indexSlice ((j - 1)) 33 ((o + (j - 1) * 33)) hT rfl rfl rfl rfl rfl rfl rfl rfl ?_ ?_ ?_ ?_; (focus omega); (focus omega); (focus omega))
          refine QSt2 (hP.1) ((pairAt hA').1) ?_
          refine GQ.call rfl rfl rfl (fun w' he' => ahead_call y.key x.key w') ?_
          rw [hah]
          refine QSt0 ?_
          refine GQ.nil fun w4 he4 => ?_
          refine St0 ?_
          refine G.sub (by (repeat (first | exact Fr.sub_nil _ | refine Fr.sub_cons rfl ?_))) (again (j + 1) _ _ (by omega) ⟨by omega, he3.trans he4, ?_, ?_, rfl⟩)
          · intro i z hi hz
            rcases Nat.lt_or_eq_of_le (Nat.lt_succ_iff.1 hi) with h1 | h1
            · exact hval i z h1 hz
            · subst h1; rw [hx] at hz; cases hz; exact hok
          · intro i z z' hi hz hz'
            rcases Nat.lt_or_eq_of_le (Nat.lt_succ_iff.1 hi) with h1 | h1
            · exact hsort i z z' h1 hz hz'
            · have : i = j - 1 := by omega
              subst this
              rw [hy] at hz; cases hz
              rw [show j - 1 + 1 = j by omega, hx] at hz'; cases hz'
              simpa [aheadB] using hah
        · refine G.quiet follows (by kernel_rfl) ?_
          refine QSt1 (hP.2) ?_
          refine GQ.call rfl rfl rfl (fun w' he' => (value_call _ _ _ w').mono fun v w'' ⟨h1, h2⟩ => ⟨h1, by rw [h2]; exact Ext.refl _⟩) ?_
          rw [hok]
          refine QSt0 ?_
          (refine GQ.indexSlice ((j - 1)) 33 ((o + (j - 1) * 33)) hT rfl rfl rfl rfl rfl rfl rfl rfl ?_ ?_ ?_ ?_; (focus omega); (focus omega); (focus omega))
          refine QSt2 (hP.1) ((pairAt hA').1) ?_
          refine GQ.call rfl rfl rfl (fun w' he' => ahead_call y.key x.key w') ?_
          rw [Bool.not_eq_true] at hah
          rw [hah]
          refine QSt0 ?_
          refine GQ.nil fun w4 he4 => ?_
          refine St0 ?_
          refine G.ret1 rfl rfl rfl rfl ⟨?_, he3.trans he4⟩
          rw [mapB_f fun hm => ?_]
          · rfl
          · have := hm.sorted (j - 1) y x hy (by rw [show j - 1 + 1 = j by omega]; exact hx)
            simp [aheadB] at hah
            omega
      · refine G.quiet follows (by kernel_rfl) ?_
        refine QSt1 (hP.2) ?_
        refine GQ.call rfl rfl rfl (fun w' he' => (value_call _ _ _ w').mono fun v w'' ⟨h1, h2⟩ => ⟨h1, by rw [h2]; exact Ext.refl _⟩) ?_
        rw [hok]
        refine QSt0 ?_
        refine GQ.nil fun w4 he4 => ?_
        refine St0 ?_
        refine G.sub (by (repeat (first | exact Fr.sub_nil _ | refine Fr.sub_cons rfl ?_))) (again (j + 1) _ _ (by omega) ⟨by omega, he3.trans he4, ?_, fun i z z' hi => by omega, rfl⟩)
        intro i z hi hz
        rcases Nat.lt_or_eq_of_le (Nat.lt_succ_iff.1 hi) with h1 | h1
        · exact hval i z h1 hz
        · subst h1; rw [hx] at hz; cases hz; exact hok
    · refine G.quiet follows (by kernel_rfl) ?_
      refine QSt1 (hP.2) ?_
      refine GQ.call rfl rfl rfl (fun w' he' => (value_call _ _ _ w').mono fun v w'' ⟨h1, h2⟩ => ⟨h1, by rw [h2]; exact Ext.refl _⟩) ?_
      rw [Bool.not_eq_true] at hok
      rw [hok]
      refine QSt0 ?_
      refine GQ.nil fun w4 he4 => ?_
      refine St0 ?_
      refine G.ret1 rfl rfl rfl rfl ⟨?_, he3.trans he4⟩
      rw [mapB_f fun hm => ?_]
      · rfl
      · have := hm.val j x hx
        rw [hok] at this
        cases this
  · refine St0 ?_
    refine G.ret1 rfl rfl rfl rfl ⟨?_, he1⟩
    rw [mapB_t ⟨by omega, fun i x hx => hval i x (by have := (List.getElem?_eq_some_iff.1 hx).1; omega) hx, fun i x y hx hy => hsort i x y (by have := (List.getElem?_eq_some_iff.1 hy).1; omega) hx hy⟩]
    rfl
end Go.Proofs.YtefneilaongpbaaDoor
