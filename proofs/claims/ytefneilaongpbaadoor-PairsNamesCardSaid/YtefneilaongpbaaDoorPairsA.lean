import Derived.Test.YtefneilaongpbaaDoorBits1
import Derived.Test.YtefneilaongpbaaDoorPrf
import Derived.Test.YtefneilaongpbaaDoorPrf1

/-
  Pairs: the document's order, May, Check, Find, Great; half and find.
-/
set_option linter.unusedVariables false
set_option linter.unusedSimpArgs false
set_option maxRecDepth 100000
set_option maxHeartbeats 4000000
namespace Go.Proofs.YtefneilaongpbaaDoor
open Go Go.Bd Go.RowKit
attribute [local irreducible] G GL GQ

theorem refAhead_call (a b : Dig) (w : World) : Does Tryd.prog 136 #[dv a, dv b] w fun v w' => v = .bool (aheadB a b) ∧ Ext w w' := by
  refine call_walk Tryd.func136 (by kernel_rfl) rfl Tryd.ntmps136 rfl ?_
  rw [ahead_shared]
  refine St0 ?_
  refine GL.box rfl rfl rfl rfl fun b2 w1 hb2 hB2 he1 => ?_
  refine GL.box rfl rfl rfl rfl fun b3 w2 hb3 hB3 he2 => ?_
  replace hB2 := hB2.ext he2
  refine St2 (hB2.all) (hB3.all) ?_
  refine GL.call rfl rfl rfl (refShared_call a b w2) ?_
  rintro r w3 ⟨rfl, he3⟩
  replace hB2 := hB2.ext he3
  replace hB3 := hB3.ext he3
  have he := (he1.trans he2).trans he3
  refine St0 ?_
  refine G.quietTail 11 follows (by kernel_rfl) (by kernel_rfl) (by kernel_rfl) (by kernel_rfl) ?_
  refine QSt0 ?_
  by_cases h : ((sharedB a b : Nat) : Int) < 256
  · refine QSt1 (hB2.all) ?_
    refine GQ.call rfl rfl rfl (fun w' he' => refAt_call a (sharedB a b) (by omega) w') ?_
    refine QSt1 (hB3.all) ?_
    refine GQ.call rfl rfl rfl (fun w' he' => refAt_call b (sharedB a b) (by omega) w') ?_
    by_cases h2 : ((a.bit (sharedB a b) : Nat) : Int) < (b.bit (sharedB a b) : Nat)
    · refine QSt0 ?_
      refine GQ.tail fun w4 he4 => ?_
      refine St0 ?_
      exact G.ret1 rfl rfl rfl rfl ⟨by simp; omega, he.trans he4⟩
    · refine QSt0 ?_
      refine GQ.tail fun w4 he4 => ?_
      refine St0 ?_
      exact G.ret1 rfl rfl rfl rfl ⟨by simp; omega, he.trans he4⟩
  · refine QSt0 ?_
    refine GQ.tail fun w4 he4 => ?_
    refine St0 ?_
    exact G.ret1 rfl rfl rfl rfl ⟨by simp; omega, he.trans he4⟩

theorem great5_call (v : Value) (ps : List Pair) (n : Int) (S : Where) (w : World) (h : RdP S w v ps) (hm : n ≤ 1000000) :
    Does Tryd.prog 23 #[v, iv n] w fun r w' => (∃ g, r = .bool g ∧ (g = false → (ps.length : Int) ≤ n ∧ ∀ (i : Nat) (x : Pair), ps[i]? = some x → x.val.length ≤ 100)) ∧ w' = w := by
  refine call_walk Tryd.func23 (by kernel_rfl) rfl Tryd.ntmps23 rfl ?_
  obtain ⟨p, c, rfl, hc⟩ := h.isSlice
  refine St0 ?_
  by_cases hn : (ps.length : Int) > n
  · refine St0 ?_
    exact G.ret1 rfl rfl rfl rfl ⟨⟨true, rfl, by simp⟩, rfl⟩
  refine St0 ?_
  refine G.sub (f' := [(5, iv ((0 : Nat) : Int)), (0, .slice p ps.length c)]) (by (repeat (first | exact Fr.sub_nil _ | refine Fr.sub_cons rfl ?_))) ?_
  refine G.rounds (α := Nat) (fun j f w' => j ≤ ps.length ∧ w' = w ∧ (∀ (i : Nat) (x : Pair), i < j → ps[i]? = some x → x.val.length ≤ 100) ∧ f = [(5, iv j), (0, .slice p ps.length c)]) (fun j => ps.length - j) ?round 0 ⟨by omega, rfl, fun i x hi => by omega, rfl⟩
  rintro j f w1 ⟨hj, rfl, hall, rfl⟩ again
  by_cases hlt : (j : Int) < ps.length
  · obtain ⟨x, hx⟩ : ∃ x, ps[j]? = some x := ⟨_, List.getElem?_eq_getElem (by omega)⟩
    obtain ⟨b, o, c', u, hv, hu, hA⟩ := h.elem hx
    cases hv
    obtain ⟨pu, cu, rfl, hcu⟩ := RdF.isSlice hu
    refine St0 ?_
    (refine GL.indexSlice (j) 33 ((o + j * 33)) hT rfl rfl rfl rfl rfl rfl rfl rfl ?_ ?_ ?_ ?_; (focus omega); (focus omega); (focus omega))
    refine St1 ((pairAt hA).2) ?_
    by_cases hb : (x.val.length : Int) > 100
    · refine St0 ?_
      exact G.ret1 rfl rfl rfl rfl ⟨⟨true, rfl, by simp⟩, rfl⟩
    · refine St0 ?_
      refine G.sub (by (repeat (first | exact Fr.sub_nil _ | refine Fr.sub_cons rfl ?_))) (again (j + 1) _ _ (by omega) ⟨by omega, rfl, ?_, rfl⟩)
      intro i z hi hz
      rcases Nat.lt_or_eq_of_le (Nat.lt_succ_iff.1 hi) with h1 | h1
      · exact hall i z h1 hz
      · subst h1; rw [hx] at hz; cases hz; omega
  · refine St0 ?_
    refine G.ret1 rfl rfl rfl rfl ⟨⟨false, rfl, fun _ => ⟨by omega, fun i x hx => hall i x ?_ hx⟩⟩, rfl⟩
    have := (List.getElem?_eq_some_iff.1 hx).1
    omega

theorem refMay5_call (v : Value) (ps : List Pair) (S : Where) (w : World) (h : RdP S w v ps) :
    Does Tryd.prog 86 #[v] w fun r w' => r = .bool (mapB ps) ∧ Ext w w' := by
  refine call_walk Tryd.func86 (by kernel_rfl) rfl Tryd.ntmps86 rfl ?_
  obtain ⟨p, c, rfl, hc⟩ := h.isSlice
  refine St0 ?_
  by_cases h512 : (ps.length : Int) > 512
  · refine St0 ?_
    exact G.ret1 rfl rfl rfl rfl ⟨by rw [mapB_f fun h => by have := h.few; omega], Ext.refl w⟩
  refine St0 ?_
  refine G.sub (f' := [(3, iv ((0 : Nat) : Int)), (0, .slice p ps.length c)]) (by (repeat (first | exact Fr.sub_nil _ | refine Fr.sub_cons rfl ?_))) ?_
  refine G.rounds (α := Nat) (fun j f w' => j ≤ ps.length ∧ Ext w w' ∧ (∀ i x, i < j → ps[i]? = some x → valB x.val.length = true) ∧ (∀ i x y, i + 1 < j → ps[i]? = some x → ps[i + 1]? = some y → x.key.num < y.key.num) ∧
    f = [(3, iv j), (0, .slice p ps.length c)]) (fun j => ps.length - j) ?round 0 ⟨by omega, Ext.refl w, fun i x hi => by omega, fun i x y hi => by omega, rfl⟩
  rintro j f w1 ⟨hj, he1, hval, hsort, rfl⟩ again
  by_cases hlt : (j : Int) < ps.length
  · obtain ⟨x, hx⟩ : ∃ x, ps[j]? = some x := ⟨_, List.getElem?_eq_getElem (by omega)⟩
    obtain ⟨b, o, c', u, hv, hu, hA⟩ := (h.ext he1).elem hx
    cases hv
    obtain ⟨pu, cu, rfl, hcu⟩ := RdF.isSlice hu
    have hP := pairAt hA
    refine St0 ?_
    refine G.quiet follows (by kernel_rfl) ?_
    refine QSt0 ?_
    (refine GQ.indexSlice (j) 33 ((o + j * 33)) hT rfl rfl rfl rfl rfl rfl rfl rfl ?_ ?_ ?_ ?_; (focus omega); (focus omega); (focus omega))
    refine QSt1 (hP.2) ?_
    refine GQ.call rfl rfl rfl (fun w' he' => (refValue_call _ _ _ w').mono fun v w'' ⟨h1, h2⟩ => ⟨h1, by rw [h2]; exact Ext.refl _⟩) ?_
    cases hok : valB x.val.length
    · refine QSt0 ?_
      refine GQ.nil fun w4 he4 => ?_
      refine St0 ?_
      refine G.ret1 rfl rfl rfl rfl ⟨?_, he1.trans he4⟩
      rw [mapB_f fun hm => ?_]
      have := hm.val j x hx
      rw [hok] at this
      cases this
    have hval' : ∀ i z, i < j + 1 → ps[i]? = some z → valB z.val.length = true := by
      intro i z hi hz
      rcases Nat.lt_or_eq_of_le (Nat.lt_succ_iff.1 hi) with h1 | h1
      · exact hval i z h1 hz
      · subst h1; rw [hx] at hz; cases hz; exact hok
    refine QSt0 ?_
    by_cases hj0 : (j : Int) > 0
    · obtain ⟨y, hy⟩ : ∃ y, ps[j - 1]? = some y := ⟨_, List.getElem?_eq_getElem (by omega)⟩
      obtain ⟨b', o', c'', u', hv', hu', hA'⟩ := (h.ext he1).elem hy
      cases hv'
      refine QSt0 ?_
      (refine GQ.indexSlice ((j - 1)) 33 ((o + (j - 1) * 33)) hT rfl rfl rfl rfl rfl rfl rfl rfl ?_ ?_ ?_ ?_; (focus omega); (focus omega); (focus omega))
      refine QSt1 ((pairAt hA').1) ?_
      (refine GQ.indexSlice (j) 33 ((o + j * 33)) hT rfl rfl rfl rfl rfl rfl rfl rfl ?_ ?_ ?_ ?_; (focus omega); (focus omega); (focus omega))
      refine QSt1 (hP.1) ?_
      refine GQ.call rfl rfl rfl (fun w' he' => refAhead_call y.key x.key w') ?_
      cases hah : aheadB y.key x.key
      · refine QSt0 ?_
        refine GQ.nil fun w4 he4 => ?_
        refine St0 ?_
        refine G.ret1 rfl rfl rfl rfl ⟨?_, he1.trans he4⟩
        rw [mapB_f fun hm => ?_]
        have := hm.sorted (j - 1) y x hy (by rw [show j - 1 + 1 = j by omega]; exact hx)
        simp [aheadB] at hah
        omega
      · refine QSt0 ?_
        refine GQ.nil fun w4 he4 => ?_
        refine St0 ?_
        refine G.sub (by (repeat (first | exact Fr.sub_nil _ | refine Fr.sub_cons rfl ?_))) (again (j + 1) _ _ (by omega) ⟨by omega, he1.trans he4, hval', ?_, rfl⟩)
        intro i z z' hi hz hz'
        rcases Nat.lt_or_eq_of_le (Nat.lt_succ_iff.1 hi) with h1 | h1
        · exact hsort i z z' h1 hz hz'
        · have : i = j - 1 := by omega
          subst this
          rw [hy] at hz; cases hz
          rw [show j - 1 + 1 = j by omega, hx] at hz'; cases hz'
          simpa [aheadB] using hah
    · refine QSt0 ?_
      refine GQ.nil fun w4 he4 => ?_
      refine St0 ?_
      exact G.sub (by (repeat (first | exact Fr.sub_nil _ | refine Fr.sub_cons rfl ?_))) (again (j + 1) _ _ (by omega) ⟨by omega, he1.trans he4, hval', fun i z z' hi => by omega, rfl⟩)
  · refine St0 ?_
    refine G.ret1 rfl rfl rfl rfl ⟨?_, he1⟩
    rw [mapB_t ⟨by omega, fun i x hx => hval i x (by have := (List.getElem?_eq_some_iff.1 hx).1; omega) hx, fun i x y hx hy => hsort i x y (by have := (List.getElem?_eq_some_iff.1 hy).1; omega) hx hy⟩]
end Go.Proofs.YtefneilaongpbaaDoor
/-
  Pairs: Check, Find; half and find; Get, both sides.
-/
set_option linter.unusedVariables false
set_option linter.unusedSimpArgs false
set_option maxRecDepth 100000
set_option maxHeartbeats 4000000
namespace Go.Proofs.YtefneilaongpbaaDoor
open Go Go.Bd Go.RowKit
attribute [local irreducible] G GL GQ

/-- The first place of a key. -/
def FindAt (ps : List Pair) (k : Dig) (r : Int) : Prop := (∃ (i : Nat) (x : Pair), r = i ∧ ps[i]? = some x ∧ x.key = k) ∨ (r = -1 ∧ ∀ (i : Nat) (x : Pair), ps[i]? = some x → x.key ≠ k)
theorem find5_call (v : Value) (ps : List Pair) (k : Dig) (S : Where) (w : World) (h : RdP S w v ps) (hm : ps.length ≤ 4294967296) :
    Does Tryd.prog 119 #[v, dv k] w fun r w' => (∃ i, r = iv i ∧ FindAt ps k i) ∧ Ext w w' := by
  refine call_walk Tryd.func119 (by kernel_rfl) rfl Tryd.ntmps119 rfl ?_
  obtain ⟨p, c, rfl, hc⟩ := h.isSlice
  refine St0 ?_
  refine GL.box rfl rfl rfl rfl fun b3 w0 hb3 hB3 he0 => ?_
  refine St0 ?_
  refine G.sub (f' := [(5, iv ((0 : Nat) : Int)), (0, .slice p ps.length c), (3, ptr b3 0)]) (by (repeat (first | exact Fr.sub_nil _ | refine Fr.sub_cons rfl ?_))) ?_
  refine G.rounds (α := Nat) (fun j f w' => j ≤ ps.length ∧ Ext w0 w' ∧ (∀ (i : Nat) (x : Pair), i < j → ps[i]? = some x → x.key ≠ k) ∧ f = [(5, iv j), (0, .slice p ps.length c), (3, ptr b3 0)]) (fun j => ps.length - j) ?round 0 ⟨by omega, Ext.refl _, fun i x hi => by omega, rfl⟩
  rintro j f w1 ⟨hj, he1, hall, rfl⟩ again
  replace hB3 := hB3.ext he1
  have he := he0.trans he1
  by_cases hlt : (j : Int) < ps.length
  · obtain ⟨x, hx⟩ : ∃ x, ps[j]? = some x := ⟨_, List.getElem?_eq_getElem (by omega)⟩
    obtain ⟨b, o, c', u, hv, hu, hA⟩ := (h.ext he).elem hx
    cases hv
    refine St0 ?_
    refine G.quiet follows (by kernel_rfl) ?_
    refine QSt0 ?_
    (refine GQ.indexSlice (j) 33 ((o + j * 33)) hT rfl rfl rfl rfl rfl rfl rfl rfl ?_ ?_ ?_ ?_; (focus omega); (focus omega); (focus omega))
    refine QSt2 ((pairAt hA).1) (hB3.all) ?_
    by_cases hk : x.key = k
    · refine QSt0 ?_
      refine GQ.nil fun w2 he2 => ?_
      refine St0 ?_
      exact G.ret1 rfl rfl rfl rfl ⟨⟨_, rfl, .inl ⟨j, x, rfl, hx, hk⟩⟩, he.trans he2⟩
    · refine QSt0 ?_
      refine GQ.nil fun w2 he2 => ?_
      refine St0 ?_
      refine G.sub (by (repeat (first | exact Fr.sub_nil _ | refine Fr.sub_cons rfl ?_))) (again (j + 1) _ _ (by omega) ⟨by omega, he1.trans he2, ?_, rfl⟩)
      intro i z hi hz
      rcases Nat.lt_or_eq_of_le (Nat.lt_succ_iff.1 hi) with h1 | h1
      · exact hall i z h1 hz
      · subst h1; rw [hx] at hz; cases hz; exact hk
  · refine St0 ?_
    refine G.ret1 rfl rfl rfl rfl ⟨⟨_, rfl, .inr ⟨rfl, fun i x hx => hall i x ?_ hx⟩⟩, he⟩
    have := (List.getElem?_eq_some_iff.1 hx).1
    omega

theorem half_call (v : Value) (ps : List Pair) (g : FuncId) (first cap : List Value) (q : Pair → Bool) (n : Nat) (S : Where) (w : World) (h : RdP S w v ps) (hm : ps.length ≤ 4294967296) (hn : n ≤ ps.length)
    (hq : ∀ (i : Nat) (x : Pair), ps[i]? = some x → (q x = true ↔ i < n))
    (hso : ∀ w', Ext w w' → ∀ (x : Pair) (u : Value), x ∈ ps → Does Tryd.prog g (first ++ [Value.agg (x.key.cells ++ [u]).toArray] ++ cap).toArray w' fun r w'' => r = .bool (q x) ∧ Ext w' w'') :
    Does Tryd.prog 133 #[v, .func (.func g) first.toArray cap.toArray] w fun r w' => r = iv (n : Nat) ∧ Ext w w' := by
  refine call_walk Tryd.func133 (by kernel_rfl) rfl Tryd.ntmps133 rfl ?_
  obtain ⟨p, c, rfl, hc⟩ := h.isSlice
  refine St0 ?_
  refine G.sub (f' := [(5, iv ((0 : Nat) : Int)), (6, iv (ps.length : Nat)), (0, .slice p ps.length c), (1, .func (.func g) first.toArray cap.toArray)]) (by (repeat (first | exact Fr.sub_nil _ | refine Fr.sub_cons rfl ?_))) ?_
  refine G.rounds (α := Nat × Nat) (fun z f w' => z.1 ≤ n ∧ n ≤ z.2 ∧ z.2 ≤ ps.length ∧ Ext w w' ∧ f = [(5, iv (z.1 : Nat)), (6, iv (z.2 : Nat)), (0, .slice p ps.length c), (1, .func (.func g) first.toArray cap.toArray)]) (fun z => z.2 - z.1) ?round (0, ps.length) ⟨by omega, hn, Nat.le_refl _, Ext.refl w, rfl⟩
  rintro ⟨lo, hi⟩ f w1 ⟨h1, h2, h3, he1, rfl⟩ again
  simp only at h1 h2 h3
  by_cases hlt : (lo : Int) < hi
  · obtain ⟨mid, hmid⟩ : ∃ mid, mid = (lo + hi) / 2 := ⟨_, rfl⟩
    have hmid' : ((lo : Int) + hi) / 2 = (mid : Nat) := by omega
    obtain ⟨x, hx⟩ : ∃ x, ps[mid]? = some x := ⟨_, List.getElem?_eq_getElem (by omega)⟩
    obtain ⟨b, o, c', u, hv, hu, hA⟩ := (h.ext he1).elem hx
    cases hv
    refine St0 ?_
    rw [hmid']
    (refine GL.indexSlice (mid) 33 ((o + mid * 33)) hT rfl rfl rfl rfl rfl rfl rfl rfl ?_ ?_ ?_ ?_; (focus omega); (focus omega); (focus omega))
    refine GL.loadN hT rfl rfl rfl rfl rfl hA (by simp [Dig.len]; rfl) ?_
    refine GL.callv rfl rfl rfl rfl (hso w1 he1 x u (List.mem_of_getElem? hx)) ?_
    rintro r w2 ⟨rfl, he2⟩
    have hqx := hq _ x hx
    cases hqv : q x
    · rw [hqv] at hqx
      refine St0 ?_
      refine G.sub (by (repeat (first | exact Fr.sub_nil _ | refine Fr.sub_cons rfl ?_))) (again (lo, mid) _ _ (by simp only; omega) ⟨h1, ?_, by simp only; omega, he1.trans he2, rfl⟩)
      · have : ¬ mid < n := by simpa using hqx
        simp only
        omega
    · rw [hqv] at hqx
      refine St0 ?_
      refine G.sub (by (repeat (first | exact Fr.sub_nil _ | refine Fr.sub_cons rfl ?_))) (again (mid + 1, hi) _ _ (by simp only; omega) ⟨?_, h2, h3, he1.trans he2, rfl⟩)
      · have : mid < n := by simpa using hqx
        simp only
        omega
  · refine St0 ?_
    refine G.ret1 rfl rfl rfl rfl ⟨?_, he1⟩
    show iv _ = iv _
    congr 1
    omega

theorem find1_call (x : Pair) (u : Value) (k : Dig) (b : Nat) (S : Where) (w : World) (hB : At S w b 0 k.cells) :
    Does Tryd.prog 157 #[.agg (x.key.cells ++ [u]).toArray, ptr b 0] w fun r w' => r = .bool (aheadB x.key k) ∧ Ext w w' := by
  refine call_walk Tryd.func157 (by kernel_rfl) rfl Tryd.ntmps157 rfl ?_
  refine St0 ?_
  refine GL.box rfl rfl rfl rfl fun b2 w1 hb2 hB2 he1 => ?_
  have hP := pairAt hB2.all
  replace hB := hB.ext he1
  refine St2 (hP.1) (hB) ?_
  refine GL.call rfl rfl rfl (ahead_call x.key k w1) ?_
  rintro r w2 ⟨rfl, he2⟩
  refine St0 ?_
  exact G.ret1 rfl rfl rfl rfl ⟨rfl, he1.trans he2⟩

/-- How many keys are ahead of a key. -/
def ahead (ps : List Pair) (k : Dig) : Nat := (ps.filter fun x => aheadB x.key k).length
theorem ahead_le (ps : List Pair) (k : Dig) : ahead ps k ≤ ps.length := List.length_filter_le _ _
theorem MapOk.lt {ps : List Pair} (h : MapOk ps) : ∀ (d i : Nat) (x y : Pair), ps[i]? = some x → ps[i + d + 1]? = some y → x.key.num < y.key.num
  | 0, i, x, y, hx, hy => h.sorted i x y hx hy
  | d + 1, i, x, y, hx, hy => by
    have hl := (List.getElem?_eq_some_iff.1 hy).1
    obtain ⟨z, hz⟩ : ∃ z, ps[i + d + 1]? = some z := ⟨_, List.getElem?_eq_getElem (by omega)⟩
    have h1 := MapOk.lt h d i x z hx hz
    have h2 := h.sorted (i + d + 1) z y hz (by rw [show i + d + 1 + 1 = i + (d + 1) + 1 by omega]; exact hy)
    omega
theorem MapOk.lt' {ps : List Pair} (h : MapOk ps) {i j : Nat} {x y : Pair} (hij : i < j) (hx : ps[i]? = some x) (hy : ps[j]? = some y) : x.key.num < y.key.num :=
  h.lt (j - i - 1) i x y hx (by rw [show i + (j - i - 1) + 1 = j by omega]; exact hy)
/-- Where a test holds of the first elements alone, so many does it hold of. -/
theorem filter_front {α : Type} (q : α → Bool) : ∀ (l : List α), (∀ (i j : Nat) (x y : α), i < j → l[i]? = some x → l[j]? = some y → q y = true → q x = true) → ∀ (i : Nat) (x : α), l[i]? = some x → (q x = true ↔ i < (l.filter q).length)
  | [], _, i, x, h => by simp at h
  | a :: l, hm, i, x, h => by
    have hm' : ∀ (i j : Nat) (x y : α), i < j → l[i]? = some x → l[j]? = some y → q y = true → q x = true := fun i j x y hij hx hy => hm (i + 1) (j + 1) x y (by omega) (by simpa using hx) (by simpa using hy)
    cases ha : q a
    · have hall : ∀ y ∈ l, q y = false := by
        intro y hy
        obtain ⟨j, hj⟩ := List.mem_iff_getElem?.1 hy
        cases hq : q y
        · rfl
        · have := hm 0 (j + 1) a y (by omega) rfl (by simpa using hj) hq
          rw [ha] at this
          cases this
      have hf : l.filter q = [] := List.filter_eq_nil_iff.2 fun y hy => by rw [hall y hy]; simp
      rw [List.filter_cons_of_neg (by rw [ha]; simp), hf]
      cases i with
      | zero => simp at h; subst h; simp [ha]
      | succ i =>
        simp at h
        have := hall x (List.mem_of_getElem? h)
        simp [this]
    · rw [List.filter_cons_of_pos ha]
      cases i with
      | zero => simp at h; subst h; simp [ha]
      | succ i =>
        simp at h
        have := filter_front q l hm' i x h
        rw [this]
        simp
theorem ahead_iff {ps : List Pair} (h : MapOk ps) (k : Dig) (i : Nat) (x : Pair) (hx : ps[i]? = some x) : aheadB x.key k = true ↔ i < ahead ps k :=
  filter_front (fun x => aheadB x.key k) ps (fun i j x y hij hx hy hq => by
    have := h.lt' hij hx hy
    simp only [aheadB, decide_eq_true_eq] at hq ⊢
    omega) i x hx
/-- Has a map a key? -/
def hasK (ps : List Pair) (k : Dig) : Bool := match ps[ahead ps k]? with
  | some x => decide (x.key = k)
  | none => false
theorem find_call (v : Value) (ps : List Pair) (k : Dig) (S : Where) (w : World) (h : RdP S w v ps) (hok : MapOk ps) :
    Does Tryd.prog 114 #[v, dv k] w fun r w' => r = .tuple #[iv (ahead ps k : Nat), .bool (hasK ps k)] ∧ Ext w w' := by
  refine call_walk Tryd.func114 (by kernel_rfl) rfl Tryd.ntmps114 rfl ?_
  obtain ⟨p, c, rfl, hc⟩ := h.isSlice
  have hfew := hok.few
  have hle := ahead_le ps k
  refine St0 ?_
  refine GL.box rfl rfl rfl rfl fun b3 w1 hb3 hB3 he1 => ?_
  refine St0 ?_
  refine GL.call rfl rfl rfl (half_call (.slice p ps.length c) ps 157 [] [ptr b3 0] (fun x => aheadB x.key k) (ahead ps k) S w1 (h.ext he1) (by omega) hle (ahead_iff hok k) (fun w' he' x u hx => find1_call x u k b3 any w' (hB3.ext he').all)) ?_
  rintro r w2 ⟨rfl, he2⟩
  replace hB3 := hB3.ext he2
  have he := he1.trans he2
  refine St0 ?_
  refine G.quietTail 15 follows (by kernel_rfl) (by kernel_rfl) (by kernel_rfl) (by kernel_rfl) ?_
  refine QSt0 ?_
  by_cases hlt : ((ahead ps k : Nat) : Int) < ps.length
  · obtain ⟨x, hx⟩ : ∃ x, ps[ahead ps k]? = some x := ⟨_, List.getElem?_eq_getElem (by omega)⟩
    obtain ⟨b, o, c', u, hv, hu, hA⟩ := (h.ext he).elem hx
    cases hv
    refine QSt0 ?_
    (refine GQ.indexSlice ((ahead ps k)) 33 ((o + ahead ps k * 33)) hT rfl rfl rfl rfl rfl rfl rfl rfl ?_ ?_ ?_ ?_; (focus omega); (focus omega); (focus omega))
    refine QSt2 ((pairAt hA).1) (hB3.all) ?_
    refine GQ.eqdig rfl rfl rfl rfl ?_
    refine QSt0 ?_
    refine GQ.tail fun w4 he4 => ?_
    refine St0 ?_
    exact G.ret2 rfl rfl rfl rfl rfl ⟨by simp [hasK, hx], he.trans he4⟩
  · refine QSt0 ?_
    refine GQ.tail fun w4 he4 => ?_
    refine St0 ?_
    exact G.ret2 rfl rfl rfl rfl rfl ⟨by simp [hasK, List.getElem?_eq_none (show ps.length ≤ ahead ps k by omega)], he.trans he4⟩
end Go.Proofs.YtefneilaongpbaaDoor
/-
  Pairs: a key's value; comparing pairs.
-/
set_option linter.unusedVariables false
set_option linter.unusedSimpArgs false
set_option maxRecDepth 100000
set_option maxHeartbeats 4000000
namespace Go.Proofs.YtefneilaongpbaaDoor
open Go Go.Bd Go.RowKit
attribute [local irreducible] G GL GQ

theorem found_ahead {ps : List Pair} (h : MapOk ps) {i : Nat} {x : Pair} {k : Dig} (hx : ps[i]? = some x) (hk : x.key = k) : i = ahead ps k ∧ hasK ps k = true := by
  have hle := ahead_le ps k
  have h1 : ¬ i < ahead ps k := by
    intro hlt
    have := (ahead_iff h k i x hx).2 hlt
    rw [hk, aheadB_self] at this
    cases this
  have h2 : ¬ ahead ps k < i := by
    intro hlt
    have hil := (List.getElem?_eq_some_iff.1 hx).1
    obtain ⟨y, hy⟩ : ∃ y, ps[ahead ps k]? = some y := ⟨_, List.getElem?_eq_getElem (by omega)⟩
    have h3 := h.lt' hlt hy hx
    have h4 : aheadB y.key k = true := by simp only [aheadB, decide_eq_true_eq]; rw [← hk]; exact h3
    have := (ahead_iff h k _ y hy).1 h4
    omega
  have e : i = ahead ps k := by omega
  refine ⟨e, ?_⟩
  simp [hasK, ← e, hx, hk]
theorem hasK_find {ps : List Pair} {k : Dig} (h : hasK ps k = true) : ∃ x, ps[ahead ps k]? = some x ∧ x.key = k := by
  unfold hasK at h
  split at h
  · rename_i x hx; exact ⟨x, hx, by simpa using h⟩
  · cases h
theorem hasK_none {ps : List Pair} {k : Dig} (h : ∀ (i : Nat) (x : Pair), ps[i]? = some x → x.key ≠ k) : hasK ps k = false := by
  cases hh : hasK ps k
  · rfl
  · obtain ⟨x, hx, hk⟩ := hasK_find hh
    exact absurd hk (h _ x hx)
noncomputable def gotB (ps : List Pair) (k : Dig) : Bool := mapB ps && hasK ps k
noncomputable def gotV (ps : List Pair) (k : Dig) : Bytes := if gotB ps k then ((ps[ahead ps k]?).map Pair.val).getD [] else []
theorem gotV_f {ps : List Pair} {k : Dig} (h : gotB ps k = false) : gotV ps k = [] := by simp [gotV, h]
theorem gotV_t {ps : List Pair} {k : Dig} {x : Pair} (h : gotB ps k = true) (hx : ps[ahead ps k]? = some x) : gotV ps k = x.val := by simp [gotV, h, hx]
theorem valB_le {n : Nat} (h : valB n = true) : 0 < n ∧ n ≤ 64 := by simpa [valB] using h

theorem get_call (v : Value) (ps : List Pair) (k : Dig) (S : Where) (w : World) (h : RdP S w v ps) :
    Does Tryd.prog 74 #[v, dv k] w fun r w' => ∃ u, r = .tuple #[u, .bool (gotB ps k)] ∧ OwnB w.heap.size w' u (gotV ps k) ∧ Ext w w' := by
  refine call_walk Tryd.func74 (by kernel_rfl) rfl Tryd.ntmps74 rfl ?_
  obtain ⟨p, c, rfl, hc⟩ := h.isSlice
  refine St0 ?_
  refine GL.box rfl rfl rfl rfl fun b3 w1 hb3 hB3 he1 => ?_
  refine St0 ?_
  refine GL.call rfl rfl rfl (pcheck_call _ ps S w1 (h.ext he1)) ?_
  rintro r w2 ⟨rfl, he2⟩
  replace hB3 := hB3.ext he2
  have he := he1.trans he2
  cases hok : mapB ps
  · have e0 : gotB ps k = false := by simp [gotB, hok]
    have e1 : badE false = 8 := rfl
    rw [e1]
    refine St0 ?_
    exact G.ret2 rfl rfl rfl rfl rfl ⟨_, by rw [e0], by rw [gotV_f e0]; exact Own.bare _ _ none 1 _, he⟩
  have hM := mapB_iff.1 hok
  have e1 : badE true = 0 := rfl
  rw [e1]
  refine St1 (hB3.all) ?_
  refine GL.call rfl rfl rfl (find_call _ ps k S w2 (h.ext he) hM) ?_
  rintro r w3 ⟨rfl, he3⟩
  have hE := he.trans he3
  refine St0 ?_
  cases hh : hasK ps k
  · have e0 : gotB ps k = false := by simp [gotB, hh]
    refine St0 ?_
    exact G.ret2 rfl rfl rfl rfl rfl ⟨_, by rw [e0], by rw [gotV_f e0]; exact Own.bare _ _ none 1 _, hE⟩
  · have e0 : gotB ps k = true := by simp [gotB, hok, hh]
    obtain ⟨x, hx, hk⟩ := hasK_find hh
    have hvl := valB_le (hM.val _ x hx)
    have hlt := (List.getElem?_eq_some_iff.1 hx).1
    obtain ⟨b, o, c', u, hv, hu, hA⟩ := (h.ext hE).elem hx
    cases hv
    refine St0 ?_
    (refine GL.indexSlice ((ahead ps k)) 33 ((o + ahead ps k * 33)) hT rfl rfl rfl rfl rfl rfl rfl rfl ?_ ?_ ?_ ?_; (focus omega); (focus omega); (focus omega))
    refine St1 ((pairAt hA).2) ?_
    refine GL.call rfl rfl rfl (cloneB_call u x.val _ w3 hu (by omega)) ?_
    rintro r w4 ⟨ho, he4⟩
    refine St0 ?_
    exact G.ret2 rfl rfl rfl rfl rfl ⟨_, by rw [e0], by rw [gotV_t e0 hx]; exact ho.mono hE.size, hE.trans he4⟩

theorem pair_eq (a b : Pair) : decide (a = b) = (decide (a.key = b.key) && decide (a.val = b.val)) := by
  rw [Bool.eq_iff_iff]
  cases a
  cases b
  simp
theorem refSame5_call (v u : Value) (xs ys : List Pair) (S S' : Where) (w : World) (h : RdP S w v xs) (h' : RdP S' w u ys) (hmax : xs.length ≤ 4294967296) :
    Does Tryd.prog 55 #[v, u] w fun r w' => r = .bool (decide (xs = ys)) ∧ Ext w w' := by
  refine call_walk Tryd.func55 (by kernel_rfl) rfl Tryd.ntmps55 rfl ?_
  obtain ⟨p, c, rfl, hc⟩ := h.isSlice
  obtain ⟨p', c', rfl, hc'⟩ := h'.isSlice
  refine St0 ?_
  by_cases hl : (xs.length : Int) = ys.length
  · have hl' : xs.length = ys.length := by omega
    refine St0 ?_
    refine G.sub (f' := [(5, iv ((0 : Nat) : Int)), (0, .slice p xs.length c), (1, .slice p' ys.length c')]) (by (repeat (first | exact Fr.sub_nil _ | refine Fr.sub_cons rfl ?_))) ?_
    refine G.rounds (α := Nat) (fun j f w' => j ≤ xs.length ∧ Ext w w' ∧ (∀ i, i < j → xs[i]? = ys[i]?) ∧ f = [(5, iv j), (0, .slice p xs.length c), (1, .slice p' ys.length c')]) (fun j => xs.length - j) ?round 0 ⟨by omega, Ext.refl w, fun i hi => by omega, rfl⟩
    rintro j f w1 ⟨hj, he1, heq, rfl⟩ again
    by_cases hlt : (j : Int) < xs.length
    · obtain ⟨x, hx⟩ : ∃ x, xs[j]? = some x := ⟨_, List.getElem?_eq_getElem (by omega)⟩
      obtain ⟨y, hy⟩ : ∃ y, ys[j]? = some y := ⟨_, List.getElem?_eq_getElem (by omega)⟩
      obtain ⟨b, o, c2, ux, hv, hux, hA⟩ := (h.ext he1).elem hx
      obtain ⟨b', o', c2', uy, hv', huy, hA'⟩ := (h'.ext he1).elem hy
      cases hv
      cases hv'
      refine St0 ?_
      refine G.quiet follows (by kernel_rfl) ?_
      refine QSt0 ?_
      (refine GQ.indexSlice (j) 33 ((o + j * 33)) hT rfl rfl rfl rfl rfl rfl rfl rfl ?_ ?_ ?_ ?_; (focus omega); (focus omega); (focus omega))
      refine QSt1 ((pairAt hA).1) ?_
      (refine GQ.indexSlice (j) 33 ((o' + j * 33)) hT rfl rfl rfl rfl rfl rfl rfl rfl ?_ ?_ ?_ ?_; (focus omega); (focus omega); (focus omega))
      refine QSt1 ((pairAt hA').1) ?_
      by_cases hb : x.key = y.key
      · refine QSt0 ?_
        (refine GQ.indexSlice (j) 33 ((o + j * 33)) hT rfl rfl rfl rfl rfl rfl rfl rfl ?_ ?_ ?_ ?_; (focus omega); (focus omega); (focus omega))
        refine QSt1 ((pairAt hA).2) ?_
        (refine GQ.indexSlice (j) 33 ((o' + j * 33)) hT rfl rfl rfl rfl rfl rfl rfl rfl ?_ ?_ ?_ ?_; (focus omega); (focus omega); (focus omega))
        refine QSt1 ((pairAt hA').2) ?_
        refine GQ.call rfl rfl rfl (fun w' he' => (same_call ux uy _ _ _ _ w' (RdB.ext hux he') (RdB.ext huy he')).mono fun r w'' ⟨h1, h2⟩ => ⟨h1, by rw [h2]; exact Ext.refl _⟩) ?_
        cases hv : decide (x.val = y.val)
        · refine QSt0 ?_
          refine GQ.nil fun w2 he2 => ?_
          refine St0 ?_
          refine G.ret1 rfl rfl rfl rfl ⟨?_, he1.trans he2⟩
          rw [not_eq_at (i := j)]
          rw [hx, hy]
          intro e
          simp only [Option.some.injEq] at e
          rw [e] at hv
          simp at hv
        · refine QSt0 ?_
          refine GQ.nil fun w2 he2 => ?_
          refine St0 ?_
          refine G.sub (by (repeat (first | exact Fr.sub_nil _ | refine Fr.sub_cons rfl ?_))) (again (j + 1) _ _ (by omega) ⟨by omega, he1.trans he2, ?_, rfl⟩)
          intro i hi
          rcases Nat.lt_or_eq_of_le (Nat.lt_succ_iff.1 hi) with h1 | h1
          · exact heq i h1
          · subst h1
            rw [hx, hy]
            have : decide (x = y) = true := by rw [pair_eq, hv]; simp [hb]
            rw [of_decide_eq_true this]
      · refine QSt0 ?_
        refine GQ.nil fun w2 he2 => ?_
        refine St0 ?_
        refine G.ret1 rfl rfl rfl rfl ⟨?_, he1.trans he2⟩
        rw [not_eq_at (i := j)]
        rw [hx, hy]
        intro e
        simp only [Option.some.injEq] at e
        exact hb (by rw [e])
    · refine St0 ?_
      refine G.ret1 rfl rfl rfl rfl ⟨?_, he1⟩
      rw [all_eq hl' fun i hi => heq i (by omega)]
  · refine St0 ?_
    refine G.ret1 rfl rfl rfl rfl ⟨?_, Ext.refl w⟩
    rw [not_eq_len (by omega)]
end Go.Proofs.YtefneilaongpbaaDoor
/-
  Maps in plain Lean: with a value for a key, without a key; what was put is got and dropped again.
-/
set_option linter.unusedVariables false
set_option linter.unusedSimpArgs false
namespace Go.Proofs.YtefneilaongpbaaDoor
open Go Go.Bd
def without (ps : List Pair) (k : Dig) : List Pair := ps.filter fun x => !decide (x.key = k)
/-- How many in front are ahead. -/
def front (ps : List Pair) (k : Dig) : Nat := (ps.takeWhile fun x => aheadB x.key k).length
theorem front_le (ps : List Pair) (k : Dig) : front ps k ≤ ps.length := (List.takeWhile_sublist _).length_le
theorem front_eq : ∀ (ps : List Pair) (k : Dig) (n : Nat), (∀ (i : Nat) (x : Pair), i < n → ps[i]? = some x → aheadB x.key k = true) → n ≤ ps.length → (∀ x, ps[n]? = some x → aheadB x.key k = false) → front ps k = n
  | [], k, n, _, h, _ => by simp at h; subst h; rfl
  | x :: ps, k, 0, _, _, h => by
    have := h x rfl
    simp [front, this]
  | x :: ps, k, n + 1, h1, h2, h3 => by
    have h4 := h1 0 x (by omega) rfl
    have := front_eq ps k n (fun i y hi hy => h1 (i + 1) y (by omega) (by simpa using hy)) (by simpa using h2) (fun y hy => h3 y (by simpa using hy))
    simp only [front] at this ⊢
    rw [List.takeWhile_cons, h4]
    simp [this]
def withL (rest : List Pair) (k : Dig) (v : Bytes) : List Pair := rest.take (front rest k) ++ (⟨k, v⟩ :: rest.drop (front rest k))
/-- In the keys' order. -/
def PW (ps : List Pair) : Prop := ps.Pairwise fun x y => x.key.num < y.key.num
theorem MapOk.pw {ps : List Pair} (h : MapOk ps) : PW ps := List.pairwise_iff_getElem.2 fun i j hi hj hij => h.lt' hij (List.getElem?_eq_getElem hi) (List.getElem?_eq_getElem hj)
theorem MapOk.valid {ps : List Pair} (h : MapOk ps) : ∀ x ∈ ps, valB x.val.length = true := fun x hx => by
  obtain ⟨i, hi⟩ := List.mem_iff_getElem?.1 hx
  exact h.val i x hi
theorem MapOk.of {ps : List Pair} (h1 : ps.length ≤ 512) (h2 : ∀ x ∈ ps, valB x.val.length = true) (h3 : PW ps) : MapOk ps :=
  ⟨h1, fun i x hx => h2 x (List.mem_of_getElem? hx), fun i x y hx hy => by
    obtain ⟨hi, rfl⟩ := List.getElem?_eq_some_iff.1 hx
    obtain ⟨hj, rfl⟩ := List.getElem?_eq_some_iff.1 hy
    exact List.pairwise_iff_getElem.1 h3 i (i + 1) hi hj (by omega)⟩
theorem PW.sub {ps qs : List Pair} (h : PW ps) (hs : qs.Sublist ps) : PW qs := List.Pairwise.sublist hs h
theorem PW.one {ps : List Pair} (h : PW ps) {x y : Pair} (hx : x ∈ ps) (hy : y ∈ ps) (hk : x.key = y.key) : x = y := by
  obtain ⟨i, hi⟩ := List.mem_iff_getElem?.1 hx
  obtain ⟨j, hj⟩ := List.mem_iff_getElem?.1 hy
  obtain ⟨hi', rfl⟩ := List.getElem?_eq_some_iff.1 hi
  obtain ⟨hj', rfl⟩ := List.getElem?_eq_some_iff.1 hj
  rcases Nat.lt_trichotomy i j with h1 | h1 | h1
  · have := List.pairwise_iff_getElem.1 h i j hi' hj' h1
    rw [hk] at this; omega
  · subst h1; rfl
  · have := List.pairwise_iff_getElem.1 h j i hj' hi' h1
    rw [hk] at this; omega
/-- Sorted lists of the same pairs are the same. -/
theorem sorted_ext : ∀ {ps qs : List Pair}, PW ps → PW qs → (∀ x, x ∈ ps ↔ x ∈ qs) → ps = qs
  | [], [], _, _, _ => rfl
  | [], y :: qs, _, _, h => by have := (h y).2 (by simp); cases this
  | x :: ps, [], _, _, h => by have := (h x).1 (by simp); cases this
  | x :: ps, y :: qs, hp, hq, h => by
    have hp' := List.pairwise_cons.1 hp
    have hq' := List.pairwise_cons.1 hq
    have hxy : x = y := by
      have h1 := (h x).1 (by simp)
      have h2 := (h y).2 (by simp)
      rcases List.mem_cons.1 h1 with e | e
      · exact e
      rcases List.mem_cons.1 h2 with e2 | e2
      · exact e2.symm
      · have := hq'.1 x e
        have := hp'.1 y e2
        omega
    subst hxy
    rw [sorted_ext hp'.2 hq'.2 fun z => ?_]
    have hz := h z
    simp only [List.mem_cons] at hz
    constructor
    · intro hm
      have h1 := hp'.1 z hm
      rcases hz.1 (.inr hm) with e | e
      · subst e; omega
      · exact e
    · intro hm
      have h1 := hq'.1 z hm
      rcases hz.2 (.inr hm) with e | e
      · subst e; omega
      · exact e
theorem mem_without {ps : List Pair} {k : Dig} {x : Pair} : x ∈ without ps k ↔ x ∈ ps ∧ x.key ≠ k := by simp [without]
theorem PW.without {ps : List Pair} (h : PW ps) (k : Dig) : PW (without ps k) := h.sub List.filter_sublist
theorem withL_eq (rest : List Pair) (k : Dig) (v : Bytes) : withL rest k v = rest.takeWhile (fun x => aheadB x.key k) ++ (⟨k, v⟩ :: rest.dropWhile (fun x => aheadB x.key k)) := by
  have h := List.takeWhile_append_dropWhile (p := fun x : Pair => aheadB x.key k) (l := rest)
  have h1 : rest.take (front rest k) = rest.takeWhile (fun x => aheadB x.key k) := by
    conv => lhs; arg 2; rw [← h]
    exact List.take_left
  have h2 : rest.drop (front rest k) = rest.dropWhile (fun x => aheadB x.key k) := by
    conv => lhs; arg 2; rw [← h]
    exact List.drop_left
  unfold withL
  rw [h1, h2]
theorem mem_withL {rest : List Pair} {k : Dig} {v : Bytes} {x : Pair} : x ∈ withL rest k v ↔ x = ⟨k, v⟩ ∨ x ∈ rest := by
  unfold withL
  conv => rhs; rw [← List.take_append_drop (front rest k) rest]
  simp only [List.mem_append, List.mem_cons]
  constructor
  · rintro (h | h | h)
    · exact .inr (.inl h)
    · exact .inl h
    · exact .inr (.inr h)
  · rintro (h | h | h)
    · exact .inr (.inl h)
    · exact .inl h
    · exact .inr (.inr h)
theorem length_withL (rest : List Pair) (k : Dig) (v : Bytes) : (withL rest k v).length = rest.length + 1 := by
  have : front rest k ≤ rest.length := (List.takeWhile_sublist _).length_le
  simp only [withL, List.length_append, List.length_cons, List.length_take, List.length_drop]
  omega
theorem withL_split {A B : List Pair} {k : Dig} {v : Bytes} (hA : ∀ x ∈ A, x.key.num < k.num) (hB : ∀ x ∈ B, k.num < x.key.num) : withL (A ++ B) k v = A ++ (⟨k, v⟩ :: B) := by
  have h1 : (A ++ B).takeWhile (fun x => aheadB x.key k) = A := by
    rw [List.takeWhile_append_of_pos (fun x hx => by simp [aheadB, hA x hx])]
    cases B with
    | nil => simp
    | cons b B => have := hB b (by simp); have h : ¬ b.key.num < k.num := by omega
                  simp [aheadB, h]
  have h2 : (A ++ B).dropWhile (fun x => aheadB x.key k) = B := by
    rw [List.dropWhile_append_of_pos (fun x hx => by simp [aheadB, hA x hx])]
    cases B with
    | nil => simp
    | cons b B => have := hB b (by simp); have h : ¬ b.key.num < k.num := by omega
                  simp [aheadB, h]
  rw [withL_eq, h1, h2]
theorem without_of_ne {A : List Pair} {k : Dig} (h : ∀ x ∈ A, x.key ≠ k) : without A k = A := List.filter_eq_self.2 fun x hx => by simp [h x hx]
theorem without_append (A B : List Pair) (k : Dig) : without (A ++ B) k = without A k ++ without B k := List.filter_append ..
theorem without_cons_eq {x : Pair} {B : List Pair} {k : Dig} (h : x.key = k) : without (x :: B) k = without B k := by simp [without, h]
theorem PW.withL {ps : List Pair} (h : PW ps) (k : Dig) (v : Bytes) : PW (withL (Go.Proofs.YtefneilaongpbaaDoor.without ps k) k v) := by
  have hw := h.without k
  rw [withL_eq]
  have hsp := List.takeWhile_append_dropWhile (p := fun x : Pair => aheadB x.key k) (l := Go.Proofs.YtefneilaongpbaaDoor.without ps k)
  generalize hA : (Go.Proofs.YtefneilaongpbaaDoor.without ps k).takeWhile (fun x => aheadB x.key k) = A at hsp ⊢
  generalize hB : (Go.Proofs.YtefneilaongpbaaDoor.without ps k).dropWhile (fun x => aheadB x.key k) = B at hsp ⊢
  have hAk : ∀ x ∈ A, x.key.num < k.num := by
    intro x hx
    rw [← hA] at hx
    have := List.all_takeWhile (p := fun x : Pair => aheadB x.key k) (l := Go.Proofs.YtefneilaongpbaaDoor.without ps k)
    have := List.all_eq_true.1 this x hx
    simpa [aheadB] using this
  rw [← hsp] at hw
  have hw' := List.pairwise_append.1 hw
  have hBk : ∀ x ∈ B, k.num < x.key.num := by
    cases B with
    | nil => intro x hx; cases hx
    | cons b B =>
      have hb : ¬ b.key.num < k.num := by
        have := List.head_dropWhile_not (fun x : Pair => aheadB x.key k) (l := Go.Proofs.YtefneilaongpbaaDoor.without ps k) (by rw [hB]; simp)
        simp only [hB, List.head_cons] at this
        simpa [aheadB] using this
      have hbne : b.key ≠ k := by
        have : b ∈ Go.Proofs.YtefneilaongpbaaDoor.without ps k := by rw [← hsp]; simp
        exact (mem_without.1 this).2
      have hbk : k.num < b.key.num := by
        rcases Nat.lt_or_eq_of_le (Nat.le_of_not_lt hb) with h1 | h1
        · exact h1
        · exact absurd (Dig.num_inj h1.symm) hbne
      intro x hx
      rcases List.mem_cons.1 hx with rfl | hx
      · exact hbk
      · have := (List.pairwise_cons.1 hw'.2.1).1 x hx
        omega
  refine List.pairwise_append.2 ⟨hw'.1, List.pairwise_cons.2 ⟨hBk, hw'.2.1⟩, ?_⟩
  intro x hx y hy
  rcases List.mem_cons.1 hy with rfl | hy
  · exact hAk x hx
  · exact hw'.2.2 x hx y hy
/-- A map, cut at a key. -/
theorem MapOk.cut {ps : List Pair} (h : MapOk ps) (k : Dig) : (∀ x ∈ ps.take (ahead ps k), x.key.num < k.num) ∧ (∀ x ∈ ps.drop (ahead ps k), k.num ≤ x.key.num) := by
  constructor
  · intro x hx
    obtain ⟨i, hi⟩ := List.mem_iff_getElem?.1 hx
    rw [List.getElem?_take] at hi
    split at hi
    · rename_i hlt
      have := (ahead_iff h k i x hi).2 hlt
      simpa [aheadB] using this
    · cases hi
  · intro x hx
    obtain ⟨i, hi⟩ := List.mem_iff_getElem?.1 hx
    rw [List.getElem?_drop] at hi
    have := mt (ahead_iff h k _ x hi).1 (by omega)
    simpa [aheadB] using this
theorem MapOk.cut_has {ps : List Pair} (h : MapOk ps) {k : Dig} (hk : hasK ps k = true) : ∃ y, ps.drop (ahead ps k) = y :: ps.drop (ahead ps k + 1) ∧ y.key = k ∧ ps = ps.take (ahead ps k) ++ y :: ps.drop (ahead ps k + 1) ∧ ∀ x ∈ ps.drop (ahead ps k + 1), k.num < x.key.num := by
  obtain ⟨y, hy, rfl⟩ := hasK_find hk
  obtain ⟨hi, hy'⟩ := List.getElem?_eq_some_iff.1 hy
  have hd : ps.drop (ahead ps y.key) = y :: ps.drop (ahead ps y.key + 1) := by
    rw [List.drop_eq_getElem_cons hi, hy']
  refine ⟨y, hd, rfl, ?_, fun x hx => ?_⟩
  · rw [← hd, List.take_append_drop]
  · obtain ⟨i, hi⟩ := List.mem_iff_getElem?.1 hx
    rw [List.getElem?_drop] at hi
    exact h.lt' (by omega) hy hi
theorem MapOk.cut_not {ps : List Pair} (h : MapOk ps) {k : Dig} (hk : hasK ps k = false) : ∀ x ∈ ps.drop (ahead ps k), k.num < x.key.num := by
  intro x hx
  have h1 := (h.cut k).2 x hx
  rcases Nat.lt_or_eq_of_le h1 with h2 | h2
  · exact h2
  · have hm := List.mem_of_mem_drop hx
    obtain ⟨i, hi⟩ := List.mem_iff_getElem?.1 hm
    have := (found_ahead h hi (Dig.num_inj h2.symm)).2
    rw [hk] at this; cases this
theorem ne_of_num_lt {a b : Dig} (h : a.num < b.num) : a ≠ b := fun e => by subst e; omega
theorem ne_of_num_gt {a b : Dig} (h : b.num < a.num) : a ≠ b := fun e => by subst e; omega
theorem MapOk.with_has {ps : List Pair} (h : MapOk ps) {k : Dig} (hk : hasK ps k = true) (v : Bytes) : withL (without ps k) k v = ps.take (ahead ps k) ++ (⟨k, v⟩ :: ps.drop (ahead ps k + 1)) := by
  obtain ⟨y, h1, h2, h3, h4⟩ := h.cut_has hk
  have hA := (h.cut k).1
  conv => lhs; rw [h3]
  rw [without_append, without_cons_eq h2, without_of_ne (fun x hx => ne_of_num_lt (hA x hx)), without_of_ne (fun x hx => ne_of_num_gt (h4 x hx)), withL_split hA h4]
theorem MapOk.with_not {ps : List Pair} (h : MapOk ps) {k : Dig} (hk : hasK ps k = false) (v : Bytes) : withL (without ps k) k v = ps.take (ahead ps k) ++ (⟨k, v⟩ :: ps.drop (ahead ps k)) := by
  have hA := (h.cut k).1
  have hB := h.cut_not hk
  conv => lhs; rw [← List.take_append_drop (ahead ps k) ps]
  rw [without_append, without_of_ne (fun x hx => ne_of_num_lt (hA x hx)), without_of_ne (fun x hx => ne_of_num_gt (hB x hx)), withL_split hA hB]
theorem MapOk.without_has {ps : List Pair} (h : MapOk ps) {k : Dig} (hk : hasK ps k = true) : without ps k = ps.take (ahead ps k) ++ ps.drop (ahead ps k + 1) := by
  obtain ⟨y, h1, h2, h3, h4⟩ := h.cut_has hk
  have hA := (h.cut k).1
  conv => lhs; rw [h3]
  rw [without_append, without_cons_eq h2, without_of_ne (fun x hx => ne_of_num_lt (hA x hx)), without_of_ne (fun x hx => ne_of_num_gt (h4 x hx))]
theorem MapOk.without_not {ps : List Pair} (h : MapOk ps) {k : Dig} (hk : hasK ps k = false) : without ps k = ps := by
  refine without_of_ne fun x hx e => ?_
  obtain ⟨i, hi⟩ := List.mem_iff_getElem?.1 hx
  have := (found_ahead h hi e).2
  rw [hk] at this; cases this
theorem MapOk.has_iff {ps : List Pair} (h : MapOk ps) (k : Dig) : hasK ps k = true ↔ ∃ x ∈ ps, x.key = k := by
  constructor
  · intro hk
    obtain ⟨x, hx, e⟩ := hasK_find hk
    exact ⟨x, List.mem_of_getElem? hx, e⟩
  · rintro ⟨x, hx, e⟩
    obtain ⟨i, hi⟩ := List.mem_iff_getElem?.1 hx
    exact (found_ahead h hi e).2
theorem MapOk.got {ps : List Pair} (h : MapOk ps) {x : Pair} (hx : x ∈ ps) : gotB ps x.key = true ∧ gotV ps x.key = x.val := by
  obtain ⟨i, hi⟩ := List.mem_iff_getElem?.1 hx
  obtain ⟨rfl, h2⟩ := found_ahead h hi rfl
  have : gotB ps x.key = true := by simp [gotB, mapB_t h, h2]
  exact ⟨this, by simp [gotV, this, hi]⟩
theorem MapOk.got_not {ps : List Pair} (h : MapOk ps) {k : Dig} (hk : ∀ x ∈ ps, x.key ≠ k) : gotB ps k = false ∧ gotV ps k = [] := by
  have h1 : hasK ps k = false := hasK_none fun i x hx => hk x (List.mem_of_getElem? hx)
  have : gotB ps k = false := by simp [gotB, h1]
  exact ⟨this, by simp [gotV, this]⟩
theorem MapOk.without {ps : List Pair} (h : MapOk ps) (k : Dig) : MapOk (Go.Proofs.YtefneilaongpbaaDoor.without ps k) :=
  .of (Nat.le_trans (List.length_filter_le _ _) h.few) (fun x hx => h.valid x (mem_without.1 hx).1) (h.pw.without k)
theorem length_without {ps : List Pair} (h : MapOk ps) (k : Dig) : (without ps k).length = if hasK ps k then ps.length - 1 else ps.length := by
  cases hk : hasK ps k
  · rw [h.without_not hk]; simp
  · rw [h.without_has hk]
    obtain ⟨y, hy, _⟩ := hasK_find hk
    have := (List.getElem?_eq_some_iff.1 hy).1
    simp
    omega
theorem MapOk.with {ps : List Pair} (h : MapOk ps) (k : Dig) {v : Bytes} (hv : valB v.length = true) (hl : (withL (Go.Proofs.YtefneilaongpbaaDoor.without ps k) k v).length ≤ 512) : MapOk (withL (Go.Proofs.YtefneilaongpbaaDoor.without ps k) k v) :=
  .of hl (fun x hx => by
    rcases mem_withL.1 hx with rfl | h1
    · exact hv
    · exact h.valid x (mem_without.1 h1).1) (h.pw.withL k v)
/-- What is answered of a key's putting: an error, or a map. -/
noncomputable def putE (ps : List Pair) (k : Dig) (v : Bytes) : Int := if mapB ps && valB v.length then (if 512 < (withL (without ps k) k v).length then 9 else 0) else 8
noncomputable def putL (ps : List Pair) (k : Dig) (v : Bytes) : List Pair := if putE ps k v = 0 then withL (without ps k) k v else []
noncomputable def dropE (ps : List Pair) (k : Dig) : Int := if mapB ps then (if hasK ps k then 0 else 6) else 8
noncomputable def dropL (ps : List Pair) (k : Dig) : List Pair := if dropE ps k = 0 then without ps k else []
theorem putE_bad {ps : List Pair} {k : Dig} {v : Bytes} (h : (mapB ps && valB v.length) = false) : putE ps k v = 8 ∧ putL ps k v = [] := by
  have : putE ps k v = 8 := by simp [putE, h]
  exact ⟨this, by simp [putL, this]⟩
theorem putE_full {ps : List Pair} {k : Dig} {v : Bytes} (h : (mapB ps && valB v.length) = true) (hl : 512 < (withL (without ps k) k v).length) : putE ps k v = 9 ∧ putL ps k v = [] := by
  have : putE ps k v = 9 := by simp [putE, h, hl]
  exact ⟨this, by simp [putL, this]⟩
theorem putE_ok {ps : List Pair} {k : Dig} {v : Bytes} (h : (mapB ps && valB v.length) = true) (hl : (withL (without ps k) k v).length ≤ 512) : putE ps k v = 0 ∧ putL ps k v = withL (without ps k) k v := by
  have : putE ps k v = 0 := by simp [putE, h]; omega
  exact ⟨this, by simp [putL, this]⟩
theorem put_len {ps : List Pair} (h : MapOk ps) (k : Dig) (v : Bytes) : (withL (without ps k) k v).length = if hasK ps k then ps.length else ps.length + 1 := by
  rw [length_withL, length_without h]
  cases hk : hasK ps k
  · simp
  · obtain ⟨y, hy, _⟩ := hasK_find hk
    have := (List.getElem?_eq_some_iff.1 hy).1
    simp
    omega
theorem putE_iff {ps : List Pair} {k : Dig} {v : Bytes} : putE ps k v = 0 ↔ MapOk ps ∧ valB v.length = true ∧ (withL (without ps k) k v).length ≤ 512 := by
  unfold putE
  rw [← mapB_iff]
  cases h1 : mapB ps <;> cases h2 : valB v.length <;> simp
theorem putL_ok {ps : List Pair} {k : Dig} {v : Bytes} (h : putE ps k v = 0) : putL ps k v = withL (without ps k) k v := by simp [putL, h]
/-- What was put is a map; it is got, and dropped again; all else stays. -/
theorem put_map {ps : List Pair} {k : Dig} {v : Bytes} (h : putE ps k v = 0) : MapOk (putL ps k v) := by
  obtain ⟨h1, h2, h3⟩ := putE_iff.1 h
  rw [putL_ok h]
  exact h1.with k h2 h3
theorem put_got {ps : List Pair} {k : Dig} {v : Bytes} (h : putE ps k v = 0) : gotB (putL ps k v) k = true ∧ gotV (putL ps k v) k = v := by
  have hm := put_map h
  have : (⟨k, v⟩ : Pair) ∈ putL ps k v := by rw [putL_ok h]; exact mem_withL.2 (.inl rfl)
  exact hm.got this
theorem put_other {ps : List Pair} {k o : Dig} {v : Bytes} (h : putE ps k v = 0) (hne : o ≠ k) : gotB (putL ps k v) o = gotB ps o ∧ gotV (putL ps k v) o = gotV ps o := by
  have hm := put_map h
  obtain ⟨h1, _, _⟩ := putE_iff.1 h
  by_cases hx : ∃ x ∈ ps, x.key = o
  · obtain ⟨x, hx, rfl⟩ := hx
    have hx' : x ∈ putL ps k v := by rw [putL_ok h]; exact mem_withL.2 (.inr (mem_without.2 ⟨hx, hne⟩))
    rw [(hm.got hx').1, (hm.got hx').2, (h1.got hx).1, (h1.got hx).2]
    exact ⟨rfl, rfl⟩
  · have h2 : ∀ x ∈ ps, x.key ≠ o := fun x hm e => hx ⟨x, hm, e⟩
    have h3 : ∀ x ∈ putL ps k v, x.key ≠ o := fun x hm => by
      rw [putL_ok h] at hm
      rcases mem_withL.1 hm with rfl | h4
      · exact fun e => hne e.symm
      · exact h2 x (mem_without.1 h4).1
    rw [(hm.got_not h3).1, (hm.got_not h3).2, (h1.got_not h2).1, (h1.got_not h2).2]
    exact ⟨rfl, rfl⟩
theorem put_drop {ps : List Pair} {k : Dig} {v : Bytes} (h : putE ps k v = 0) : dropE (putL ps k v) k = 0 ∧ dropL (putL ps k v) k = without ps k := by
  have hm := put_map h
  obtain ⟨h1, _, _⟩ := putE_iff.1 h
  have hk : hasK (putL ps k v) k = true := (hm.has_iff k).2 ⟨⟨k, v⟩, by rw [putL_ok h]; exact mem_withL.2 (.inl rfl), rfl⟩
  have hd : dropE (putL ps k v) k = 0 := by simp [dropE, mapB_t hm, hk]
  refine ⟨hd, ?_⟩
  simp only [dropL, hd, if_true]
  refine sorted_ext (hm.pw.without k) (h1.pw.without k) fun x => ?_
  rw [mem_without, mem_without, putL_ok h, mem_withL, mem_without]
  constructor
  · rintro ⟨rfl | h2, h3⟩
    · exact absurd rfl h3
    · exact h2
  · rintro ⟨h2, h3⟩
    exact ⟨.inr ⟨h2, h3⟩, h3⟩
end Go.Proofs.YtefneilaongpbaaDoor
