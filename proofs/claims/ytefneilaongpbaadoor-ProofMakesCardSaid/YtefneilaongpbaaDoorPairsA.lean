import Derived.Test.YtefneilaongpbaaDoorBits1
import Derived.Test.YtefneilaongpbaaDoorPrf
import Derived.Test.YtefneilaongpbaaDoorPrf1
/-
  Pairs: the document's order, May, Check, Find, Great; half and find.
-/
set_option linter.unusedVariables false
set_option linter.unusedSimpArgs false
set_option maxRecDepth 100000
set_option maxHeartbeats 4000000
namespace Go.Proofs.YtefneilaongpbaaDoor
open Go Go.Bd Go.RowKit
attribute [local irreducible] G GL GQ

theorem refAhead_call (a b : Dig) (w : World) : Does Tryd.prog 136 #[dv a, dv b] w fun v w' => v = .bool (aheadB a b) ∧ Ext w w' := by
  refine call_walk Tryd.func136 (by kernel_rfl) rfl Tryd.ntmps136 rfl ?_
  rw [ahead_shared]
  refine St0 ?_
  refine GL.box rfl rfl rfl rfl fun b2 w1 hb2 hB2 he1 => ?_
  refine GL.box rfl rfl rfl rfl fun b3 w2 hb3 hB3 he2 => ?_
  replace hB2 := hB2.ext he2
  refine St2 (hB2.all) (hB3.all) ?_
  refine GL.call rfl rfl rfl (refShared_call a b w2) ?_
  rintro r w3 ⟨rfl, he3⟩
  replace hB2 := hB2.ext he3
  replace hB3 := hB3.ext he3
  have he := (he1.trans he2).trans he3
  refine St0 ?_
  refine G.quietTail 11 follows (by kernel_rfl) (by kernel_rfl) (by kernel_rfl) (by kernel_rfl) ?_
  refine QSt0 ?_
  by_cases h : ((sharedB a b : Nat) : Int) < 256
  · refine QSt1 (hB2.all) ?_
    refine GQ.call rfl rfl rfl (fun w' he' => refAt_call a (sharedB a b) (by omega) w') ?_
    refine QSt1 (hB3.all) ?_
    refine GQ.call rfl rfl rfl (fun w' he' => refAt_call b (sharedB a b) (by omega) w') ?_
    by_cases h2 : ((a.bit (sharedB a b) : Nat) : Int) < (b.bit (sharedB a b) : Nat)
    · refine QSt0 ?_
      refine GQ.tail fun w4 he4 => ?_
      refine St0 ?_
      exact G.ret1 rfl rfl rfl rfl ⟨by simp; omega, he.trans he4⟩
    · refine QSt0 ?_
      refine GQ.tail fun w4 he4 => ?_
      refine St0 ?_
      exact G.ret1 rfl rfl rfl rfl ⟨by simp; omega, he.trans he4⟩
  · refine QSt0 ?_
    refine GQ.tail fun w4 he4 => ?_
    refine St0 ?_
    exact G.ret1 rfl rfl rfl rfl ⟨by simp; omega, he.trans he4⟩

theorem great5_call (v : Value) (ps : List Pair) (n : Int) (S : Where) (w : World) (h : RdP S w v ps) (hm : n ≤ 1000000) :
    Does Tryd.prog 23 #[v, iv n] w fun r w' => (∃ g, r = .bool g ∧ (g = false → (ps.length : Int) ≤ n ∧ ∀ (i : Nat) (x : Pair), ps[i]? = some x → x.val.length ≤ 100)) ∧ w' = w := by
  refine call_walk Tryd.func23 (by kernel_rfl) rfl Tryd.ntmps23 rfl ?_
  obtain ⟨p, c, rfl, hc⟩ := h.isSlice
  refine St0 ?_
  by_cases hn : (ps.length : Int) > n
  · refine St0 ?_
    exact G.ret1 rfl rfl rfl rfl ⟨⟨true, rfl, by simp⟩, rfl⟩
  refine St0 ?_
  refine G.sub (f' := [(5, iv ((0 : Nat) : Int)), (0, .slice p ps.length c)]) (by (repeat (first | exact Fr.sub_nil _ | refine Fr.sub_cons rfl ?_))) ?_
  refine G.rounds (α := Nat) (fun j f w' => j ≤ ps.length ∧ w' = w ∧ (∀ (i : Nat) (x : Pair), i < j → ps[i]? = some x → x.val.length ≤ 100) ∧ f = [(5, iv j), (0, .slice p ps.length c)]) (fun j => ps.length - j) ?round 0 ⟨by omega, rfl, fun i x hi => by omega, rfl⟩
  rintro j f w1 ⟨hj, rfl, hall, rfl⟩ again
  by_cases hlt : (j : Int) < ps.length
  · obtain ⟨x, hx⟩ : ∃ x, ps[j]? = some x := ⟨_, List.getElem?_eq_getElem (by omega)⟩
    obtain ⟨b, o, c', u, hv, hu, hA⟩ := h.elem hx
    cases hv
    obtain ⟨pu, cu, rfl, hcu⟩ := RdF.isSlice hu
    refine St0 ?_
    (refine GL.indexSlice (j) 33 ((o + j * 33)) hT rfl rfl rfl rfl rfl rfl rfl rfl ?_ ?_ ?_ ?_; (focus omega); (focus omega); (focus omega))
    refine St1 ((pairAt hA).2) ?_
    by_cases hb : (x.val.length : Int) > 100
    · refine St0 ?_
      exact G.ret1 rfl rfl rfl rfl ⟨⟨true, rfl, by simp⟩, rfl⟩
    · refine St0 ?_
      refine G.sub (by (repeat (first | exact Fr.sub_nil _ | refine Fr.sub_cons rfl ?_))) (again (j + 1) _ _ (by omega) ⟨by omega, rfl, ?_, rfl⟩)
      intro i z hi hz
      rcases Nat.lt_or_eq_of_le (Nat.lt_succ_iff.1 hi) with h1 | h1
      · exact hall i z h1 hz
      · subst h1; rw [hx] at hz; cases hz; omega
  · refine St0 ?_
    refine G.ret1 rfl rfl rfl rfl ⟨⟨false, rfl, fun _ => ⟨by omega, fun i x hx => hall i x ?_ hx⟩⟩, rfl⟩
    have := (List.getElem?_eq_some_iff.1 hx).1
    omega

theorem refMay5_call (v : Value) (ps : List Pair) (S : Where) (w : World) (h : RdP S w v ps) :
    Does Tryd.prog 86 #[v] w fun r w' => r = .bool (mapB ps) ∧ Ext w w' := by
  refine call_walk Tryd.func86 (by kernel_rfl) rfl Tryd.ntmps86 rfl ?_
  obtain ⟨p, c, rfl, hc⟩ := h.isSlice
  refine St0 ?_
  by_cases h512 : (ps.length : Int) > 512
  · refine St0 ?_
    exact G.ret1 rfl rfl rfl rfl ⟨by rw [mapB_f fun h => by have := h.few; omega], Ext.refl w⟩
  refine St0 ?_
  refine G.sub (f' := [(3, iv ((0 : Nat) : Int)), (0, .slice p ps.length c)]) (by (repeat (first | exact Fr.sub_nil _ | refine Fr.sub_cons rfl ?_))) ?_
  refine G.rounds (α := Nat) (fun j f w' => j ≤ ps.length ∧ Ext w w' ∧ (∀ i x, i < j → ps[i]? = some x → valB x.val.length = true) ∧ (∀ i x y, i + 1 < j → ps[i]? = some x → ps[i + 1]? = some y → x.key.num < y.key.num) ∧
    f = [(3, iv j), (0, .slice p ps.length c)]) (fun j => ps.length - j) ?round 0 ⟨by omega, Ext.refl w, fun i x hi => by omega, fun i x y hi => by omega, rfl⟩
  rintro j f w1 ⟨hj, he1, hval, hsort, rfl⟩ again
  by_cases hlt : (j : Int) < ps.length
  · obtain ⟨x, hx⟩ : ∃ x, ps[j]? = some x := ⟨_, List.getElem?_eq_getElem (by omega)⟩
    obtain ⟨b, o, c', u, hv, hu, hA⟩ := (h.ext he1).elem hx
    cases hv
    obtain ⟨pu, cu, rfl, hcu⟩ := RdF.isSlice hu
    have hP := pairAt hA
    refine St0 ?_
    refine G.quiet follows (by kernel_rfl) ?_
    refine QSt0 ?_
    (refine GQ.indexSlice (j) 33 ((o + j * 33)) hT rfl rfl rfl rfl rfl rfl rfl rfl ?_ ?_ ?_ ?_; (focus omega); (focus omega); (focus omega))
    refine QSt1 (hP.2) ?_
    refine GQ.call rfl rfl rfl (fun w' he' => (refValue_call _ _ _ w').mono fun v w'' ⟨h1, h2⟩ => ⟨h1, by rw [h2]; exact Ext.refl _⟩) ?_
    cases hok : valB x.val.length
    · refine QSt0 ?_
      refine GQ.nil fun w4 he4 => ?_
      refine St0 ?_
      refine G.ret1 rfl rfl rfl rfl ⟨?_, he1.trans he4⟩
      rw [mapB_f fun hm => ?_]
      have := hm.val j x hx
      rw [hok] at this
      cases this
    have hval' : ∀ i z, i < j + 1 → ps[i]? = some z → valB z.val.length = true := by
      intro i z hi hz
      rcases Nat.lt_or_eq_of_le (Nat.lt_succ_iff.1 hi) with h1 | h1
      · exact hval i z h1 hz
      · subst h1; rw [hx] at hz; cases hz; exact hok
    refine QSt0 ?_
    by_cases hj0 : (j : Int) > 0
    · obtain ⟨y, hy⟩ : ∃ y, ps[j - 1]? = some y := ⟨_, List.getElem?_eq_getElem (by omega)⟩
      obtain ⟨b', o', c'', u', hv', hu', hA'⟩ := (h.ext he1).elem hy
      cases hv'
      refine QSt0 ?_
      (refine GQ.indexSlice ((j - 1)) 33 ((o + (j - 1) * 33)) hT rfl rfl rfl rfl rfl rfl rfl rfl ?_ ?_ ?_ ?_; (focus omega); (focus omega); (focus omega))
      refine QSt1 ((pairAt hA').1) ?_
      (refine GQ.indexSlice (j) 33 ((o + j * 33)) hT rfl rfl rfl rfl rfl rfl rfl rfl ?_ ?_ ?_ ?_; (focus omega); (focus omega); (focus omega))
      refine QSt1 (hP.1) ?_
      refine GQ.call rfl rfl rfl (fun w' he' => refAhead_call y.key x.key w') ?_
      cases hah : aheadB y.key x.key
      · refine QSt0 ?_
        refine GQ.nil fun w4 he4 => ?_
        refine St0 ?_
        refine G.ret1 rfl rfl rfl rfl ⟨?_, he1.trans he4⟩
        rw [mapB_f fun hm => ?_]
        have := hm.sorted (j - 1) y x hy (by rw [show j - 1 + 1 = j by omega]; exact hx)
        simp [aheadB] at hah
        omega
      · refine QSt0 ?_
        refine GQ.nil fun w4 he4 => ?_
        refine St0 ?_
        refine G.sub (by (repeat (first | exact Fr.sub_nil _ | refine Fr.sub_cons rfl ?_))) (again (j + 1) _ _ (by omega) ⟨by omega, he1.trans he4, hval', ?_, rfl⟩)
        intro i z z' hi hz hz'
        rcases Nat.lt_or_eq_of_le (Nat.lt_succ_iff.1 hi) with h1 | h1
        · exact hsort i z z' h1 hz hz'
        · have : i = j - 1 := by omega
          subst this
          rw [hy] at hz; cases hz
          rw [show j - 1 + 1 = j by omega, hx] at hz'; cases hz'
          simpa [aheadB] using hah
    · refine QSt0 ?_
      refine GQ.nil fun w4 he4 => ?_
      refine St0 ?_
      exact G.sub (by (repeat (first | exact Fr.sub_nil _ | refine Fr.sub_cons rfl ?_))) (again (j + 1) _ _ (by omega) ⟨by omega, he1.trans he4, hval', fun i z z' hi => by omega, rfl⟩)
  · refine St0 ?_
    refine G.ret1 rfl rfl rfl rfl ⟨?_, he1⟩
    rw [mapB_t ⟨by omega, fun i x hx => hval i x (by have := (List.getElem?_eq_some_iff.1 hx).1; omega) hx, fun i x y hx hy => hsort i x y (by have := (List.getElem?_eq_some_iff.1 hy).1; omega) hx hy⟩]
end Go.Proofs.YtefneilaongpbaaDoor
/-
  Pairs: Check, Find; half and find; Get, both sides.
-/
set_option linter.unusedVariables false
set_option linter.unusedSimpArgs false
set_option maxRecDepth 100000
set_option maxHeartbeats 4000000
namespace Go.Proofs.YtefneilaongpbaaDoor
open Go Go.Bd Go.RowKit
attribute [local irreducible] G GL GQ

/-- The first place of a key. -/
def FindAt (ps : List Pair) (k : Dig) (r : Int) : Prop := (∃ (i : Nat) (x : Pair), r = i ∧ ps[i]? = some x ∧ x.key = k) ∨ (r = -1 ∧ ∀ (i : Nat) (x : Pair), ps[i]? = some x → x.key ≠ k)
theorem find5_call (v : Value) (ps : List Pair) (k : Dig) (S : Where) (w : World) (h : RdP S w v ps) (hm : ps.length ≤ 4294967296) :
    Does Tryd.prog 119 #[v, dv k] w fun r w' => (∃ i, r = iv i ∧ FindAt ps k i) ∧ Ext w w' := by
  refine call_walk Tryd.func119 (by kernel_rfl) rfl Tryd.ntmps119 rfl ?_
  obtain ⟨p, c, rfl, hc⟩ := h.isSlice
  refine St0 ?_
  refine GL.box rfl rfl rfl rfl fun b3 w0 hb3 hB3 he0 => ?_
  refine St0 ?_
  refine G.sub (f' := [(5, iv ((0 : Nat) : Int)), (0, .slice p ps.length c), (3, ptr b3 0)]) (by (repeat (first | exact Fr.sub_nil _ | refine Fr.sub_cons rfl ?_))) ?_
  refine G.rounds (α := Nat) (fun j f w' => j ≤ ps.length ∧ Ext w0 w' ∧ (∀ (i : Nat) (x : Pair), i < j → ps[i]? = some x → x.key ≠ k) ∧ f = [(5, iv j), (0, .slice p ps.length c), (3, ptr b3 0)]) (fun j => ps.length - j) ?round 0 ⟨by omega, Ext.refl _, fun i x hi => by omega, rfl⟩
  rintro j f w1 ⟨hj, he1, hall, rfl⟩ again
  replace hB3 := hB3.ext he1
  have he := he0.trans he1
  by_cases hlt : (j : Int) < ps.length
  · obtain ⟨x, hx⟩ : ∃ x, ps[j]? = some x := ⟨_, List.getElem?_eq_getElem (by omega)⟩
    obtain ⟨b, o, c', u, hv, hu, hA⟩ := (h.ext he).elem hx
    cases hv
    refine St0 ?_
    refine G.quiet follows (by kernel_rfl) ?_
    refine QSt0 ?_
    (refine GQ.indexSlice (j) 33 ((o + j * 33)) hT rfl rfl rfl rfl rfl rfl rfl rfl ?_ ?_ ?_ ?_; (focus omega); (focus omega); (focus omega))
    refine QSt2 ((pairAt hA).1) (hB3.all) ?_
    by_cases hk : x.key = k
    · refine QSt0 ?_
      refine GQ.nil fun w2 he2 => ?_
      refine St0 ?_
      exact G.ret1 rfl rfl rfl rfl ⟨⟨_, rfl, .inl ⟨j, x, rfl, hx, hk⟩⟩, he.trans he2⟩
    · refine QSt0 ?_
      refine GQ.nil fun w2 he2 => ?_
      refine St0 ?_
      refine G.sub (by (repeat (first | exact Fr.sub_nil _ | refine Fr.sub_cons rfl ?_))) (again (j + 1) _ _ (by omega) ⟨by omega, he1.trans he2, ?_, rfl⟩)
      intro i z hi hz
      rcases Nat.lt_or_eq_of_le (Nat.lt_succ_iff.1 hi) with h1 | h1
      · exact hall i z h1 hz
      · subst h1; rw [hx] at hz; cases hz; exact hk
  · refine St0 ?_
    refine G.ret1 rfl rfl rfl rfl ⟨⟨_, rfl, .inr ⟨rfl, fun i x hx => hall i x ?_ hx⟩⟩, he⟩
    have := (List.getElem?_eq_some_iff.1 hx).1
    omega

theorem half_call (v : Value) (ps : List Pair) (g : FuncId) (first cap : List Value) (q : Pair → Bool) (n : Nat) (S : Where) (w : World) (h : RdP S w v ps) (hm : ps.length ≤ 4294967296) (hn : n ≤ ps.length)
    (hq : ∀ (i : Nat) (x : Pair), ps[i]? = some x → (q x = true ↔ i < n))
    (hso : ∀ w', Ext w w' → ∀ (x : Pair) (u : Value), x ∈ ps → Does Tryd.prog g (first ++ [Value.agg (x.key.cells ++ [u]).toArray] ++ cap).toArray w' fun r w'' => r = .bool (q x) ∧ Ext w' w'') :
    Does Tryd.prog 133 #[v, .func (.func g) first.toArray cap.toArray] w fun r w' => r = iv (n : Nat) ∧ Ext w w' := by
  refine call_walk Tryd.func133 (by kernel_rfl) rfl Tryd.ntmps133 rfl ?_
  obtain ⟨p, c, rfl, hc⟩ := h.isSlice
  refine St0 ?_
  refine G.sub (f' := [(5, iv ((0 : Nat) : Int)), (6, iv (ps.length : Nat)), (0, .slice p ps.length c), (1, .func (.func g) first.toArray cap.toArray)]) (by (repeat (first | exact Fr.sub_nil _ | refine Fr.sub_cons rfl ?_))) ?_
  refine G.rounds (α := Nat × Nat) (fun z f w' => z.1 ≤ n ∧ n ≤ z.2 ∧ z.2 ≤ ps.length ∧ Ext w w' ∧ f = [(5, iv (z.1 : Nat)), (6, iv (z.2 : Nat)), (0, .slice p ps.length c), (1, .func (.func g) first.toArray cap.toArray)]) (fun z => z.2 - z.1) ?round (0, ps.length) ⟨by omega, hn, Nat.le_refl _, Ext.refl w, rfl⟩
  rintro ⟨lo, hi⟩ f w1 ⟨h1, h2, h3, he1, rfl⟩ again
  simp only at h1 h2 h3
  by_cases hlt : (lo : Int) < hi
  · obtain ⟨mid, hmid⟩ : ∃ mid, mid = (lo + hi) / 2 := ⟨_, rfl⟩
    have hmid' : ((lo : Int) + hi) / 2 = (mid : Nat) := by omega
    obtain ⟨x, hx⟩ : ∃ x, ps[mid]? = some x := ⟨_, List.getElem?_eq_getElem (by omega)⟩
    obtain ⟨b, o, c', u, hv, hu, hA⟩ := (h.ext he1).elem hx
    cases hv
    refine St0 ?_
    rw [hmid']
    (refine GL.indexSlice (mid) 33 ((o + mid * 33)) hT rfl rfl rfl rfl rfl rfl rfl rfl ?_ ?_ ?_ ?_; (focus omega); (focus omega); (focus omega))
    refine GL.loadN hT rfl rfl rfl rfl rfl hA (by simp [Dig.len]; rfl) ?_
    refine GL.callv rfl rfl rfl rfl (hso w1 he1 x u (List.mem_of_getElem? hx)) ?_
    rintro r w2 ⟨rfl, he2⟩
    have hqx := hq _ x hx
    cases hqv : q x
    · rw [hqv] at hqx
      refine St0 ?_
      refine G.sub (by (repeat (first | exact Fr.sub_nil _ | refine Fr.sub_cons rfl ?_))) (again (lo, mid) _ _ (by simp only; omega) ⟨h1, ?_, by simp only; omega, he1.trans he2, rfl⟩)
      · have : ¬ mid < n := by simpa using hqx
        simp only
        omega
    · rw [hqv] at hqx
      refine St0 ?_
      refine G.sub (by (repeat (first | exact Fr.sub_nil _ | refine Fr.sub_cons rfl ?_))) (again (mid + 1, hi) _ _ (by simp only; omega) ⟨?_, h2, h3, he1.trans he2, rfl⟩)
      · have : mid < n := by simpa using hqx
        simp only
        omega
  · refine St0 ?_
    refine G.ret1 rfl rfl rfl rfl ⟨?_, he1⟩
    show iv _ = iv _
    congr 1
    omega

theorem find1_call (x : Pair) (u : Value) (k : Dig) (b : Nat) (S : Where) (w : World) (hB : At S w b 0 k.cells) :
    Does Tryd.prog 157 #[.agg (x.key.cells ++ [u]).toArray, ptr b 0] w fun r w' => r = .bool (aheadB x.key k) ∧ Ext w w' := by
  refine call_walk Tryd.func157 (by kernel_rfl) rfl Tryd.ntmps157 rfl ?_
  refine St0 ?_
  refine GL.box rfl rfl rfl rfl fun b2 w1 hb2 hB2 he1 => ?_
  have hP := pairAt hB2.all
  replace hB := hB.ext he1
  refine St2 (hP.1) (hB) ?_
  refine GL.call rfl rfl rfl (ahead_call x.key k w1) ?_
  rintro r w2 ⟨rfl, he2⟩
  refine St0 ?_
  exact G.ret1 rfl rfl rfl rfl ⟨rfl, he1.trans he2⟩

/-- How many keys are ahead of a key. -/
def ahead (ps : List Pair) (k : Dig) : Nat := (ps.filter fun x => aheadB x.key k).length
theorem ahead_le (ps : List Pair) (k : Dig) : ahead ps k ≤ ps.length := List.length_filter_le _ _
theorem MapOk.lt {ps : List Pair} (h : MapOk ps) : ∀ (d i : Nat) (x y : Pair), ps[i]? = some x → ps[i + d + 1]? = some y → x.key.num < y.key.num
  | 0, i, x, y, hx, hy => h.sorted i x y hx hy
  | d + 1, i, x, y, hx, hy => by
    have hl := (List.getElem?_eq_some_iff.1 hy).1
    obtain ⟨z, hz⟩ : ∃ z, ps[i + d + 1]? = some z := ⟨_, List.getElem?_eq_getElem (by omega)⟩
    have h1 := MapOk.lt h d i x z hx hz
    have h2 := h.sorted (i + d + 1) z y hz (by rw [show i + d + 1 + 1 = i + (d + 1) + 1 by omega]; exact hy)
    omega
theorem MapOk.lt' {ps : List Pair} (h : MapOk ps) {i j : Nat} {x y : Pair} (hij : i < j) (hx : ps[i]? = some x) (hy : ps[j]? = some y) : x.key.num < y.key.num :=
  h.lt (j - i - 1) i x y hx (by rw [show i + (j - i - 1) + 1 = j by omega]; exact hy)
/-- Where a test holds of the first elements alone, so many does it hold of. -/
theorem filter_front {α : Type} (q : α → Bool) : ∀ (l : List α), (∀ (i j : Nat) (x y : α), i < j → l[i]? = some x → l[j]? = some y → q y = true → q x = true) → ∀ (i : Nat) (x : α), l[i]? = some x → (q x = true ↔ i < (l.filter q).length)
  | [], _, i, x, h => by simp at h
  | a :: l, hm, i, x, h => by
    have hm' : ∀ (i j : Nat) (x y : α), i < j → l[i]? = some x → l[j]? = some y → q y = true → q x = true := fun i j x y hij hx hy => hm (i + 1) (j + 1) x y (by omega) (by simpa using hx) (by simpa using hy)
    cases ha : q a
    · have hall : ∀ y ∈ l, q y = false := by
        intro y hy
        obtain ⟨j, hj⟩ := List.mem_iff_getElem?.1 hy
        cases hq : q y
        · rfl
        · have := hm 0 (j + 1) a y (by omega) rfl (by simpa using hj) hq
          rw [ha] at this
          cases this
      have hf : l.filter q = [] := List.filter_eq_nil_iff.2 fun y hy => by rw [hall y hy]; simp
      rw [List.filter_cons_of_neg (by rw [ha]; simp), hf]
      cases i with
      | zero => simp at h; subst h; simp [ha]
      | succ i =>
        simp at h
        have := hall x (List.mem_of_getElem? h)
        simp [this]
    · rw [List.filter_cons_of_pos ha]
      cases i with
      | zero => simp at h; subst h; simp [ha]
      | succ i =>
        simp at h
        have := filter_front q l hm' i x h
        rw [this]
        simp
theorem ahead_iff {ps : List Pair} (h : MapOk ps) (k : Dig) (i : Nat) (x : Pair) (hx : ps[i]? = some x) : aheadB x.key k = true ↔ i < ahead ps k :=
  filter_front (fun x => aheadB x.key k) ps (fun i j x y hij hx hy hq => by
    have := h.lt' hij hx hy
    simp only [aheadB, decide_eq_true_eq] at hq ⊢
    omega) i x hx
/-- Has a map a key? -/
def hasK (ps : List Pair) (k : Dig) : Bool := match ps[ahead ps k]? with
  | some x => decide (x.key = k)
  | none => false
theorem find_call (v : Value) (ps : List Pair) (k : Dig) (S : Where) (w : World) (h : RdP S w v ps) (hok : MapOk ps) :
    Does Tryd.prog 114 #[v, dv k] w fun r w' => r = .tuple #[iv (ahead ps k : Nat), .bool (hasK ps k)] ∧ Ext w w' := by
  refine call_walk Tryd.func114 (by kernel_rfl) rfl Tryd.ntmps114 rfl ?_
  obtain ⟨p, c, rfl, hc⟩ := h.isSlice
  have hfew := hok.few
  have hle := ahead_le ps k
  refine St0 ?_
  refine GL.box rfl rfl rfl rfl fun b3 w1 hb3 hB3 he1 => ?_
  refine St0 ?_
  refine GL.call rfl rfl rfl (half_call (.slice p ps.length c) ps 157 [] [ptr b3 0] (fun x => aheadB x.key k) (ahead ps k) S w1 (h.ext he1) (by omega) hle (ahead_iff hok k) (fun w' he' x u hx => find1_call x u k b3 any w' (hB3.ext he').all)) ?_
  rintro r w2 ⟨rfl, he2⟩
  replace hB3 := hB3.ext he2
  have he := he1.trans he2
  refine St0 ?_
  refine G.quietTail 15 follows (by kernel_rfl) (by kernel_rfl) (by kernel_rfl) (by kernel_rfl) ?_
  refine QSt0 ?_
  by_cases hlt : ((ahead ps k : Nat) : Int) < ps.length
  · obtain ⟨x, hx⟩ : ∃ x, ps[ahead ps k]? = some x := ⟨_, List.getElem?_eq_getElem (by omega)⟩
    obtain ⟨b, o, c', u, hv, hu, hA⟩ := (h.ext he).elem hx
    cases hv
    refine QSt0 ?_
    (refine GQ.indexSlice ((ahead ps k)) 33 ((o + ahead ps k * 33)) hT rfl rfl rfl rfl rfl rfl rfl rfl ?_ ?_ ?_ ?_; (focus omega); (focus omega); (focus omega))
    refine QSt2 ((pairAt hA).1) (hB3.all) ?_
    refine GQ.eqdig rfl rfl rfl rfl ?_
    refine QSt0 ?_
    refine GQ.tail fun w4 he4 => ?_
    refine St0 ?_
    exact G.ret2 rfl rfl rfl rfl rfl ⟨by simp [hasK, hx], he.trans he4⟩
  · refine QSt0 ?_
    refine GQ.tail fun w4 he4 => ?_
    refine St0 ?_
    exact G.ret2 rfl rfl rfl rfl rfl ⟨by simp [hasK, List.getElem?_eq_none (show ps.length ≤ ahead ps k by omega)], he.trans he4⟩
end Go.Proofs.YtefneilaongpbaaDoor
/-
  Pairs: a key's value; comparing pairs.
-/
set_option linter.unusedVariables false
set_option linter.unusedSimpArgs false
set_option maxRecDepth 100000
set_option maxHeartbeats 4000000
namespace Go.Proofs.YtefneilaongpbaaDoor
open Go Go.Bd Go.RowKit
attribute [local irreducible] G GL GQ

theorem found_ahead {ps : List Pair} (h : MapOk ps) {i : Nat} {x : Pair} {k : Dig} (hx : ps[i]? = some x) (hk : x.key = k) : i = ahead ps k ∧ hasK ps k = true := by
  have hle := ahead_le ps k
  have h1 : ¬ i < ahead ps k := by
    intro hlt
    have := (ahead_iff h k i x hx).2 hlt
    rw [hk, aheadB_self] at this
    cases this
  have h2 : ¬ ahead ps k < i := by
    intro hlt
    have hil := (List.getElem?_eq_some_iff.1 hx).1
    obtain ⟨y, hy⟩ : ∃ y, ps[ahead ps k]? = some y := ⟨_, List.getElem?_eq_getElem (by omega)⟩
    have h3 := h.lt' hlt hy hx
    have h4 : aheadB y.key k = true := by simp only [aheadB, decide_eq_true_eq]; rw [← hk]; exact h3
    have := (ahead_iff h k _ y hy).1 h4
    omega
  have e : i = ahead ps k := by omega
  refine ⟨e, ?_⟩
  simp [hasK, ← e, hx, hk]
theorem hasK_find {ps : List Pair} {k : Dig} (h : hasK ps k = true) : ∃ x, ps[ahead ps k]? = some x ∧ x.key = k := by
  unfold hasK at h
  split at h
  · rename_i x hx; exact ⟨x, hx, by simpa using h⟩
  · cases h
theorem hasK_none {ps : List Pair} {k : Dig} (h : ∀ (i : Nat) (x : Pair), ps[i]? = some x → x.key ≠ k) : hasK ps k = false := by
  cases hh : hasK ps k
  · rfl
  · obtain ⟨x, hx, hk⟩ := hasK_find hh
    exact absurd hk (h _ x hx)
noncomputable def gotB (ps : List Pair) (k : Dig) : Bool := mapB ps && hasK ps k
noncomputable def gotV (ps : List Pair) (k : Dig) : Bytes := if gotB ps k then ((ps[ahead ps k]?).map Pair.val).getD [] else []
theorem gotV_f {ps : List Pair} {k : Dig} (h : gotB ps k = false) : gotV ps k = [] := by simp [gotV, h]
theorem gotV_t {ps : List Pair} {k : Dig} {x : Pair} (h : gotB ps k = true) (hx : ps[ahead ps k]? = some x) : gotV ps k = x.val := by simp [gotV, h, hx]
theorem valB_le {n : Nat} (h : valB n = true) : 0 < n ∧ n ≤ 64 := by simpa [valB] using h

theorem get_call (v : Value) (ps : List Pair) (k : Dig) (S : Where) (w : World) (h : RdP S w v ps) :
    Does Tryd.prog 74 #[v, dv k] w fun r w' => ∃ u, r = .tuple #[u, .bool (gotB ps k)] ∧ OwnB w.heap.size w' u (gotV ps k) ∧ Ext w w' := by
  refine call_walk Tryd.func74 (by kernel_rfl) rfl Tryd.ntmps74 rfl ?_
  obtain ⟨p, c, rfl, hc⟩ := h.isSlice
  refine St0 ?_
  refine GL.box rfl rfl rfl rfl fun b3 w1 hb3 hB3 he1 => ?_
  refine St0 ?_
  refine GL.call rfl rfl rfl (pcheck_call _ ps S w1 (h.ext he1)) ?_
  rintro r w2 ⟨rfl, he2⟩
  replace hB3 := hB3.ext he2
  have he := he1.trans he2
  cases hok : mapB ps
  · have e0 : gotB ps k = false := by simp [gotB, hok]
    have e1 : badE false = 8 := rfl
    rw [e1]
    refine St0 ?_
    exact G.ret2 rfl rfl rfl rfl rfl ⟨_, by rw [e0], by rw [gotV_f e0]; exact Own.bare _ _ none 1 _, he⟩
  have hM := mapB_iff.1 hok
  have e1 : badE true = 0 := rfl
  rw [e1]
  refine St1 (hB3.all) ?_
  refine GL.call rfl rfl rfl (find_call _ ps k S w2 (h.ext he) hM) ?_
  rintro r w3 ⟨rfl, he3⟩
  have hE := he.trans he3
  refine St0 ?_
  cases hh : hasK ps k
  · have e0 : gotB ps k = false := by simp [gotB, hh]
    refine St0 ?_
    exact G.ret2 rfl rfl rfl rfl rfl ⟨_, by rw [e0], by rw [gotV_f e0]; exact Own.bare _ _ none 1 _, hE⟩
  · have e0 : gotB ps k = true := by simp [gotB, hok, hh]
    obtain ⟨x, hx, hk⟩ := hasK_find hh
    have hvl := valB_le (hM.val _ x hx)
    have hlt := (List.getElem?_eq_some_iff.1 hx).1
    obtain ⟨b, o, c', u, hv, hu, hA⟩ := (h.ext hE).elem hx
    cases hv
    refine St0 ?_
    (refine GL.indexSlice ((ahead ps k)) 33 ((o + ahead ps k * 33)) hT rfl rfl rfl rfl rfl rfl rfl rfl ?_ ?_ ?_ ?_; (focus omega); (focus omega); (focus omega))
    refine St1 ((pairAt hA).2) ?_
    refine GL.call rfl rfl rfl (cloneB_call u x.val _ w3 hu (by omega)) ?_
    rintro r w4 ⟨ho, he4⟩
    refine St0 ?_
    exact G.ret2 rfl rfl rfl rfl rfl ⟨_, by rw [e0], by rw [gotV_t e0 hx]; exact ho.mono hE.size, hE.trans he4⟩

theorem pair_eq (a b : Pair) : decide (a = b) = (decide (a.key = b.key) && decide (a.val = b.val)) := by
  rw [Bool.eq_iff_iff]
  cases a
  cases b
  simp
theorem refSame5_call (v u : Value) (xs ys : List Pair) (S S' : Where) (w : World) (h : RdP S w v xs) (h' : RdP S' w u ys) (hmax : xs.length ≤ 4294967296) :
    Does Tryd.prog 55 #[v, u] w fun r w' => r = .bool (decide (xs = ys)) ∧ Ext w w' := by
  refine call_walk Tryd.func55 (by kernel_rfl) rfl Tryd.ntmps55 rfl ?_
  obtain ⟨p, c, rfl, hc⟩ := h.isSlice
  obtain ⟨p', c', rfl, hc'⟩ := h'.isSlice
  refine St0 ?_
  by_cases hl : (xs.length : Int) = ys.length
  · have hl' : xs.length = ys.length := by omega
    refine St0 ?_
    refine G.sub (f' := [(5, iv ((0 : Nat) : Int)), (0, .slice p xs.length c), (1, .slice p' ys.length c')]) (by (repeat (first | exact Fr.sub_nil _ | refine Fr.sub_cons rfl ?_))) ?_
    refine G.rounds (α := Nat) (fun j f w' => j ≤ xs.length ∧ Ext w w' ∧ (∀ i, i < j → xs[i]? = ys[i]?) ∧ f = [(5, iv j), (0, .slice p xs.length c), (1, .slice p' ys.length c')]) (fun j => xs.length - j) ?round 0 ⟨by omega, Ext.refl w, fun i hi => by omega, rfl⟩
    rintro j f w1 ⟨hj, he1, heq, rfl⟩ again
    by_cases hlt : (j : Int) < xs.length
    · obtain ⟨x, hx⟩ : ∃ x, xs[j]? = some x := ⟨_, List.getElem?_eq_getElem (by omega)⟩
      obtain ⟨y, hy⟩ : ∃ y, ys[j]? = some y := ⟨_, List.getElem?_eq_getElem (by omega)⟩
      obtain ⟨b, o, c2, ux, hv, hux, hA⟩ := (h.ext he1).elem hx
      obtain ⟨b', o', c2', uy, hv', huy, hA'⟩ := (h'.ext he1).elem hy
      cases hv
      cases hv'
      refine St0 ?_
      refine G.quiet follows (by kernel_rfl) ?_
      refine QSt0 ?_
      (refine GQ.indexSlice (j) 33 ((o + j * 33)) hT rfl rfl rfl rfl rfl rfl rfl rfl ?_ ?_ ?_ ?_; (focus omega); (focus omega); (focus omega))
      refine QSt1 ((pairAt hA).1) ?_
      (refine GQ.indexSlice (j) 33 ((o' + j * 33)) hT rfl rfl rfl rfl rfl rfl rfl rfl ?_ ?_ ?_ ?_; (focus omega); (focus omega); (focus omega))
      refine QSt1 ((pairAt hA').1) ?_
      by_cases hb : x.key = y.key
      · refine QSt0 ?_
        (refine GQ.indexSlice (j) 33 ((o + j * 33)) hT rfl rfl rfl rfl rfl rfl rfl rfl ?_ ?_ ?_ ?_; (focus omega); (focus omega); (focus omega))
        refine QSt1 ((pairAt hA).2) ?_
        (refine GQ.indexSlice (j) 33 ((o' + j * 33)) hT rfl rfl rfl rfl rfl rfl rfl rfl ?_ ?_ ?_ ?_; (focus omega); (focus omega); (focus omega))
        refine QSt1 ((pairAt hA').2) ?_
        refine GQ.call rfl rfl rfl (fun w' he' => (same_call ux uy _ _ _ _ w' (RdB.ext hux he') (RdB.ext huy he')).mono fun r w'' ⟨h1, h2⟩ => ⟨h1, by rw [h2]; exact Ext.refl _⟩) ?_
        cases hv : decide (x.val = y.val)
        · refine QSt0 ?_
          refine GQ.nil fun w2 he2 => ?_
          refine St0 ?_
          refine G.ret1 rfl rfl rfl rfl ⟨?_, he1.trans he2⟩
          rw [not_eq_at (i := j)]
          rw [hx, hy]
          intro e
          simp only [Option.some.injEq] at e
          rw [e] at hv
          simp at hv
        · refine QSt0 ?_
          refine GQ.nil fun w2 he2 => ?_
          refine St0 ?_
          refine G.sub (by (repeat (first | exact Fr.sub_nil _ | refine Fr.sub_cons rfl ?_))) (again (j + 1) _ _ (by omega) ⟨by omega, he1.trans he2, ?_, rfl⟩)
          intro i hi
          rcases Nat.lt_or_eq_of_le (Nat.lt_succ_iff.1 hi) with h1 | h1
          · exact heq i h1
          · subst h1
            rw [hx, hy]
            have : decide (x = y) = true := by rw [pair_eq, hv]; simp [hb]
            rw [of_decide_eq_true this]
      · refine QSt0 ?_
        refine GQ.nil fun w2 he2 => ?_
        refine St0 ?_
        refine G.ret1 rfl rfl rfl rfl ⟨?_, he1.trans he2⟩
        rw [not_eq_at (i := j)]
        rw [hx, hy]
        intro e
        simp only [Option.some.injEq] at e
        exact hb (by rw [e])
    · refine St0 ?_
      refine G.ret1 rfl rfl rfl rfl ⟨?_, he1⟩
      rw [all_eq hl' fun i hi => heq i (by omega)]
  · refine St0 ?_
    refine G.ret1 rfl rfl rfl rfl ⟨?_, Ext.refl w⟩
    rw [not_eq_len (by omega)]
end Go.Proofs.YtefneilaongpbaaDoor
