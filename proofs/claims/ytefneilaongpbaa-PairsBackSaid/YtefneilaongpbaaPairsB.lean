/-
  Pairs: Check, Find; half and find; Get, both sides.
-/
import Derived.Test.YtefneilaongpbaaPairsA
import Derived.Test.YtefneilaongpbaaPrf1
set_option linter.unusedVariables false
set_option linter.unusedSimpArgs false
set_option maxRecDepth 100000
set_option maxHeartbeats 4000000
namespace Go.Proofs.Ytefneilaongpbaa
open Go Go.Bd Go.RowKit
attribute [local irreducible] G GL GQ

theorem refCheck5_call (v : Value) (ps : List Pair) (S : Where) (w : World) (h : RdP S w v ps) :
    Does Try.prog 37 #[v] w fun r w' => r = iv (badE (mapB ps)) ∧ Ext w w' := by
  refine call_walk Try.func37 (by kernel_rfl) rfl Try.ntmps37 rfl ?_
  refine St0 ?_
  refine GL.call rfl rfl rfl (refMay5_call v ps S w h) ?_
  rintro r w2 ⟨rfl, he2⟩
  cases hok : mapB ps
  · refine St0 ?_
    exact G.ret1 rfl rfl rfl rfl ⟨rfl, he2⟩
  · refine St0 ?_
    exact G.ret1 rfl rfl rfl rfl ⟨rfl, he2⟩

/-- The first place of a key. -/
def FindAt (ps : List Pair) (k : Dig) (r : Int) : Prop := (∃ (i : Nat) (x : Pair), r = i ∧ ps[i]? = some x ∧ x.key = k) ∨ (r = -1 ∧ ∀ (i : Nat) (x : Pair), ps[i]? = some x → x.key ≠ k)
theorem find5_call (v : Value) (ps : List Pair) (k : Dig) (S : Where) (w : World) (h : RdP S w v ps) (hm : ps.length ≤ 4294967296) :
    Does Try.prog 61 #[v, dv k] w fun r w' => (∃ i, r = iv i ∧ FindAt ps k i) ∧ Ext w w' := by
  refine call_walk Try.func61 (by kernel_rfl) rfl Try.ntmps61 rfl ?_
  obtain ⟨p, c, rfl, hc⟩ := h.isSlice
  refine St0 ?_
  refine GL.box rfl rfl rfl rfl fun b3 w0 hb3 hB3 he0 => ?_
  refine St0 ?_
  refine G.sub (f' := [(5, iv ((0 : Nat) : Int)), (0, .slice p ps.length c), (3, ptr b3 0)]) (by (repeat (first | exact Fr.sub_nil _ | refine Fr.sub_cons rfl ?_))) ?_
  refine G.rounds (α := Nat) (fun j f w' => j ≤ ps.length ∧ Ext w0 w' ∧ (∀ (i : Nat) (x : Pair), i < j → ps[i]? = some x → x.key ≠ k) ∧ f = [(5, iv j), (0, .slice p ps.length c), (3, ptr b3 0)]) (fun j => ps.length - j) ?round 0 ⟨by omega, Ext.refl _, fun i x hi => by omega, rfl⟩
  rintro j f w1 ⟨hj, he1, hall, rfl⟩ again
  replace hB3 := hB3.ext he1
  have he := he0.trans he1
  by_cases hlt : (j : Int) < ps.length
  · obtain ⟨x, hx⟩ : ∃ x, ps[j]? = some x := ⟨_, List.getElem?_eq_getElem (by omega)⟩
    obtain ⟨b, o, c', u, hv, hu, hA⟩ := (h.ext he).elem hx
    cases hv
    refine St0 ?_
    refine G.quiet follows (by kernel_rfl) ?_
    refine QSt0 ?_
    (refine GQ.indexSlice (j) 33 ((o + j * 33)) hT rfl rfl rfl rfl rfl rfl rfl rfl ?_ ?_ ?_ ?_; (focus omega); (focus omega); (focus omega))
    refine QSt2 ((pairAt hA).1) (hB3.all) ?_
    by_cases hk : x.key = k
    · refine QSt0 ?_
      refine GQ.nil fun w2 he2 => ?_
      refine St0 ?_
      exact G.ret1 rfl rfl rfl rfl ⟨⟨_, rfl, .inl ⟨j, x, rfl, hx, hk⟩⟩, he.trans he2⟩
    · refine QSt0 ?_
      refine GQ.nil fun w2 he2 => ?_
      refine St0 ?_
      refine G.sub (by (repeat (first | exact Fr.sub_nil _ | refine Fr.sub_cons rfl ?_))) (again (j + 1) _ _ (by omega) ⟨by omega, he1.trans he2, ?_, rfl⟩)
      intro i z hi hz
      rcases Nat.lt_or_eq_of_le (Nat.lt_succ_iff.1 hi) with h1 | h1
      · exact hall i z h1 hz
      · subst h1; rw [hx] at hz; cases hz; exact hk
  · refine St0 ?_
    refine G.ret1 rfl rfl rfl rfl ⟨⟨_, rfl, .inr ⟨rfl, fun i x hx => hall i x ?_ hx⟩⟩, he⟩
    have := (List.getElem?_eq_some_iff.1 hx).1
    omega

theorem half_call (v : Value) (ps : List Pair) (g : FuncId) (first cap : List Value) (q : Pair → Bool) (n : Nat) (S : Where) (w : World) (h : RdP S w v ps) (hm : ps.length ≤ 4294967296) (hn : n ≤ ps.length)
    (hq : ∀ (i : Nat) (x : Pair), ps[i]? = some x → (q x = true ↔ i < n))
    (hso : ∀ w', Ext w w' → ∀ (x : Pair) (u : Value), x ∈ ps → Does Try.prog g (first ++ [Value.agg (x.key.cells ++ [u]).toArray] ++ cap).toArray w' fun r w'' => r = .bool (q x) ∧ Ext w' w'') :
    Does Try.prog 86 #[v, .func (.func g) first.toArray cap.toArray] w fun r w' => r = iv (n : Nat) ∧ Ext w w' := by
  refine call_walk Try.func86 (by kernel_rfl) rfl Try.ntmps86 rfl ?_
  obtain ⟨p, c, rfl, hc⟩ := h.isSlice
  refine St0 ?_
  refine G.sub (f' := [(5, iv ((0 : Nat) : Int)), (6, iv (ps.length : Nat)), (0, .slice p ps.length c), (1, .func (.func g) first.toArray cap.toArray)]) (by (repeat (first | exact Fr.sub_nil _ | refine Fr.sub_cons rfl ?_))) ?_
  refine G.rounds (α := Nat × Nat) (fun z f w' => z.1 ≤ n ∧ n ≤ z.2 ∧ z.2 ≤ ps.length ∧ Ext w w' ∧ f = [(5, iv (z.1 : Nat)), (6, iv (z.2 : Nat)), (0, .slice p ps.length c), (1, .func (.func g) first.toArray cap.toArray)]) (fun z => z.2 - z.1) ?round (0, ps.length) ⟨by omega, hn, Nat.le_refl _, Ext.refl w, rfl⟩
  rintro ⟨lo, hi⟩ f w1 ⟨h1, h2, h3, he1, rfl⟩ again
  simp only at h1 h2 h3
  by_cases hlt : (lo : Int) < hi
  · obtain ⟨mid, hmid⟩ : ∃ mid, mid = (lo + hi) / 2 := ⟨_, rfl⟩
    have hmid' : ((lo : Int) + hi) / 2 = (mid : Nat) := by omega
    obtain ⟨x, hx⟩ : ∃ x, ps[mid]? = some x := ⟨_, List.getElem?_eq_getElem (by omega)⟩
    obtain ⟨b, o, c', u, hv, hu, hA⟩ := (h.ext he1).elem hx
    cases hv
    refine St0 ?_
    rw [hmid']
    (refine GL.indexSlice (mid) 33 ((o + mid * 33)) hT rfl rfl rfl rfl rfl rfl rfl rfl ?_ ?_ ?_ ?_; (focus omega); (focus omega); (focus omega))
    refine GL.loadN hT rfl rfl rfl rfl rfl hA (by simp [Dig.len]; rfl) ?_
    refine GL.callv rfl rfl rfl rfl (hso w1 he1 x u (List.mem_of_getElem? hx)) ?_
    rintro r w2 ⟨rfl, he2⟩
    have hqx := hq _ x hx
    cases hqv : q x
    · rw [hqv] at hqx
      refine St0 ?_
      refine G.sub (by (repeat (first | exact Fr.sub_nil _ | refine Fr.sub_cons rfl ?_))) (again (lo, mid) _ _ (by simp only; omega) ⟨h1, ?_, by simp only; omega, he1.trans he2, rfl⟩)
      · have : ¬ mid < n := by simpa using hqx
        simp only
        omega
    · rw [hqv] at hqx
      refine St0 ?_
      refine G.sub (by (repeat (first | exact Fr.sub_nil _ | refine Fr.sub_cons rfl ?_))) (again (mid + 1, hi) _ _ (by simp only; omega) ⟨?_, h2, h3, he1.trans he2, rfl⟩)
      · have : mid < n := by simpa using hqx
        simp only
        omega
  · refine St0 ?_
    refine G.ret1 rfl rfl rfl rfl ⟨?_, he1⟩
    show iv _ = iv _
    congr 1
    omega

theorem find1_call (x : Pair) (u : Value) (k : Dig) (b : Nat) (S : Where) (w : World) (hB : At S w b 0 k.cells) :
    Does Try.prog 87 #[.agg (x.key.cells ++ [u]).toArray, ptr b 0] w fun r w' => r = .bool (aheadB x.key k) ∧ Ext w w' := by
  refine call_walk Try.func87 (by kernel_rfl) rfl Try.ntmps87 rfl ?_
  refine St0 ?_
  refine GL.box rfl rfl rfl rfl fun b2 w1 hb2 hB2 he1 => ?_
  have hP := pairAt hB2.all
  replace hB := hB.ext he1
  refine St2 (hP.1) (hB) ?_
  refine GL.call rfl rfl rfl (ahead_call x.key k w1) ?_
  rintro r w2 ⟨rfl, he2⟩
  refine St0 ?_
  exact G.ret1 rfl rfl rfl rfl ⟨rfl, he1.trans he2⟩

/-- How many keys are ahead of a key. -/
def ahead (ps : List Pair) (k : Dig) : Nat := (ps.filter fun x => aheadB x.key k).length
theorem ahead_le (ps : List Pair) (k : Dig) : ahead ps k ≤ ps.length := List.length_filter_le _ _
theorem MapOk.lt {ps : List Pair} (h : MapOk ps) : ∀ (d i : Nat) (x y : Pair), ps[i]? = some x → ps[i + d + 1]? = some y → x.key.num < y.key.num
  | 0, i, x, y, hx, hy => h.sorted i x y hx hy
  | d + 1, i, x, y, hx, hy => by
    have hl := (List.getElem?_eq_some_iff.1 hy).1
    obtain ⟨z, hz⟩ : ∃ z, ps[i + d + 1]? = some z := ⟨_, List.getElem?_eq_getElem (by omega)⟩
    have h1 := MapOk.lt h d i x z hx hz
    have h2 := h.sorted (i + d + 1) z y hz (by rw [show i + d + 1 + 1 = i + (d + 1) + 1 by omega]; exact hy)
    omega
theorem MapOk.lt' {ps : List Pair} (h : MapOk ps) {i j : Nat} {x y : Pair} (hij : i < j) (hx : ps[i]? = some x) (hy : ps[j]? = some y) : x.key.num < y.key.num :=
  h.lt (j - i - 1) i x y hx (by rw [show i + (j - i - 1) + 1 = j by omega]; exact hy)
/-- Where a test holds of the first elements alone, so many does it hold of. -/
theorem filter_front {α : Type} (q : α → Bool) : ∀ (l : List α), (∀ (i j : Nat) (x y : α), i < j → l[i]? = some x → l[j]? = some y → q y = true → q x = true) → ∀ (i : Nat) (x : α), l[i]? = some x → (q x = true ↔ i < (l.filter q).length)
  | [], _, i, x, h => by simp at h
  | a :: l, hm, i, x, h => by
    have hm' : ∀ (i j : Nat) (x y : α), i < j → l[i]? = some x → l[j]? = some y → q y = true → q x = true := fun i j x y hij hx hy => hm (i + 1) (j + 1) x y (by omega) (by simpa using hx) (by simpa using hy)
    cases ha : q a
    · have hall : ∀ y ∈ l, q y = false := by
        intro y hy
        obtain ⟨j, hj⟩ := List.mem_iff_getElem?.1 hy
        cases hq : q y
        · rfl
        · have := hm 0 (j + 1) a y (by omega) rfl (by simpa using hj) hq
          rw [ha] at this
          cases this
      have hf : l.filter q = [] := List.filter_eq_nil_iff.2 fun y hy => by rw [hall y hy]; simp
      rw [List.filter_cons_of_neg (by rw [ha]; simp), hf]
      cases i with
      | zero => simp at h; subst h; simp [ha]
      | succ i =>
        simp at h
        have := hall x (List.mem_of_getElem? h)
        simp [this]
    · rw [List.filter_cons_of_pos ha]
      cases i with
      | zero => simp at h; subst h; simp [ha]
      | succ i =>
        simp at h
        have := filter_front q l hm' i x h
        rw [this]
        simp
theorem ahead_iff {ps : List Pair} (h : MapOk ps) (k : Dig) (i : Nat) (x : Pair) (hx : ps[i]? = some x) : aheadB x.key k = true ↔ i < ahead ps k :=
  filter_front (fun x => aheadB x.key k) ps (fun i j x y hij hx hy hq => by
    have := h.lt' hij hx hy
    simp only [aheadB, decide_eq_true_eq] at hq ⊢
    omega) i x hx
/-- Has a map a key? -/
def hasK (ps : List Pair) (k : Dig) : Bool := match ps[ahead ps k]? with
  | some x => decide (x.key = k)
  | none => false
theorem find_call (v : Value) (ps : List Pair) (k : Dig) (S : Where) (w : World) (h : RdP S w v ps) (hok : MapOk ps) :
    Does Try.prog 65 #[v, dv k] w fun r w' => r = .tuple #[iv (ahead ps k : Nat), .bool (hasK ps k)] ∧ Ext w w' := by
  refine call_walk Try.func65 (by kernel_rfl) rfl Try.ntmps65 rfl ?_
  obtain ⟨p, c, rfl, hc⟩ := h.isSlice
  have hfew := hok.few
  have hle := ahead_le ps k
  refine St0 ?_
  refine GL.box rfl rfl rfl rfl fun b3 w1 hb3 hB3 he1 => ?_
  refine St0 ?_
  refine GL.call rfl rfl rfl (half_call (.slice p ps.length c) ps 87 [] [ptr b3 0] (fun x => aheadB x.key k) (ahead ps k) S w1 (h.ext he1) (by omega) hle (ahead_iff hok k) (fun w' he' x u hx => find1_call x u k b3 any w' (hB3.ext he').all)) ?_
  rintro r w2 ⟨rfl, he2⟩
  replace hB3 := hB3.ext he2
  have he := he1.trans he2
  refine St0 ?_
  refine G.quietTail 15 follows (by kernel_rfl) (by kernel_rfl) (by kernel_rfl) (by kernel_rfl) ?_
  refine QSt0 ?_
  by_cases hlt : ((ahead ps k : Nat) : Int) < ps.length
  · obtain ⟨x, hx⟩ : ∃ x, ps[ahead ps k]? = some x := ⟨_, List.getElem?_eq_getElem (by omega)⟩
    obtain ⟨b, o, c', u, hv, hu, hA⟩ := (h.ext he).elem hx
    cases hv
    refine QSt0 ?_
    (refine GQ.indexSlice ((ahead ps k)) 33 ((o + ahead ps k * 33)) hT rfl rfl rfl rfl rfl rfl rfl rfl ?_ ?_ ?_ ?_; (focus omega); (focus omega); (focus omega))
    refine QSt2 ((pairAt hA).1) (hB3.all) ?_
    refine GQ.eqdig rfl rfl rfl rfl ?_
    refine QSt0 ?_
    refine GQ.tail fun w4 he4 => ?_
    refine St0 ?_
    exact G.ret2 rfl rfl rfl rfl rfl ⟨by simp [hasK, hx], he.trans he4⟩
  · refine QSt0 ?_
    refine GQ.tail fun w4 he4 => ?_
    refine St0 ?_
    exact G.ret2 rfl rfl rfl rfl rfl ⟨by simp [hasK, List.getElem?_eq_none (show ps.length ≤ ahead ps k by omega)], he.trans he4⟩
end Go.Proofs.Ytefneilaongpbaa
