import Derived.Test.YtefneilaongpbaaDoorEq
import Derived.Test.YtefneilaongpbaaDoorPath
import Derived.Test.YtefneilaongpbaaDoorBits1
/-
  Proofs as plain data; copying bytes and digests; comparing bytes.
-/
set_option linter.unusedVariables false
set_option linter.unusedSimpArgs false
set_option maxRecDepth 100000
namespace Go.Proofs.YtefneilaongpbaaDoor
open Go Go.Bd Go.RowKit
attribute [local irreducible] G GL GQ

structure Prf where
  key : Dig
  en : UInt8
  other : Dig
  val : Bytes
  sides : List Dig
def pcells (x : Prf) (u s : Value) : List Value := x.key.cells ++ (bv x.en :: (x.other.cells ++ [u, s]))
theorem pcells_len (x : Prf) (u s : Value) : (pcells x u s).length = 67 := by simp [pcells, Dig.len]
theorem pcells_one (x : Prf) {u s : Value} (hu : u.oneCell' = true) (hs : s.oneCell' = true) : ∀ c ∈ pcells x u s, c.oneCell' = true := by
  intro c hc
  simp only [pcells, List.mem_append, List.mem_cons, List.not_mem_nil, or_false] at hc
  rcases hc with h | rfl | h | rfl | rfl
  · exact x.key.one _ h
  · rfl
  · exact x.other.one _ h
  · exact hu
  · exact hs
abbrev prv (x : Prf) (u s : Value) : Value := .agg (pcells x u s).toArray
theorem pat {S : Where} {w : World} {b : Nat} {x : Prf} {u s : Value} (h : At S w b 0 (pcells x u s)) : At S w b 0 x.key.cells ∧ At S w b 32 [bv x.en] ∧ At S w b 33 x.other.cells ∧ At S w b 65 [u] ∧ At S w b 66 [s] := by
  refine ⟨h.sub [] _ (q := bv x.en :: (x.other.cells ++ [u, s])) rfl rfl, h.sub x.key.cells [_] (q := x.other.cells ++ [u, s]) rfl (by simp [Dig.len]), h.sub (x.key.cells ++ [bv x.en]) x.other.cells (q := [u, s]) (by simp [pcells]) (by simp [Dig.len]), h.sub (x.key.cells ++ (bv x.en :: x.other.cells)) [u] (q := [s]) (by simp [pcells]) (by simp [Dig.len]), h.sub (x.key.cells ++ (bv x.en :: (x.other.cells ++ [u]))) [s] (q := []) (by simp [pcells]) (by simp [Dig.len])⟩
/-- Where a proof's slices lie. -/
structure PrfM (S : Where) (w : World) (x : Prf) (u s : Value) : Prop where
  val : RdB S w u x.val
  sides : RdD S w s x.sides
theorem PrfM.ext {S : Where} {w w' : World} {x : Prf} {u s : Value} (h : PrfM S w x u s) (he : Ext w w') : PrfM S w' x u s := ⟨h.val.ext he, h.sides.ext he⟩
theorem PrfM.imp {S S' : Where} {w : World} {x : Prf} {u s : Value} (h : PrfM S w x u s) (hS : ∀ b fr, S b fr → S' b fr) : PrfM S' w x u s := ⟨h.val.imp hS, h.sides.imp hS⟩
theorem PrfM.keep {S : Where} {w w' : World} {x : Prf} {u s : Value} (h : PrfM S w x u s) (hk : ∀ b fr, S b fr → w'.heap[b]? = w.heap[b]?) : PrfM S w' x u s := ⟨h.val.keep hk, h.sides.keep hk⟩
theorem RdF.isSlice {S : Where} {w : World} {v : Value} {n : Nat} {cs : List Value} (h : RdF S w v n cs) : ∃ p c, v = .slice p n c ∧ n ≤ c := let ⟨p, c, h1, h2, _⟩ := h; ⟨p, c, h1, h2⟩
theorem RdF.one {S : Where} {w : World} {v : Value} {n : Nat} {cs : List Value} (h : RdF S w v n cs) : v.oneCell' = true := by obtain ⟨p, c, rfl, _⟩ := h; rfl
theorem RdF.some {S : Where} {w : World} {v : Value} {n : Nat} {cs : List Value} (h : RdF S w v n cs) : v.cells = #[v] := by obtain ⟨p, c, rfl, _⟩ := h; rfl

/-! new memory -/
theorem _root_.Go.Bd.Own.fresh {B : Nat} {w : World} {v : Value} {n sz : Nat} {T : TypeId} {cs : List Value} (h : Own B w v n sz T cs) : RdF (fresh B) w v n cs := (RdF.ofOwn h).imp fun b fr h => ⟨h.1, h.2.1⟩

theorem refTwin_call (v : Value) (bs : Bytes) (S : Where) (w : World) (h : RdB S w v bs) (hl : bs.length ≤ 140737488355328) :
    Does Tryd.prog 88 #[v] w fun v' w' => OwnB w.heap.size w' v' bs ∧ Ext w w' := by
  refine call_walk Tryd.func88 (by kernel_rfl) rfl Tryd.ntmps88 rfl ?_
  refine St0 ?_
  refine GL.append hT rfl rfl rfl rfl rfl rfl rfl rfl rfl rfl (Own.bare w.heap.size w none 1 _) h (by simp) (bcells_one bs) (by show (0 + bs.length) * 1 ≤ _; omega) (by omega) (Nat.le_refl _) fun v' w1 ho hb _ => ?_
  refine St0 ?_
  refine G.ret1 rfl rfl rfl rfl ⟨?_, hb.ext⟩
  simpa using ho

theorem cloneB_call (v : Value) (bs : Bytes) (S : Where) (w : World) (h : RdB S w v bs) (hl : bs.length ≤ 140737488355328) :
    Does Tryd.prog 100 #[v] w fun v' w' => OwnB w.heap.size w' v' bs ∧ Ext w w' := by
  refine call_walk Tryd.func100 (by kernel_rfl) rfl Tryd.ntmps100 rfl ?_
  obtain ⟨p, c, rfl, hc, hcs⟩ := id h
  cases p with
  | none =>
    refine St0 ?_
    obtain rfl : bs = [] := by
      rcases hcs with h | ⟨b, o, h, _⟩
      · exact List.eq_nil_of_length_eq_zero (by rw [← bcells_length, h]; rfl)
      · cases h
    exact G.ret1 rfl rfl rfl rfl ⟨Own.bare _ _ none 1 _, Ext.refl w⟩
  | some a =>
    refine St0 ?_
    refine GL.buildSlice _ hT rfl rfl rfl rfl rfl rfl rfl rfl fun b w1 hb hB he => ?_
    refine St0 ?_
    refine GL.append (B := w.heap.size) hT rfl rfl rfl rfl rfl rfl rfl rfl rfl rfl (Own.bare w.heap.size w1 _ 1 _) (h.ext he) (by simp) (bcells_one bs) (by show (0 + bs.length) * 1 ≤ _; omega) (by omega) he.size fun v' w2 ho hb2 _ => ?_
    refine St0 ?_
    refine G.ret1 rfl rfl rfl rfl ⟨?_, he.trans hb2.ext⟩
    simpa using ho

theorem same_call (v u : Value) (xs ys : Bytes) (S S' : Where) (w : World) (h : RdB S w v xs) (h' : RdB S' w u ys) :
    Does Tryd.prog 42 #[v, u] w fun r w' => r = .bool (decide (xs = ys)) ∧ w' = w := by
  refine call_walk Tryd.func42 (by kernel_rfl) rfl Tryd.ntmps42 rfl ?_
  refine St0 ?_
  refine GL.toString hT rfl rfl rfl rfl rfl rfl Tryd.underlying9 rfl h ?_
  refine St0 ?_
  refine GL.toString hT rfl rfl rfl rfl rfl rfl Tryd.underlying9 rfl h' ?_
  refine St0 ?_
  refine GL.eqstr rfl rfl rfl rfl ?_
  refine St0 ?_
  exact G.ret1 rfl rfl rfl rfl ⟨rfl, rfl⟩
end Go.Proofs.YtefneilaongpbaaDoor
/-
  pairs.Check.
-/
set_option linter.unusedVariables false
set_option maxRecDepth 100000
set_option maxHeartbeats 4000000
namespace Go.Proofs.YtefneilaongpbaaDoor
open Go Go.Bd Go.RowKit
attribute [local irreducible] G GL GQ

/-- Pairs are a map. -/
structure MapOk (ps : List Pair) : Prop where
  few : ps.length ≤ 512
  val : ∀ (i : Nat) (x : Pair), ps[i]? = some x → valB x.val.length = true
  sorted : ∀ (i : Nat) (x y : Pair), ps[i]? = some x → ps[i + 1]? = some y → x.key.num < y.key.num
noncomputable def mapB (ps : List Pair) : Bool := @decide (MapOk ps) (Classical.propDecidable _)
theorem mapB_t {ps : List Pair} (h : MapOk ps) : mapB ps = true := by simp [mapB, h]
theorem mapB_f {ps : List Pair} (h : ¬ MapOk ps) : mapB ps = false := by simp [mapB, h]
theorem mapB_iff {ps : List Pair} : mapB ps = true ↔ MapOk ps := by simp [mapB]
/-- No error, or 'bad'. -/
def badE (ok : Bool) : Int := if ok then 0 else 8

theorem RdP.isSlice {S : Where} {w : World} {v : Value} {ps : List Pair} (h : RdP S w v ps) : ∃ p c, v = .slice p ps.length c ∧ ps.length ≤ c := by
  obtain ⟨es, _, h⟩ := h
  exact h.isSlice
/-- Pair i of a slice. -/
theorem RdP.elem {S : Where} {w : World} {v : Value} {ps : List Pair} (h : RdP S w v ps) {i : Nat} {x : Pair} (hx : ps[i]? = some x) :
    ∃ b o c u, v = .slice (some ⟨b, o, none⟩) ps.length c ∧ RdB S w u x.val ∧ At S w b (o + i * 33) (x.key.cells ++ [u]) := by
  obtain ⟨b, o, c, e, hv, ⟨u, rfl, hu⟩, hA⟩ := RdL.elem 33 pairC_len h hx (by omega)
  exact ⟨b, o, c, u, hv, hu, hA⟩
theorem pairAt {S : Where} {w : World} {b o : Nat} {k : Dig} {u : Value} (h : At S w b o (k.cells ++ [u])) : At S w b o k.cells ∧ At S w b (o + 32) [u] :=
  ⟨h.sub [] k.cells (q := [u]) rfl rfl, h.sub k.cells [u] (q := []) (by simp) (by rw [k.len])⟩
theorem pairOne {k : Dig} {u : Value} (hu : u.oneCell' = true) : ∀ c ∈ k.cells ++ [u], c.oneCell' = true := by
  intro c hc
  rcases List.mem_append.1 hc with h | h
  · exact k.one _ h
  · simp at h; subst h; exact hu

theorem pcheck_call (v : Value) (ps : List Pair) (S : Where) (w : World) (h : RdP S w v ps) :
    Does Tryd.prog 76 #[v] w fun r w' => r = iv (badE (mapB ps)) ∧ Ext w w' := by
  refine call_walk Tryd.func76 (by kernel_rfl) rfl Tryd.ntmps76 rfl ?_
  obtain ⟨p, c, rfl, hc⟩ := h.isSlice
  by_cases h512 : (ps.length : Int) > 512
  · refine St0 ?_
    exact G.ret1 rfl rfl rfl rfl ⟨by rw [mapB_f fun h => by have := h.few; omega]; rfl, Ext.refl w⟩
  refine St0 ?_
  refine G.sub (f' := [(10, iv ((0 : Nat) : Int)), (8, .slice p ps.length c), (9, iv (ps.length : Nat)), (0, .slice p ps.length c)]) (by (repeat (first | exact Fr.sub_nil _ | refine Fr.sub_cons rfl ?_))) ?_
  refine G.rounds (α := Nat) (fun j f w' => j ≤ ps.length ∧ Ext w w' ∧ (∀ i x, i < j → ps[i]? = some x → valB x.val.length = true) ∧ (∀ i x y, i + 1 < j → ps[i]? = some x → ps[i + 1]? = some y → x.key.num < y.key.num) ∧
    f = [(10, iv j), (8, .slice p ps.length c), (9, iv (ps.length : Nat)), (0, .slice p ps.length c)]) (fun j => ps.length - j) ?round 0 ⟨by omega, Ext.refl w, fun i x hi => by omega, fun i x y hi => by omega, rfl⟩
  rintro j f w1 ⟨hj, he1, hval, hsort, rfl⟩ again
  by_cases hlt : (j : Int) < ps.length
  · obtain ⟨x, hx⟩ : ∃ x, ps[j]? = some x := ⟨_, List.getElem?_eq_getElem (by omega)⟩
    obtain ⟨b, o, c', u, hv, hu, hA⟩ := (h.ext he1).elem hx
    cases hv
    obtain ⟨pu, cu, rfl, hcu⟩ := RdF.isSlice hu
    refine St0 ?_
    (refine GL.indexSlice (j) 33 ((o + j * 33)) hT rfl rfl rfl rfl rfl rfl rfl rfl ?_ ?_ ?_ ?_; (focus omega); (focus omega); (focus omega))
    refine GL.loadN hT rfl rfl rfl rfl rfl hA (by simp [Dig.len]; rfl) ?_
    refine GL.alloc hT rfl rfl rfl fun b4 w2 hb4 hB4 he2 => ?_
    refine St0 ?_
    refine GL.storeVar hT rfl rfl rfl rfl rfl (by simp [Dig.len]; rfl) (pairOne rfl) hB4 (by simp [Dig.len]; rfl) fun w3 hc3 hB4 => ?_
    refine St0 ?_
    have he3 : Ext w w3 := hc3.below (by have := he1.size; omega) (he1.trans he2)
    have hP := pairAt hB4.all
    by_cases hok : valB x.val.length = true
    · by_cases hj0 : (j : Int) > 0
      · obtain ⟨y, hy⟩ : ∃ y, ps[j - 1]? = some y := ⟨_, List.getElem?_eq_getElem (by omega)⟩
        obtain ⟨b', o', c'', u', hv', hu', hA'⟩ := (h.ext he3).elem hy
        cases hv'
        by_cases hah : aheadB y.key x.key = true
        · refine G.quiet follows (by kernel_rfl) ?_
          refine QSt1 (hP.2) ?_
          refine GQ.call rfl rfl rfl (fun w' he' => (value_call _ _ _ w').mono fun v w'' ⟨h1, h2⟩ => ⟨h1, by rw [h2]; exact Ext.refl _⟩) ?_
          rw [hok]
          refine QSt0 ?_
          (refine GQ.indexSlice ((j - 1)) 33 ((o + (j - 1) * 33)) hT rfl rfl rfl rfl rfl rfl rfl rfl ?_ ?_ ?_ ?_; (focus omega); (focus omega); (focus omega))
          refine QSt2 (hP.1) ((pairAt hA').1) ?_
          refine GQ.call rfl rfl rfl (fun w' he' => ahead_call y.key x.key w') ?_
          rw [hah]
          refine QSt0 ?_
          refine GQ.nil fun w4 he4 => ?_
          refine St0 ?_
          refine G.sub (by (repeat (first | exact Fr.sub_nil _ | refine Fr.sub_cons rfl ?_))) (again (j + 1) _ _ (by omega) ⟨by omega, he3.trans he4, ?_, ?_, rfl⟩)
          · intro i z hi hz
            rcases Nat.lt_or_eq_of_le (Nat.lt_succ_iff.1 hi) with h1 | h1
            · exact hval i z h1 hz
            · subst h1; rw [hx] at hz; cases hz; exact hok
          · intro i z z' hi hz hz'
            rcases Nat.lt_or_eq_of_le (Nat.lt_succ_iff.1 hi) with h1 | h1
            · exact hsort i z z' h1 hz hz'
            · have : i = j - 1 := by omega
              subst this
              rw [hy] at hz; cases hz
              rw [show j - 1 + 1 = j by omega, hx] at hz'; cases hz'
              simpa [aheadB] using hah
        · refine G.quiet follows (by kernel_rfl) ?_
          refine QSt1 (hP.2) ?_
          refine GQ.call rfl rfl rfl (fun w' he' => (value_call _ _ _ w').mono fun v w'' ⟨h1, h2⟩ => ⟨h1, by rw [h2]; exact Ext.refl _⟩) ?_
          rw [hok]
          refine QSt0 ?_
          (refine GQ.indexSlice ((j - 1)) 33 ((o + (j - 1) * 33)) hT rfl rfl rfl rfl rfl rfl rfl rfl ?_ ?_ ?_ ?_; (focus omega); (focus omega); (focus omega))
          refine QSt2 (hP.1) ((pairAt hA').1) ?_
          refine GQ.call rfl rfl rfl (fun w' he' => ahead_call y.key x.key w') ?_
          rw [Bool.not_eq_true] at hah
          rw [hah]
          refine QSt0 ?_
          refine GQ.nil fun w4 he4 => ?_
          refine St0 ?_
          refine G.ret1 rfl rfl rfl rfl ⟨?_, he3.trans he4⟩
          rw [mapB_f fun hm => ?_]
          · rfl
          · have := hm.sorted (j - 1) y x hy (by rw [show j - 1 + 1 = j by omega]; exact hx)
            simp [aheadB] at hah
            omega
      · refine G.quiet follows (by kernel_rfl) ?_
        refine QSt1 (hP.2) ?_
        refine GQ.call rfl rfl rfl (fun w' he' => (value_call _ _ _ w').mono fun v w'' ⟨h1, h2⟩ => ⟨h1, by rw [h2]; exact Ext.refl _⟩) ?_
        rw [hok]
        refine QSt0 ?_
        refine GQ.nil fun w4 he4 => ?_
        refine St0 ?_
        refine G.sub (by (repeat (first | exact Fr.sub_nil _ | refine Fr.sub_cons rfl ?_))) (again (j + 1) _ _ (by omega) ⟨by omega, he3.trans he4, ?_, fun i z z' hi => by omega, rfl⟩)
        intro i z hi hz
        rcases Nat.lt_or_eq_of_le (Nat.lt_succ_iff.1 hi) with h1 | h1
        · exact hval i z h1 hz
        · subst h1; rw [hx] at hz; cases hz; exact hok
    · refine G.quiet follows (by kernel_rfl) ?_
      refine QSt1 (hP.2) ?_
      refine GQ.call rfl rfl rfl (fun w' he' => (value_call _ _ _ w').mono fun v w'' ⟨h1, h2⟩ => ⟨h1, by rw [h2]; exact Ext.refl _⟩) ?_
      rw [Bool.not_eq_true] at hok
      rw [hok]
      refine QSt0 ?_
      refine GQ.nil fun w4 he4 => ?_
      refine St0 ?_
      refine G.ret1 rfl rfl rfl rfl ⟨?_, he3.trans he4⟩
      rw [mapB_f fun hm => ?_]
      · rfl
      · have := hm.val j x hx
        rw [hok] at this
        cases this
  · refine St0 ?_
    refine G.ret1 rfl rfl rfl rfl ⟨?_, he1⟩
    rw [mapB_t ⟨by omega, fun i x hx => hval i x (by have := (List.getElem?_eq_some_iff.1 hx).1; omega) hx, fun i x y hx hy => hsort i x y (by have := (List.getElem?_eq_some_iff.1 hy).1; omega) hx hy⟩]
    rfl
end Go.Proofs.YtefneilaongpbaaDoor
