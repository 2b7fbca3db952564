/-
  Proofs as plain data; copying bytes and digests; comparing bytes.
-/
import Derived.Test.YtefneilaongpbaaDoorEq
import Derived.Test.YtefneilaongpbaaDoorPath
set_option linter.unusedVariables false
set_option linter.unusedSimpArgs false
set_option maxRecDepth 100000
namespace Go.Proofs.YtefneilaongpbaaDoor
open Go Go.Bd Go.RowKit
attribute [local irreducible] G GL GQ

structure Prf where
  key : Dig
  en : UInt8
  other : Dig
  val : Bytes
  sides : List Dig
def pcells (x : Prf) (u s : Value) : List Value := x.key.cells ++ (bv x.en :: (x.other.cells ++ [u, s]))
theorem pcells_len (x : Prf) (u s : Value) : (pcells x u s).length = 67 := by simp [pcells, Dig.len]
theorem pcells_one (x : Prf) {u s : Value} (hu : u.oneCell' = true) (hs : s.oneCell' = true) : ∀ c ∈ pcells x u s, c.oneCell' = true := by
  intro c hc
  simp only [pcells, List.mem_append, List.mem_cons, List.not_mem_nil, or_false] at hc
  rcases hc with h | rfl | h | rfl | rfl
  · exact x.key.one _ h
  · rfl
  · exact x.other.one _ h
  · exact hu
  · exact hs
abbrev prv (x : Prf) (u s : Value) : Value := .agg (pcells x u s).toArray
theorem pat {S : Where} {w : World} {b : Nat} {x : Prf} {u s : Value} (h : At S w b 0 (pcells x u s)) : At S w b 0 x.key.cells ∧ At S w b 32 [bv x.en] ∧ At S w b 33 x.other.cells ∧ At S w b 65 [u] ∧ At S w b 66 [s] := by
  refine ⟨h.sub [] _ (q := bv x.en :: (x.other.cells ++ [u, s])) rfl rfl, h.sub x.key.cells [_] (q := x.other.cells ++ [u, s]) rfl (by simp [Dig.len]), h.sub (x.key.cells ++ [bv x.en]) x.other.cells (q := [u, s]) (by simp [pcells]) (by simp [Dig.len]), h.sub (x.key.cells ++ (bv x.en :: x.other.cells)) [u] (q := [s]) (by simp [pcells]) (by simp [Dig.len]), h.sub (x.key.cells ++ (bv x.en :: (x.other.cells ++ [u]))) [s] (q := []) (by simp [pcells]) (by simp [Dig.len])⟩
/-- Where a proof's slices lie. -/
structure PrfM (S : Where) (w : World) (x : Prf) (u s : Value) : Prop where
  val : RdB S w u x.val
  sides : RdD S w s x.sides
theorem PrfM.ext {S : Where} {w w' : World} {x : Prf} {u s : Value} (h : PrfM S w x u s) (he : Ext w w') : PrfM S w' x u s := ⟨h.val.ext he, h.sides.ext he⟩
theorem PrfM.imp {S S' : Where} {w : World} {x : Prf} {u s : Value} (h : PrfM S w x u s) (hS : ∀ b fr, S b fr → S' b fr) : PrfM S' w x u s := ⟨h.val.imp hS, h.sides.imp hS⟩
theorem PrfM.keep {S : Where} {w w' : World} {x : Prf} {u s : Value} (h : PrfM S w x u s) (hk : ∀ b fr, S b fr → w'.heap[b]? = w.heap[b]?) : PrfM S w' x u s := ⟨h.val.keep hk, h.sides.keep hk⟩
theorem RdF.isSlice {S : Where} {w : World} {v : Value} {n : Nat} {cs : List Value} (h : RdF S w v n cs) : ∃ p c, v = .slice p n c ∧ n ≤ c := let ⟨p, c, h1, h2, _⟩ := h; ⟨p, c, h1, h2⟩
theorem RdF.one {S : Where} {w : World} {v : Value} {n : Nat} {cs : List Value} (h : RdF S w v n cs) : v.oneCell' = true := by obtain ⟨p, c, rfl, _⟩ := h; rfl
theorem RdF.some {S : Where} {w : World} {v : Value} {n : Nat} {cs : List Value} (h : RdF S w v n cs) : v.cells = #[v] := by obtain ⟨p, c, rfl, _⟩ := h; rfl

/-! new memory -/
theorem _root_.Go.Bd.Own.fresh {B : Nat} {w : World} {v : Value} {n sz : Nat} {T : TypeId} {cs : List Value} (h : Own B w v n sz T cs) : RdF (fresh B) w v n cs := (RdF.ofOwn h).imp fun b fr h => ⟨h.1, h.2.1⟩

theorem refTwin_call (v : Value) (bs : Bytes) (S : Where) (w : World) (h : RdB S w v bs) (hl : bs.length ≤ 140737488355328) :
    Does Tryd.prog 88 #[v] w fun v' w' => OwnB w.heap.size w' v' bs ∧ Ext w w' := by
  refine call_walk Tryd.func88 (by kernel_rfl) rfl Tryd.ntmps88 rfl ?_
  refine St0 ?_
  refine GL.append hT rfl rfl rfl rfl rfl rfl rfl rfl rfl rfl (Own.bare w.heap.size w none 1 _) h (by simp) (bcells_one bs) (by show (0 + bs.length) * 1 ≤ _; omega) (by omega) (Nat.le_refl _) fun v' w1 ho hb _ => ?_
  refine St0 ?_
  refine G.ret1 rfl rfl rfl rfl ⟨?_, hb.ext⟩
  simpa using ho

theorem cloneB_call (v : Value) (bs : Bytes) (S : Where) (w : World) (h : RdB S w v bs) (hl : bs.length ≤ 140737488355328) :
    Does Tryd.prog 100 #[v] w fun v' w' => OwnB w.heap.size w' v' bs ∧ Ext w w' := by
  refine call_walk Tryd.func100 (by kernel_rfl) rfl Tryd.ntmps100 rfl ?_
  obtain ⟨p, c, rfl, hc, hcs⟩ := id h
  cases p with
  | none =>
    refine St0 ?_
    obtain rfl : bs = [] := by
      rcases hcs with h | ⟨b, o, h, _⟩
      · exact List.eq_nil_of_length_eq_zero (by rw [← bcells_length, h]; rfl)
      · cases h
    exact G.ret1 rfl rfl rfl rfl ⟨Own.bare _ _ none 1 _, Ext.refl w⟩
  | some a =>
    refine St0 ?_
    refine GL.buildSlice _ hT rfl rfl rfl rfl rfl rfl rfl rfl fun b w1 hb hB he => ?_
    refine St0 ?_
    refine GL.append (B := w.heap.size) hT rfl rfl rfl rfl rfl rfl rfl rfl rfl rfl (Own.bare w.heap.size w1 _ 1 _) (h.ext he) (by simp) (bcells_one bs) (by show (0 + bs.length) * 1 ≤ _; omega) (by omega) he.size fun v' w2 ho hb2 _ => ?_
    refine St0 ?_
    refine G.ret1 rfl rfl rfl rfl ⟨?_, he.trans hb2.ext⟩
    simpa using ho

theorem same_call (v u : Value) (xs ys : Bytes) (S S' : Where) (w : World) (h : RdB S w v xs) (h' : RdB S' w u ys) :
    Does Tryd.prog 42 #[v, u] w fun r w' => r = .bool (decide (xs = ys)) ∧ w' = w := by
  refine call_walk Tryd.func42 (by kernel_rfl) rfl Tryd.ntmps42 rfl ?_
  refine St0 ?_
  refine GL.toString hT rfl rfl rfl rfl rfl rfl Tryd.underlying9 rfl h ?_
  refine St0 ?_
  refine GL.toString hT rfl rfl rfl rfl rfl rfl Tryd.underlying9 rfl h' ?_
  refine St0 ?_
  refine GL.eqstr rfl rfl rfl rfl ?_
  refine St0 ?_
  exact G.ret1 rfl rfl rfl rfl ⟨rfl, rfl⟩
end Go.Proofs.YtefneilaongpbaaDoor
