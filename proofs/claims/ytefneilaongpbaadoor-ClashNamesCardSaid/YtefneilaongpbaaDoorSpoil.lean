import Derived.Test.YtefneilaongpbaaDoorPrf
import Derived.Test.YtefneilaongpbaaDoorOwnP
/-
  Turning bytes of one's own memory.
-/
set_option linter.unusedVariables false
set_option linter.unusedSimpArgs false
set_option maxRecDepth 100000
namespace Go.Proofs.YtefneilaongpbaaDoor
open Go Go.Bd Go.RowKit

def IsB (cs : List Value) : Prop := ∀ c ∈ cs, ∃ b : UInt8, c = bv b
theorem isB_bcells (bs : Bytes) : IsB (bcells bs) := by
  intro c hc
  obtain ⟨b, _, rfl⟩ := List.mem_map.1 hc
  exact ⟨b, rfl⟩
theorem isB_dcells (ds : List Dig) : IsB (dcells ds) := by
  intro c hc
  obtain ⟨d, _, h⟩ := List.mem_flatMap.1 hc
  obtain ⟨b, _, rfl⟩ := List.mem_map.1 h
  exact ⟨b, rfl⟩
theorem IsB.set {cs : List Value} (h : IsB cs) (k : Nat) (b : UInt8) : IsB (cs.set k (bv b)) := by
  intro c hc
  rcases List.mem_or_eq_of_mem_set hc with h1 | h1
  · exact h c h1
  · exact ⟨b, h1⟩
theorem run_add1_u8 (b : UInt8) (w : World) {P : Program} {t : TypeId} {x y : Operand} : (do eqGuard .add t x y (bv b) (.int .u8 1); binOp .add t (bv b) (.int .u8 1) : Sem Value).run P w = .ok (bv (b + 1)) w := by
  have h : ∀ y : Fin 256, IntKind.u8.wrap ((y.1 : Int) + 1) = (((y.1 + 1) % 256 : Nat) : Int) := by decide +kernel
  have h1 := h ⟨b.toNat, b.toNat_lt⟩
  have e : (b + 1).toNat = (b.toNat + 1) % 256 := by rw [UInt8.toNat_add]; rfl
  show Result.ok (Value.int .u8 (IntKind.u8.wrap ((b.toNat : Int) + 1))) w = _
  rw [h1]
  show _ = Result.ok (Value.int .u8 ((b + 1).toNat : Int)) w
  rw [e]
/-- Cell k of a slice of one's own. -/
theorem _root_.Go.Bd.Own.atCell {B : Nat} {w : World} {v : Value} {n sz : Nat} {T : TypeId} {cs : List Value} (h : Own B w v n sz T cs) (hb : IsB cs) {k : Nat} (hk : k < n * sz) :
    ∃ g cap rest b, v = .slice (some ⟨g, 0, none⟩) n cap ∧ rowOf v = some g ∧ Blk w g T (cs ++ rest) ∧ k < (cs ++ rest).length ∧ At any w g k [bv b] ∧ ∀ w' c, Blk w' g T ((cs ++ rest).set k (bv c)) → Own B w' v n sz T (cs.set k (bv c)) := by
  obtain ⟨hl, h⟩ := h
  rcases h with ⟨rfl, p, rfl⟩ | ⟨g, cap, rest, rfl, hB, hn, hblk, hr⟩
  · simp at hk
  · have hkl : k < cs.length := by omega
    obtain ⟨b, hbb⟩ := hb cs[k] (List.getElem_mem hkl)
    have hck : cs[k]? = some (bv b) := by rw [List.getElem?_eq_getElem hkl, hbb]
    refine ⟨g, cap, rest, b, rfl, ?_, hblk, by simp; omega, ?_, fun w' c hB' => ⟨by simp [hl], .inr ⟨g, cap, rest, rfl, hB, hn, ?_, hr⟩⟩⟩
    · cases cap with
      | zero =>
        obtain rfl : n = 0 := by omega
        simp at hk
      | succ c => rfl
    · have : (cs ++ rest)[k]? = some (bv b) := by rw [List.getElem?_append_left hkl]; exact hck
      exact (hblk.one this).imp fun _ _ _ => trivial
    · rw [List.set_append_left _ _ hkl] at hB'
      exact hB'
theorem nbeq_self (b : Bool) : (!(b == b)) = false := by cases b <;> rfl
end Go.Proofs.YtefneilaongpbaaDoor
/-
  Bytes of one's own are turned: what else there is stays.
-/
set_option linter.unusedVariables false
set_option linter.unusedSimpArgs false
set_option maxRecDepth 100000
set_option maxHeartbeats 4000000
namespace Go.Proofs.YtefneilaongpbaaDoor
open Go Go.Bd Go.RowKit
attribute [local irreducible] G GL GQ GS

/-- The world whose heap is cut. -/
def trunc (U : Nat) (w : World) : World := { w with heap := w.heap.extract 0 U }
theorem trunc_get {U k : Nat} {w : World} (h : k < U) : (trunc U w).heap[k]? = w.heap[k]? := by
  simp [trunc, Array.getElem?_extract]
  intro h'
  omega
theorem trunc_size (U : Nat) (w : World) : (trunc U w).heap.size = min U w.heap.size := by simp [trunc]
theorem blk_trunc {U g : Nat} {w : World} {T : TypeId} {c : List Value} (h : Blk (trunc U w) g T c) : g < U ∧ Blk w g T c := by
  have hl := h.lt
  rw [trunc_size] at hl
  have hg : g < U := by omega
  exact ⟨hg, h.keep (trunc_get hg).symm⟩
theorem trunc_blk {U g : Nat} {w : World} {T : TypeId} {c : List Value} (h : Blk w g T c) (hg : g < U) : Blk (trunc U w) g T c := h.keep (trunc_get hg)
theorem own_trunc {B U : Nat} {w : World} {v : Value} {n sz : Nat} {T : TypeId} {cs : List Value} (h : Own B w v n sz T cs) (hU : w.heap.size ≤ U) : Own B (trunc U w) v n sz T cs := by
  obtain ⟨hl, h⟩ := h
  refine ⟨hl, h.imp id ?_⟩
  rintro ⟨g, cap, rest, hv, hB, hn, hblk, hr⟩
  exact ⟨g, cap, rest, hv, hB, hn, trunc_blk hblk (by have := hblk.lt; omega), hr⟩
theorem own_full {B U : Nat} {w : World} {v : Value} {n sz : Nat} {T : TypeId} {cs : List Value} (h : Own B (trunc U w) v n sz T cs) : Own B w v n sz T cs := by
  obtain ⟨hl, h⟩ := h
  refine ⟨hl, h.imp id ?_⟩
  rintro ⟨g, cap, rest, hv, hB, hn, hblk, hr⟩
  exact ⟨g, cap, rest, hv, hB, hn, (blk_trunc hblk).2, hr⟩
theorem bcells_put (x : Bytes) (k : Nat) (b : UInt8) : (bcells x).set k (bv b) = bcells (x.set k b) := by simp only [bcells, List.map_set]
/-- A byte of a value's block is turned: all values that lie there may turn. -/
theorem ownB_set {B g k : Nat} {w w' : World} {u : Value} {x : Bytes} {c : List Value} {b : UInt8} (h : OwnB B w u x) (hB : Blk w g 5 c) (hc : ∀ q, q ≠ g → w'.heap[q]? = w.heap[q]?) (hB' : Blk w' g 5 (c.set k (bv b))) : ∃ x', x'.length = x.length ∧ OwnB B w' u x' := by
  obtain ⟨hl, h⟩ := h
  rcases h with ⟨h0, p, rfl⟩ | ⟨q, cap, rest, rfl, hBq, hn, hblk, hr⟩
  · exact ⟨x, rfl, hl, .inl ⟨h0, p, rfl⟩⟩
  · by_cases e : q = g
    · subst e
      have hcc : c = bcells x ++ rest := by
        unfold Blk at hblk hB
        rw [hB] at hblk
        simp only [Option.some.injEq, Obj.cells.injEq] at hblk
        simpa using congrArg Array.toList hblk.1
      subst hcc
      by_cases hk : k < x.length
      · refine ⟨x.set k b, by simp, by simp, .inr ⟨q, cap, rest, by simp, hBq, by simpa using hn, ?_, by simpa using hr⟩⟩
        rw [List.set_append_left _ _ (by simpa using hk), bcells_put] at hB'
        exact hB'
      · refine ⟨x, rfl, hl, .inr ⟨q, cap, rest.set (k - (bcells x).length) (bv b), rfl, hBq, hn, ?_, by simpa using hr⟩⟩
        rw [List.set_append_right _ _ (by simpa using hk)] at hB'
        exact hB'
    · exact ⟨x, rfl, hl, .inr ⟨q, cap, rest, rfl, hBq, hn, hblk.keep (hc q e), hr⟩⟩

/-- Changed only within the blocks from B to U. -/
structure Only (B U : Nat) (w w' : World) : Prop where
  os : w'.os = w.os
  tape : w'.tape = w.tape
  output : w'.output = w.output
  size : w.heap.size ≤ w'.heap.size
  block : ∀ k, k < w.heap.size → k < B ∨ U ≤ k → w'.heap[k]? = w.heap[k]?
theorem Only.refl (B U : Nat) (w : World) : Only B U w w := ⟨rfl, rfl, rfl, Nat.le_refl _, fun _ _ _ => rfl⟩
theorem Only.trans {B U : Nat} {w w' w'' : World} (h : Only B U w w') (h' : Only B U w' w'') : Only B U w w'' :=
  ⟨h'.os.trans h.os, h'.tape.trans h.tape, h'.output.trans h.output, Nat.le_trans h.size h'.size, fun k hk hr => (h'.block k (Nat.lt_of_lt_of_le hk h.size) hr).trans (h.block k hk hr)⟩
theorem Only.ext {B U : Nat} {w w' : World} (h : Ext w w') : Only B U w w' := ⟨h.os, h.tape, h.output, h.size, fun k hk _ => h.block k hk⟩
theorem Only.chg {B U b : Nat} {w w' : World} (h : Chg b w w') (h1 : B ≤ b) (h2 : b < U) : Only B U w w' := ⟨h.os, h.tape, h.output, Nat.le_of_eq h.size.symm, fun k _ hr => h.block k (by omega)⟩

/-- A byte of a slice of one's own is turned. -/
theorem ownB_turn {B U : Nat} {w : World} {v : Value} {bs : Bytes} (h : OwnB B (trunc U w) v bs) {j : Nat} (hj : j < bs.length) :
    ∃ g cap c y, v = .slice (some ⟨g, 0, none⟩) bs.length cap ∧ B ≤ g ∧ g < U ∧ Blk w g 5 c ∧ j < c.length ∧ At any w g j [bv y] ∧ ∀ w' z, Blk w' g 5 (c.set j (bv z)) → ∃ bs', bs'.length = bs.length ∧ OwnB B (trunc U w') v bs' := by
  obtain ⟨g, cap, rest, rfl, hrow, hB, hnc, hblk, hr, hl⟩ := Own.parts h (by omega)
  obtain ⟨hgU, hBlk⟩ := blk_trunc hblk
  refine ⟨g, cap, _, bs.getD j 0, rfl, hB, hgU, hBlk, by rw [List.length_append, hl]; omega, (hBlk.one ?_).imp fun _ _ _ => trivial, fun w' z hB' => ⟨bs.set j z, by simp, ?_⟩⟩
  · rw [List.getElem?_append_left (by simp; omega)]
    have hq := getD_at hj
    simp only [bcells, List.getElem?_map]
    rw [hq]; rfl
  · rw [List.set_append_left _ _ (by simpa using hj), bcells_put] at hB'
    have := Own.of_blk (n := bs.length) (sz := 1) (cs := bcells (bs.set j z)) hB hnc (by simp) (trunc_blk hB' hgU) hr
    have e : (bs.set j z).length = bs.length := List.length_set ..
    show Own _ _ _ (bs.set j z).length _ _ _
    rw [e]
    exact this
theorem own_same5 {B U : Nat} {w w' : World} {v : Value} {n sz : Nat} {T : TypeId} {cs : List Value} (h : Own B (trunc U w) v n sz T cs) (hk : ∀ k, B ≤ k → k < U → w'.heap[k]? = w.heap[k]?) : Own B (trunc U w') v n sz T cs := by
  obtain ⟨hl, h⟩ := h
  refine ⟨hl, h.imp id ?_⟩
  rintro ⟨g, cap, rest, hv, hB, hn, hblk, hr⟩
  obtain ⟨hg, hb⟩ := blk_trunc hblk
  exact ⟨g, cap, rest, hv, hB, hn, trunc_blk (hb.keep (hk g hB hg)) hg, hr⟩
theorem below_of_only {B U : Nat} {w w' w0 : World} (h : Only B U w w') (h0 : Ext w0 w) (hB : w0.heap.size ≤ B) : Ext w0 w' :=
  ⟨h.os.trans h0.os, h.tape.trans h0.tape, h.output.trans h0.output, Nat.le_trans h0.size h.size, fun k hk => (h.block k (Nat.lt_of_lt_of_le hk h0.size) (by omega)).trans (h0.block k hk)⟩
end Go.Proofs.YtefneilaongpbaaDoor
