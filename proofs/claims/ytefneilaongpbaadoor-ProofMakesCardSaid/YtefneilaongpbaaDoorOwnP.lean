/-
  Pairs in memory of one's own.
-/
import Derived.Test.YtefneilaongpbaaDoorPCheck
import Derived.Test.YtefneilaongpbaaDoorPrf
import Derived.Test.YtefneilaongpbaaDoorQuietS
set_option linter.unusedVariables false
set_option linter.unusedSimpArgs false
set_option maxRecDepth 100000
set_option maxHeartbeats 4000000
namespace Go.Proofs.YtefneilaongpbaaDoor
open Go Go.Bd Go.RowKit
attribute [local irreducible] G GL GQ GS

abbrev pv (x : Pair) (u : Value) : Value := .agg (x.key.cells ++ [u]).toArray
theorem pcell_len (k : Dig) (u : Value) : (k.cells ++ [u]).length = 33 := by simp [Dig.len]
/-- A pair's cells; its value in memory of one's own. -/
def PairN (B : Nat) (w : World) (e : List Value) (x : Pair) : Prop := ∃ u, e = x.key.cells ++ [u] ∧ OwnB B w u x.val
/-- Pairs in memory of one's own. -/
def OwnP (B : Nat) (w : World) (v : Value) (ps : List Pair) : Prop := ∃ es, All2 (PairN B w) es ps ∧ Own B w v ps.length 33 76 es.flatten
theorem PairN.ext {B : Nat} {w w' : World} {e : List Value} {x : Pair} (h : PairN B w e x) (he : Ext w w') : PairN B w' e x := let ⟨u, h1, h2⟩ := h; ⟨u, h1, h2.ext he⟩
theorem PairN.mono {B B' : Nat} {w : World} {e : List Value} {x : Pair} (h : PairN B w e x) (hB : B' ≤ B) : PairN B' w e x := let ⟨u, h1, h2⟩ := h; ⟨u, h1, h2.mono hB⟩
theorem OwnP.ext {B : Nat} {w w' : World} {v : Value} {ps : List Pair} (h : OwnP B w v ps) (he : Ext w w') : OwnP B w' v ps := let ⟨es, h1, h2⟩ := h; ⟨es, h1.imp fun _ _ h => h.ext he, h2.ext he⟩
theorem OwnP.mono {B B' : Nat} {w : World} {v : Value} {ps : List Pair} (h : OwnP B w v ps) (hB : B' ≤ B) : OwnP B' w v ps := let ⟨es, h1, h2⟩ := h; ⟨es, h1.imp fun _ _ h => h.mono hB, h2.mono hB⟩
theorem OwnP.bare (B : Nat) (w : World) (p : Option Addr) : OwnP B w (.slice p 0 0) [] := ⟨[], .nil, Own.bare _ _ _ _ _⟩
theorem OwnP.rd {B : Nat} {w : World} {v : Value} {ps : List Pair} (h : OwnP B w v ps) : RdP (fresh B) w v ps := by
  obtain ⟨es, h1, h2⟩ := h
  exact ⟨es, h1.imp fun e x ⟨u, hu, ho⟩ => ⟨u, hu, ho.fresh⟩, h2.fresh⟩
/-- A write into a row of pairs leaves the values alone. -/
theorem PairN.but {B : Nat} {w w' : World} {e : List Value} {x : Pair} {v : Value} {n sz : Nat} {cs : List Value} {B' : Nat} (h : PairN B w e x) (ho : Own B' w v n sz 76 cs) (hb : But (rowOf v) w w') : PairN B w' e x := by
  obtain ⟨u, h1, h2⟩ := h
  refine ⟨u, h1, h2.keep (fun g hg hlt => hb.block g hlt (fun e => ?_)) (by decide)⟩
  exact Own.sep h2 ho rfl g hg e.symm
theorem pair_fill (k : Dig) {u : Value} (hu : u.cells = #[u]) : fillL ([(0, 32), (32, 1)][·]?) ti76.zero [(0, dv k), (1, u)] = some (k.cells ++ [u]) := by
  have h1 : (dv k).cells.size = 32 := by simp [Value.cells, Dig.len]
  have h2 : u.cells.size = 1 := by rw [hu]; rfl
  have hz : ti76.zero.length = 33 := by decide
  have e1 : splice ti76.zero 0 (dv k).cells.toList = k.cells ++ [.slice none 0 0] := by
    simp only [splice, Value.cells, List.take_zero, List.nil_append, Nat.zero_add, Dig.len]
    rfl
  simp only [fillL, List.getElem?_cons_zero, List.getElem?_cons_succ]
  rw [if_neg (by rw [h1, hz]; simp), e1, if_neg (by rw [h2]; simp [Dig.len])]
  congr 1
  simp [splice, hu, Dig.len]
theorem pairs_one {S : Where} {w : World} {es : List (List Value)} {ps : List Pair} (h : All2 (PairC S w) es ps) : ∀ c ∈ es.flatten, c.oneCell' = true := by
  induction h with
  | nil => intro c hc; cases hc
  | cons h _ ih =>
    intro c hc
    rw [List.flatten_cons, List.mem_append] at hc
    rcases hc with h1 | h1
    · obtain ⟨u, rfl, hu⟩ := h; exact pairOne (RdF.one hu) c h1
    · exact ih c h1
theorem pairs_len {S : Where} {w : World} {es : List (List Value)} {ps : List Pair} (h : All2 (PairC S w) es ps) : es.flatten.length = ps.length * 33 := by
  induction h with
  | nil => rfl
  | cons h _ ih =>
    obtain ⟨u, rfl, hu⟩ := h
    rw [List.flatten_cons, List.length_append, ih, pcell_len, List.length_cons]
    omega
theorem pairs_len33 {S : Where} {w : World} {es : List (List Value)} {ps : List Pair} (h : All2 (PairC S w) es ps) : ∀ e ∈ es, e.length = 33 := fun e he => by
  obtain ⟨j, hj⟩ := List.mem_iff_getElem?.1 he
  have hjl : j < ps.length := by rw [← h.length]; exact (List.getElem?_eq_some_iff.1 hj).1
  obtain ⟨e', he', x, rfl, _⟩ := h.at j _ (List.getElem?_eq_getElem hjl)
  rw [hj] at he'; cases he'
  exact pcell_len _ _
theorem pairs_len' {S : Where} {w : World} {es : List (List Value)} {ps : List Pair} (h : All2 (PairC S w) es ps) : es.flatten.length = ps.length * 33 := pairs_len h
theorem _root_.Go.Bd.Own.ne_blk {B : Nat} {w : World} {v : Value} {n sz : Nat} {T T' : TypeId} {cs c : List Value} {b : Nat} (h : Own B w v n sz T cs) (hB : Blk w b T' c) (hne : Nat.beq T T' = false) : rowOf v ≠ some b := by
  intro e
  rcases h.2 with ⟨rfl, p, rfl⟩ | ⟨g, cap, rest, rfl, _, _, hblk, _⟩
  · simp [rowOf] at e
  · cases cap with
    | zero => simp [rowOf] at e
    | succ q =>
      simp [rowOf] at e
      subst e
      unfold Blk at hblk hB
      rw [hblk] at hB
      simp only [Option.some.injEq, Obj.cells.injEq] at hB
      rw [hB.2.1] at hne
      simp at hne
theorem _root_.Go.Bd.Own.keepBlk {B : Nat} {w w' : World} {v : Value} {n sz : Nat} {T T' : TypeId} {cs c : List Value} {b : Nat} (h : Own B w v n sz T cs) (hB : Blk w b T' c) (hne : Nat.beq T T' = false && Nat.blt 0 sz) (hc : Chg b w w') : Own B w' v n sz T cs := by
  have h2 : Nat.beq T T' = false ∧ Nat.blt 0 sz = true := by simpa using hne
  exact h.keep (fun g hg _ => hc.block g (fun e => h.ne_blk hB h2.1 (by rw [hg, e]))) (by simpa [Nat.blt_eq] using h2.2)
/-- A slice of one's own with elements or room: its parts. -/
theorem _root_.Go.Bd.Own.parts {B : Nat} {w : World} {v : Value} {n sz : Nat} {T : TypeId} {cs : List Value} (h : Own B w v n sz T cs) (hn : 0 < n) :
    ∃ g cap rest, v = .slice (some ⟨g, 0, none⟩) n cap ∧ rowOf v = some g ∧ B ≤ g ∧ n ≤ cap ∧ Blk w g T (cs ++ rest) ∧ rest.length = (cap - n) * sz ∧ cs.length = n * sz := by
  rcases h.2 with ⟨rfl, p, rfl⟩ | ⟨g, cap, rest, rfl, hB, hn', hblk, hr⟩
  · omega
  · refine ⟨g, cap, rest, rfl, ?_, hB, hn', hblk, hr, h.1⟩
    cases cap with
    | zero => omega
    | succ c => rfl
theorem Own.of_blk {B : Nat} {w : World} {n sz g cap : Nat} {T : TypeId} {cs rest : List Value} (hB : B ≤ g) (hn : n ≤ cap) (hl : cs.length = n * sz) (hblk : Blk w g T (cs ++ rest)) (hr : rest.length = (cap - n) * sz) : Own B w (.slice (some ⟨g, 0, none⟩) n cap) n sz T cs :=
  ⟨hl, .inr ⟨g, cap, rest, rfl, hB, hn, hblk, hr⟩⟩
theorem list3 {α : Type} (l : List α) (a b : Nat) (h : a ≤ b) : l = l.take a ++ ((l.drop a).take (b - a) ++ l.drop b) := by
  have e : l.drop b = (l.drop a).drop (b - a) := by rw [List.drop_drop]; congr 1; omega
  rw [e, List.take_append_drop, List.take_append_drop]
theorem splice_at {A B C ys : List Value} {o : Nat} (h1 : A.length = o) (h2 : B.length = ys.length) : splice (A ++ (B ++ C)) o ys = A ++ (ys ++ C) := by
  subst h1
  unfold splice
  rw [List.take_left]
  congr 2
  rw [← List.drop_drop, List.drop_left, ← h2, List.drop_left]
end Go.Proofs.YtefneilaongpbaaDoor
