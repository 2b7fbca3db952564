/-
  Copies of pairs are turned: what else there is stays.
-/
import Derived.Test.YtefneilaongpbaaPairsI
import Derived.Test.YtefneilaongpbaaPairsE
import Derived.Test.YtefneilaongpbaaSpoil
set_option linter.unusedVariables false
set_option linter.unusedSimpArgs false
set_option maxRecDepth 100000
set_option maxHeartbeats 4000000
namespace Go.Proofs.Ytefneilaongpbaa
open Go Go.Bd Go.RowKit
attribute [local irreducible] G GL GQ GS

/-- The world whose heap is cut. -/
def trunc (U : Nat) (w : World) : World := { w with heap := w.heap.extract 0 U }
theorem trunc_get {U k : Nat} {w : World} (h : k < U) : (trunc U w).heap[k]? = w.heap[k]? := by
  simp [trunc, Array.getElem?_extract]
  intro h'
  omega
theorem trunc_size (U : Nat) (w : World) : (trunc U w).heap.size = min U w.heap.size := by simp [trunc]
theorem blk_trunc {U g : Nat} {w : World} {T : TypeId} {c : List Value} (h : Blk (trunc U w) g T c) : g < U ∧ Blk w g T c := by
  have hl := h.lt
  rw [trunc_size] at hl
  have hg : g < U := by omega
  exact ⟨hg, h.keep (trunc_get hg).symm⟩
theorem trunc_blk {U g : Nat} {w : World} {T : TypeId} {c : List Value} (h : Blk w g T c) (hg : g < U) : Blk (trunc U w) g T c := h.keep (trunc_get hg)
theorem own_trunc {B U : Nat} {w : World} {v : Value} {n sz : Nat} {T : TypeId} {cs : List Value} (h : Own B w v n sz T cs) (hU : w.heap.size ≤ U) : Own B (trunc U w) v n sz T cs := by
  obtain ⟨hl, h⟩ := h
  refine ⟨hl, h.imp id ?_⟩
  rintro ⟨g, cap, rest, hv, hB, hn, hblk, hr⟩
  exact ⟨g, cap, rest, hv, hB, hn, trunc_blk hblk (by have := hblk.lt; omega), hr⟩
theorem own_full {B U : Nat} {w : World} {v : Value} {n sz : Nat} {T : TypeId} {cs : List Value} (h : Own B (trunc U w) v n sz T cs) : Own B w v n sz T cs := by
  obtain ⟨hl, h⟩ := h
  refine ⟨hl, h.imp id ?_⟩
  rintro ⟨g, cap, rest, hv, hB, hn, hblk, hr⟩
  exact ⟨g, cap, rest, hv, hB, hn, (blk_trunc hblk).2, hr⟩
theorem ownP_trunc {B U : Nat} {w : World} {v : Value} {ps : List Pair} (h : OwnP B w v ps) (hU : w.heap.size ≤ U) : OwnP B (trunc U w) v ps := by
  obtain ⟨es, h1, h2⟩ := h
  exact ⟨es, h1.imp fun e x ⟨u, hu, ho⟩ => ⟨u, hu, own_trunc ho hU⟩, own_trunc h2 hU⟩
/-- The same, in a world of the same blocks. -/
theorem ownP_same {B U : Nat} {w w' : World} {v : Value} {ps : List Pair} (h : OwnP B (trunc U w) v ps) (hk : ∀ k, B ≤ k → k < U → w'.heap[k]? = w.heap[k]?) : OwnP B (trunc U w') v ps := by
  have key : ∀ {v : Value} {n sz : Nat} {T : TypeId} {cs : List Value}, Own B (trunc U w) v n sz T cs → Own B (trunc U w') v n sz T cs := by
    rintro v n sz T cs ⟨hl, h⟩
    refine ⟨hl, h.imp id ?_⟩
    rintro ⟨g, cap, rest, hv, hB, hn, hblk, hr⟩
    obtain ⟨hg, hb⟩ := blk_trunc hblk
    exact ⟨g, cap, rest, hv, hB, hn, trunc_blk (hb.keep (hk g hB hg)) hg, hr⟩
  obtain ⟨es, h1, h2⟩ := h
  exact ⟨es, h1.imp fun e x ⟨u, hu, ho⟩ => ⟨u, hu, key ho⟩, key h2⟩
theorem bcells_put (x : Bytes) (k : Nat) (b : UInt8) : (bcells x).set k (bv b) = bcells (x.set k b) := by simp only [bcells, List.map_set]
/-- A byte of a value's block is turned: all values that lie there may turn. -/
theorem ownB_set {B g k : Nat} {w w' : World} {u : Value} {x : Bytes} {c : List Value} {b : UInt8} (h : OwnB B w u x) (hB : Blk w g 5 c) (hc : ∀ q, q ≠ g → w'.heap[q]? = w.heap[q]?) (hB' : Blk w' g 5 (c.set k (bv b))) : ∃ x', x'.length = x.length ∧ OwnB B w' u x' := by
  obtain ⟨hl, h⟩ := h
  rcases h with ⟨h0, p, rfl⟩ | ⟨q, cap, rest, rfl, hBq, hn, hblk, hr⟩
  · exact ⟨x, rfl, hl, .inl ⟨h0, p, rfl⟩⟩
  · by_cases e : q = g
    · subst e
      have hcc : c = bcells x ++ rest := by
        unfold Blk at hblk hB
        rw [hB] at hblk
        simp only [Option.some.injEq, Obj.cells.injEq] at hblk
        simpa using congrArg Array.toList hblk.1
      subst hcc
      by_cases hk : k < x.length
      · refine ⟨x.set k b, by simp, by simp, .inr ⟨q, cap, rest, by simp, hBq, by simpa using hn, ?_, by simpa using hr⟩⟩
        rw [List.set_append_left _ _ (by simpa using hk), bcells_put] at hB'
        exact hB'
      · refine ⟨x, rfl, hl, .inr ⟨q, cap, rest.set (k - (bcells x).length) (bv b), rfl, hBq, hn, ?_, by simpa using hr⟩⟩
        rw [List.set_append_right _ _ (by simpa using hk)] at hB'
        exact hB'
    · exact ⟨x, rfl, hl, .inr ⟨q, cap, rest, rfl, hBq, hn, hblk.keep (hc q e), hr⟩⟩

/-- Changed only within the blocks from B to U. -/
structure Only (B U : Nat) (w w' : World) : Prop where
  os : w'.os = w.os
  tape : w'.tape = w.tape
  output : w'.output = w.output
  size : w.heap.size ≤ w'.heap.size
  block : ∀ k, k < w.heap.size → k < B ∨ U ≤ k → w'.heap[k]? = w.heap[k]?
theorem Only.refl (B U : Nat) (w : World) : Only B U w w := ⟨rfl, rfl, rfl, Nat.le_refl _, fun _ _ _ => rfl⟩
theorem Only.trans {B U : Nat} {w w' w'' : World} (h : Only B U w w') (h' : Only B U w' w'') : Only B U w w'' :=
  ⟨h'.os.trans h.os, h'.tape.trans h.tape, h'.output.trans h.output, Nat.le_trans h.size h'.size, fun k hk hr => (h'.block k (Nat.lt_of_lt_of_le hk h.size) hr).trans (h.block k hk hr)⟩
theorem Only.ext {B U : Nat} {w w' : World} (h : Ext w w') : Only B U w w' := ⟨h.os, h.tape, h.output, h.size, fun k hk _ => h.block k hk⟩
theorem Only.chg {B U b : Nat} {w w' : World} (h : Chg b w w') (h1 : B ≤ b) (h2 : b < U) : Only B U w w' := ⟨h.os, h.tape, h.output, Nat.le_of_eq h.size.symm, fun k _ hr => h.block k (by omega)⟩

theorem flatten_set {α : Type} {sz : Nat} : ∀ {es : List (List α)} {i j : Nat} {e : List α} {v : α}, (∀ e ∈ es, e.length = sz) → es[i]? = some e → j < sz → es.flatten.set (i * sz + j) v = (es.set i (e.set j v)).flatten
  | [], i, j, e, v, _, h, _ => by simp at h
  | a :: es, 0, j, e, v, hl, h, hj => by
    simp only [List.getElem?_cons_zero, Option.some.injEq] at h
    subst h
    have ha := hl a (by simp)
    simp only [List.flatten_cons, Nat.zero_mul, Nat.zero_add, List.set_cons_zero]
    rw [List.set_append_left _ _ (by omega)]
  | a :: es, i + 1, j, e, v, hl, h, hj => by
    simp only [List.getElem?_cons_succ] at h
    have ha := hl a (by simp)
    have ih := flatten_set (v := v) (fun e he => hl e (by simp [he])) h hj
    simp only [List.flatten_cons, List.set_cons_succ]
    rw [List.set_append_right _ _ (by rw [ha, Nat.succ_mul]; omega), ha, show (i + 1) * sz + j - sz = i * sz + j by rw [Nat.succ_mul]; omega, ih]
theorem all2_set {α β : Type} {R : α → β → Prop} {xs : List α} {ys : List β} (h : All2 R xs ys) : ∀ {i : Nat} {a : α} {b : β}, R a b → i < ys.length → All2 R (xs.set i a) (ys.set i b) := by
  induction h with
  | nil => intro i a b _ hi; simp at hi
  | cons h t ih =>
    intro i a b hab hi
    cases i with
    | zero => exact .cons hab t
    | succ i => exact .cons h (ih hab (by simpa using hi))

theorem ownP_full {B U : Nat} {w : World} {v : Value} {ps : List Pair} (h : OwnP B (trunc U w) v ps) : OwnP B w v ps := by
  obtain ⟨es, h1, h2⟩ := h
  exact ⟨es, h1.imp fun e x ⟨u, hu, ho⟩ => ⟨u, hu, own_full ho⟩, own_full h2⟩
theorem pairs_turn {B : Nat} {w1 w2 : World} {es : List (List Value)} {ps : List Pair} (h1 : All2 (PairN B w1) es ps) (step : ∀ u x, OwnB B w1 u x → ∃ x' : Bytes, x'.length = x.length ∧ OwnB B w2 u x') :
    ∃ ps', ps'.length = ps.length ∧ (∀ (k : Nat) (z z' : Pair), ps[k]? = some z → ps'[k]? = some z' → z'.val.length = z.val.length) ∧ All2 (PairN B w2) es ps' := by
  induction h1 with
  | nil => exact ⟨[], rfl, fun k z z' h => by simp at h, .nil⟩
  | cons h _ ih =>
    obtain ⟨ps', i1, i2, i3⟩ := ih
    obtain ⟨u, hu, ho⟩ := h
    obtain ⟨x', q1, q2⟩ := step _ _ ho
    rename_i a b xs ys _
    refine ⟨⟨b.key, x'⟩ :: ps', by simp [i1], fun k z z' hz hz' => ?_, .cons ⟨u, hu, q2⟩ i3⟩
    cases k with
    | zero => simp at hz hz'; subst hz; subst hz'; exact q1
    | succ k => exact i2 k z z' (by simpa using hz) (by simpa using hz')
/-- Where a value's byte lies. -/
theorem ownP_byte {B U : Nat} {w : World} {v : Value} {ps : List Pair} (h : OwnP B (trunc U w) v ps) {i j : Nat} {x : Pair} (hx : ps[i]? = some x) (hj : j < x.val.length) :
    ∃ b o c u g cap rest, v = .slice (some ⟨b, o, none⟩) ps.length c ∧ At any w b (o + i * 33 + 32) [u] ∧ u = .slice (some ⟨g, 0, none⟩) x.val.length cap ∧ B ≤ g ∧ g < U ∧ Blk w g 5 (bcells x.val ++ rest) ∧
      ∀ w' y, (∀ q, q ≠ g → q < U → w'.heap[q]? = w.heap[q]?) → Blk w' g 5 ((bcells x.val ++ rest).set j (bv y)) → ∃ ps', ps'.length = ps.length ∧ (∀ (k : Nat) (z z' : Pair), ps[k]? = some z → ps'[k]? = some z' → z'.val.length = z.val.length) ∧ OwnP B (trunc U w') v ps' := by
  obtain ⟨es, h1, h2⟩ := h
  obtain ⟨e, he, u, rfl, hu⟩ := h1.at i x hx
  have hlt := (List.getElem?_eq_some_iff.1 hx).1
  obtain ⟨hl2, h2'⟩ := id h2
  rcases h2' with ⟨h0, _⟩ | ⟨b, cap, rest, rfl, hBb, hnc, hblk, hr⟩
  · omega
  obtain ⟨hl, hu'⟩ := id hu
  rcases hu' with ⟨h0, _⟩ | ⟨g, cap', rest', rfl, hBg, hnc', hblk', hr'⟩
  · omega
  obtain ⟨hgU, hBlkg⟩ := blk_trunc hblk'
  obtain ⟨hbU, hBlkb⟩ := blk_trunc hblk
  refine ⟨b, 0, cap, _, g, cap', rest', rfl, ?_, rfl, hBg, hgU, hBlkg, fun w' y hc hB' => ?_⟩
  · have hE : ∀ q ∈ es, q.length = 33 := pairsN_len33 h1
    obtain ⟨e1, e2⟩ := flatten_at 33 es hE i _ he
    refine (hBlkb.one (o := 0 + i * 33 + 32) ?_).imp fun _ _ _ => trivial
    rw [e1, List.append_assoc, List.getElem?_append_right (by omega), e2, show 0 + i * 33 + 32 - i * 33 = 32 by omega]
    rw [List.getElem?_append_left (by simp [Dig.len])]
    rw [List.getElem?_append_left (by simp [Dig.len]), List.getElem?_append_right (by simp [Dig.len])]
    simp [Dig.len]
  · have hcT : ∀ q, q ≠ g → (trunc U w').heap[q]? = (trunc U w).heap[q]? := fun q hq => by
      by_cases hqU : q < U
      · rw [trunc_get hqU, trunc_get hqU, hc q hq hqU]
      · rw [Array.getElem?_eq_none (by rw [trunc_size]; omega), Array.getElem?_eq_none (by rw [trunc_size]; omega)]
    obtain ⟨ps', q1, q2, q3⟩ := pairs_turn (w2 := trunc U w') h1 fun u x ho => ownB_set ho hblk' hcT (trunc_blk hB' hgU)
    refine ⟨ps', q1, q2, es, q3, ?_⟩
    rw [q1]
    exact h2.keep (fun q hq _ => hcT q (fun e => h2.ne_blk hblk' (by decide) (by rw [hq, e]))) (by decide)

/-- Where a key lies. -/
theorem ownP_key {B U : Nat} {w : World} {v : Value} {ps : List Pair} (h : OwnP B (trunc U w) v ps) {i : Nat} {x : Pair} (hx : ps[i]? = some x) :
    ∃ b c cs, v = .slice (some ⟨b, 0, none⟩) ps.length c ∧ At any w b (i * 33) x.key.cells ∧ B ≤ b ∧ b < U ∧ Blk w b 89 cs ∧ i * 33 < cs.length ∧
      ∀ w' y, (∀ q, q ≠ b → q < U → w'.heap[q]? = w.heap[q]?) → Blk w' b 89 (cs.set (i * 33) (bv y)) → ∃ ps', ps'.length = ps.length ∧ (∀ (k : Nat) (z z' : Pair), ps[k]? = some z → ps'[k]? = some z' → z'.val.length = z.val.length) ∧ OwnP B (trunc U w') v ps' := by
  obtain ⟨es, h1, h2⟩ := h
  obtain ⟨e, he, u, rfl, hu⟩ := h1.at i x hx
  have hlt := (List.getElem?_eq_some_iff.1 hx).1
  obtain ⟨hl2, h2'⟩ := id h2
  rcases h2' with ⟨h0, _⟩ | ⟨b, cap, rest, rfl, hBb, hnc, hblk, hr⟩
  · omega
  obtain ⟨hbU, hBlkb⟩ := blk_trunc hblk
  have hE : ∀ q ∈ es, q.length = 33 := pairsN_len33 h1
  obtain ⟨e1, e2⟩ := flatten_at 33 es hE i _ he
  refine ⟨b, cap, es.flatten ++ rest, rfl, ?_, hBb, hbU, hBlkb, by rw [List.length_append, hl2]; omega, fun w' y hc hB' => ?_⟩
  · refine ⟨_, _, _, hBlkb, trivial, fun j z hj => ?_⟩
    have hj32 : j < 32 := by
      have := (List.getElem?_eq_some_iff.1 hj).1
      rw [Dig.len] at this; exact this
    rw [List.getElem?_toArray, e1, List.append_assoc, List.getElem?_append_right (by omega), e2, show i * 33 + j - i * 33 = j by omega]
    have hjl : j < x.key.cells.length := by rw [Dig.len]; exact hj32
    rw [List.append_assoc, List.append_assoc, List.getElem?_append_left hjl]
    exact hj
  · rw [List.set_append_left _ _ (by rw [hl2]; omega)] at hB'
    have hfs := flatten_set (v := bv y) hE he (show 0 < 33 by omega)
    rw [Nat.add_zero] at hfs
    rw [hfs] at hB'
    have hcT : ∀ q, q ≠ b → (trunc U w').heap[q]? = (trunc U w).heap[q]? := fun q hq => by
      by_cases hqU : q < U
      · rw [trunc_get hqU, trunc_get hqU, hc q hq hqU]
      · rw [Array.getElem?_eq_none (by rw [trunc_size]; omega), Array.getElem?_eq_none (by rw [trunc_size]; omega)]
    have hkeep : ∀ {u : Value} {bs : Bytes}, OwnB B (trunc U w) u bs → OwnB B (trunc U w') u bs := fun ho => ho.keep (fun q hq _ => hcT q (fun e => ho.ne_blk hblk (by decide) (by rw [hq, e]))) (by decide)
    refine ⟨ps.set i ⟨⟨x.key.1.set 0 y, by rw [List.length_set]; exact x.key.2⟩, x.val⟩, by simp, fun k z z' hz hz' => ?_, es.set i ((x.key.cells ++ [u]).set 0 (bv y)), ?_, ?_⟩
    · rw [List.getElem?_set] at hz'
      by_cases hik : i = k
      · subst hik
        rw [if_pos rfl, if_pos hlt] at hz'
        cases hz'
        rw [hx] at hz; cases hz; rfl
      · rw [if_neg hik, hz] at hz'; cases hz'; rfl
    · refine all2_set (h1.imp fun e z ⟨u, q1, q2⟩ => ⟨u, q1, hkeep q2⟩) ⟨u, ?_, hkeep hu⟩ hlt
      rw [List.set_append_left _ _ (by rw [Dig.len]; omega)]
      simp [Dig.cells, List.map_set]
    · rw [List.length_set]
      refine ⟨by rw [← hfs, List.length_set]; exact hl2, .inr ⟨b, cap, rest, rfl, hBb, hnc, trunc_blk hB' hbU, hr⟩⟩

theorem spoil5_call (v : Value) (ps : List Pair) (B U : Nat) (w : World) (h : OwnP B (trunc U w) v ps) (hU : U ≤ w.heap.size) (hn : ps.length ≤ 1000) (hv : ∀ x ∈ ps, x.val.length ≤ 1000) :
    Does Try.prog 40 #[v] w fun r w' => Only B U w w' := by
  refine call_walk Try.func40 (by kernel_rfl) rfl Try.ntmps40 rfl ?_
  obtain ⟨p, c, rfl, hc⟩ := (ownP_full h).rd.isSlice
  refine St0 ?_
  refine G.sub (f' := [(2, iv ((0 : Nat) : Int)), (0, .slice p ps.length c)]) (by (repeat (first | exact Fr.sub_nil _ | refine Fr.sub_cons rfl ?_))) ?_
  refine G.rounds (α := Nat) (fun i f w' => i ≤ ps.length ∧ Only B U w w' ∧ (∃ ps', ps'.length = ps.length ∧ (∀ x ∈ ps', x.val.length ≤ 1000) ∧ OwnP B (trunc U w') (.slice p ps.length c) ps') ∧ f = [(2, iv i), (0, .slice p ps.length c)]) (fun i => ps.length - i) ?round 0 ⟨by omega, Only.refl _ _ _, ⟨ps, rfl, hv, h⟩, rfl⟩
  clear h hv
  rintro i f w1 ⟨hi, ho1, ⟨ps1, hl1, hv1, h1⟩, rfl⟩ again
  have z1 := ho1.size
  by_cases hlt : (i : Int) < ps.length
  · obtain ⟨x, hx⟩ : ∃ x, ps1[i]? = some x := ⟨_, List.getElem?_eq_getElem (by omega)⟩
    have hxv := hv1 x (List.mem_of_getElem? hx)
    refine St0 ?_
    refine G.sub (f' := [(3, iv ((0 : Nat) : Int)), (2, iv i), (0, .slice p ps.length c)]) (by (repeat (first | exact Fr.sub_nil _ | refine Fr.sub_cons rfl ?_))) ?_
    refine G.rounds (α := Nat) (fun j f w' => j ≤ x.val.length ∧ Only B U w w' ∧ (∃ ps' y, ps'.length = ps.length ∧ (∀ x ∈ ps', x.val.length ≤ 1000) ∧ OwnP B (trunc U w') (.slice p ps.length c) ps' ∧ ps'[i]? = some y ∧ y.val.length = x.val.length) ∧ f = [(3, iv j), (2, iv i), (0, .slice p ps.length c)]) (fun j => x.val.length - j) ?round2 0 ⟨by omega, ho1, ⟨ps1, x, hl1, hv1, h1, hx, rfl⟩, rfl⟩
    clear h1 hv1 ho1 hx hl1
    rintro j f w2 ⟨hj, ho2, ⟨ps2, y, hl2, hv2, h2, hy, hyl⟩, rfl⟩ again2
    have z2 := ho2.size
    by_cases hlt2 : (j : Int) < x.val.length
    · obtain ⟨b, o, c', u, g, cap, rest, hv', hA, rfl, hBg, hgU, hBlk, hset⟩ := ownP_byte h2 hy (j := j) (by omega)
      rw [hl2] at hv'
      cases hv'
      have hyj : (bcells y.val)[j]? = some (bv (y.val.getD j 0)) := by
        have hq := getD_at (show j < y.val.length by omega)
        simp only [bcells, List.getElem?_map]
        rw [hq]; rfl
      have hAt : At any w2 g j [bv (y.val.getD j 0)] := (hBlk.one (by rw [List.getElem?_append_left (by simp; omega)]; exact hyj)).imp fun _ _ _ => trivial
      generalize y.val.getD j 0 = yb at *
      refine St0 ?_
      (refine GL.indexSlice (i) 33 ((o + i * 33)) hT rfl rfl rfl rfl rfl rfl rfl rfl ?_ ?_ ?_ ?_; (focus omega); (focus omega); (focus omega))
      refine St1 (hA) ?_
      refine G.quietTail 15 follows (by kernel_rfl) (by kernel_rfl) (by kernel_rfl) (by kernel_rfl) ?_
      refine QSt0 ?_
      (refine GQ.indexSlice (i) 33 ((o + i * 33)) hT rfl rfl rfl rfl rfl rfl rfl rfl ?_ ?_ ?_ ?_; (focus omega); (focus omega); (focus omega))
      refine QSt1 (hA) ?_
      (refine GQ.indexSlice (i) 33 ((o + i * 33)) hT rfl rfl rfl rfl rfl rfl rfl rfl ?_ ?_ ?_ ?_; (focus omega); (focus omega); (focus omega))
      refine QSt1 (hA) ?_
      (refine GQ.indexSlice (j) 1 (j) hT rfl rfl rfl rfl rfl rfl rfl rfl ?_ ?_ ?_ ?_; (focus omega); (focus omega); (focus omega))
      refine QSt1 (hAt) ?_
      refine GQ.bin rfl rfl rfl rfl (fun w => run_add1_u8 yb w) ?_
      refine GQ.tail fun w3 he3 => ?_
      (refine GL.indexSlice (j) 1 (j) hT rfl rfl rfl rfl rfl rfl rfl rfl ?_ ?_ ?_ ?_; (focus omega); (focus omega); (focus omega))
      refine GL.store1 hT rfl rfl rfl rfl rfl rfl rfl (hBlk.ext he3) (by simp; omega) fun w4 hc4 hB4 => ?_
      refine St0 ?_
      obtain ⟨ps3, q1, q2, q3⟩ := hset w4 (yb + 1) (fun q hq hqU => (hc4.block q hq).trans (he3.block q (by omega))) hB4
      obtain ⟨y3, hy3⟩ : ∃ y3, ps3[i]? = some y3 := ⟨_, List.getElem?_eq_getElem (by omega)⟩
      refine G.sub (by (repeat (first | exact Fr.sub_nil _ | refine Fr.sub_cons rfl ?_))) (again2 (j + 1) _ _ (by omega) ⟨by omega, (ho2.trans (Only.ext he3)).trans (Only.chg hc4 hBg hgU), ⟨ps3, y3, by omega, fun z hz => ?_, q3, hy3, by rw [q2 i y y3 hy hy3]; exact hyl⟩, rfl⟩)
      obtain ⟨k, hk⟩ := List.mem_iff_getElem?.1 hz
      obtain ⟨z0, hz0⟩ : ∃ z0, ps2[k]? = some z0 := ⟨_, List.getElem?_eq_getElem (by have := (List.getElem?_eq_some_iff.1 hk).1; omega)⟩
      rw [q2 k z0 z hz0 hk]
      exact hv2 z0 (List.mem_of_getElem? hz0)
    · have hjx : j = x.val.length := by omega
      obtain ⟨b, c', cs, hv', hAk, hBb, hbU, hBlk, hlt33, hset⟩ := ownP_key h2 hy
      obtain ⟨b', o', c2, u, hv2', hu, hA⟩ := (ownP_full h2).rd.elem hy
      rw [hl2] at hv' hv2'
      cases hv'
      cases hv2'
      obtain ⟨pu, cu, rfl, hcu⟩ := RdF.isSlice hu
      rw [hyl] at hA
      have hAk0 : At any w2 b (i * 33) [bv (y.key.at 0)] := hAk.one (Dig.cell_at y.key 0 (by omega)) rfl
      generalize y.key.at 0 = kb at *
      refine St0 ?_
      (refine GL.indexSlice (i) 33 ((0 + i * 33)) hT rfl rfl rfl rfl rfl rfl rfl rfl ?_ ?_ ?_ ?_; (focus omega); (focus omega); (focus omega))
      refine St1 ((pairAt hA).2) ?_
      refine G.quietTail 11 follows (by kernel_rfl) (by kernel_rfl) (by kernel_rfl) (by kernel_rfl) ?_
      refine QSt0 ?_
      (refine GQ.indexSlice (i) 33 ((0 + i * 33)) hT rfl rfl rfl rfl rfl rfl rfl rfl ?_ ?_ ?_ ?_; (focus omega); (focus omega); (focus omega))
      refine QSt0 ?_
      (refine GQ.indexArr (0) 1 ((i * 33)) hT rfl rfl rfl rfl rfl rfl rfl rfl ?_ ?_ ?_ ?_; (focus omega); (focus omega); (focus omega))
      refine QSt1 (hAk0) ?_
      refine GQ.bin rfl rfl rfl rfl (fun w => run_add1_u8 kb w) ?_
      refine QSt0 ?_
      (refine GQ.indexSlice (i) 33 ((0 + i * 33)) hT rfl rfl rfl rfl rfl rfl rfl rfl ?_ ?_ ?_ ?_; (focus omega); (focus omega); (focus omega))
      refine QSt0 ?_
      refine GQ.tail fun w3 he3 => ?_
      (refine GL.indexArr (0) 1 ((i * 33)) hT rfl rfl rfl rfl rfl rfl rfl rfl ?_ ?_ ?_ ?_; (focus omega); (focus omega); (focus omega))
      refine GL.store1 hT rfl rfl rfl rfl rfl rfl rfl (hBlk.ext he3) hlt33 fun w4 hc4 hB4 => ?_
      refine St0 ?_
      obtain ⟨ps3, q1, q2, q3⟩ := hset w4 (kb + 1) (fun q hq hqU => (hc4.block q hq).trans (he3.block q (by omega))) hB4
      refine G.sub (by (repeat (first | exact Fr.sub_nil _ | refine Fr.sub_cons rfl ?_))) (again (i + 1) _ _ (by omega) ⟨by omega, (ho2.trans (Only.ext he3)).trans (Only.chg hc4 hBb hbU), ⟨ps3, by omega, fun z hz => ?_, q3⟩, rfl⟩)
      obtain ⟨k, hk⟩ := List.mem_iff_getElem?.1 hz
      obtain ⟨z0, hz0⟩ : ∃ z0, ps2[k]? = some z0 := ⟨_, List.getElem?_eq_getElem (by have := (List.getElem?_eq_some_iff.1 hk).1; omega)⟩
      rw [q2 k z0 z hz0 hk]
      exact hv2 z0 (List.mem_of_getElem? hz0)
  · refine St0 ?_
    exact G.end0 rfl rfl rfl ho1
end Go.Proofs.Ytefneilaongpbaa
