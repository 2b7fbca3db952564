import Derived.Test.YtefneilaongpbaaDoorOwnP
import Derived.Test.YtefneilaongpbaaDoorCut
import Derived.Test.YtefneilaongpbaaDoorMem4
import Derived.Test.YtefneilaongpbaaDoorPairsE
import Derived.Test.YtefneilaongpbaaDoorPairsA
/-
  slices.Insert and slices.Delete of pairs.
-/
set_option linter.unusedVariables false
set_option linter.unusedSimpArgs false
set_option maxRecDepth 100000
set_option maxHeartbeats 4000000
namespace Go.Proofs.YtefneilaongpbaaDoor
open Go Go.Bd Go.RowKit
attribute [local irreducible] G GL GQ GS

theorem insert_call (v : Value) (n i b5 : Nat) (cs xs : List Value) (B : Nat) (w : World) (h : Own B w v n 33 76 cs) (hx : Blk w b5 76 xs) (hxl : xs.length = 33) (hx1 : ∀ c ∈ xs, c.oneCell' = true) (h1 : ∀ c ∈ cs, c.oneCell' = true) (hne : rowOf v ≠ some b5) (hi : i ≤ n) (hm : n ≤ 1000000) (hB : B ≤ w.heap.size) :
    Does Tryd.prog 116 #[v, iv i, .slice (some ⟨b5, 0, none⟩) 1 1] w fun r w' => Own B w' r (n + 1) 33 76 (cs.take (i * 33) ++ (xs ++ cs.drop (i * 33))) ∧ But (rowOf v) w w' := by
  have ex : xs.take (1 * 33) = xs := List.take_of_length_le (by omega)
  have hcl := h.1
  have hcs : cs = cs.take (i * 33) ++ cs.drop (i * 33) := (List.take_append_drop _ _).symm
  have hA : (cs.take (i * 33)).length = i * 33 := by rw [List.length_take, hcl]; omega
  have hD : (cs.drop (i * 33)).length = (n - i) * 33 := by rw [List.length_drop, hcl, ← Nat.sub_mul]
  generalize eA : cs.take (i * 33) = A at hcs hA ⊢
  generalize eD : cs.drop (i * 33) = D at hcs hD ⊢
  refine call_walk Tryd.func116 (by kernel_rfl) rfl Tryd.ntmps116 rfl ?_
  obtain ⟨p, c, rfl⟩ := h.shape
  have hsl : n ≤ c := by
    obtain ⟨p', c', hv', hc', _⟩ := h.fresh
    cases hv'
    exact hc'
  have hsrc : RdF any w (.slice (some ⟨b5, 0, none⟩) 1 1) 1 xs := ⟨_, 1, rfl, Nat.le_refl _, .inr ⟨b5, 0, rfl, hx.all⟩⟩
  refine St0 ?_
  refine GL.slice i n c 33 hT rfl rfl rfl rfl rfl rfl rfl ⟨_, _, rfl, rfl⟩ rfl rfl (by simp) (by omega) (by omega) (by omega) ?_
  refine St0 ?_
  by_cases hin : (i : Int) = n
  · refine St0 ?_
    refine GL.append hT rfl rfl rfl rfl rfl rfl rfl rfl rfl rfl h hsrc (by rw [hxl]) hx1 (by show (n + 1) * 56 ≤ _; omega) (by omega) hB fun r w1 ho hb hrow => ?_
    refine St0 ?_
    refine G.ret1 rfl rfl rfl rfl ⟨?_, hb⟩
    have e2 : D = [] := List.eq_nil_of_length_eq_zero (by omega)
    rw [hcs, e2, List.append_nil] at ho
    rw [e2, List.append_nil]
    exact ho
  have hpos : 0 < n := by omega
  obtain ⟨g, cap, rest, hv, hrow, hgB, hnc, hblk, hrl, _⟩ := h.parts hpos
  cases hv
  have hgb : b5 ≠ g := fun e => hne (by rw [hrow, e])
  have hgl := hblk.lt
  refine St0 ?_
  refine GL.cap hT rfl rfl rfl rfl rfl ?_
  by_cases hroom : ((n : Int) + 1) > c
  · -- no room: a new row
    have hcap : c = n := by omega
    refine St0 ?_
    refine GL.slice 0 i c 33 hT rfl rfl rfl rfl rfl rfl rfl rfl ⟨_, _, rfl, rfl⟩ rfl (by simp) (by omega) (by omega) (by omega) ?_
    refine St0 ?_
    have hfr : RdF any w (.slice (some ⟨g, 0, none⟩) n c) n cs := h.fresh.imp fun _ _ _ => trivial
    have hc0 := hfr.cut hcl (L := 0) (H := i) (M := c) (by omega) (by omega) (by omega)
    refine GL.appendZ (B := w.heap.size) (n + 1 - i) 33 hT rfl rfl rfl rfl rfl Tryd.underlying3 rfl rfl rfl rfl rfl (by omega) hc0 (by rw [List.length_take, List.length_drop, hcl]; omega) (by omega) (by omega) (by show (i - 0 + (n + 1 - i)) * 56 ≤ _; omega) (by omega) (Nat.le_refl _) fun r w1 zs hzl ho he hrow1 => ?_
    have en : i - 0 + (n + 1 - i) = n + 1 := by omega
    have ec : (cs.drop (0 * 33)).take ((i - 0) * 33) = A := by simp [eA]
    rw [en, ec] at ho
    obtain ⟨g1, cap1, rest1, hv1, hrow', hgB1, hnc1, hblk1, hrl1, hcl1⟩ := ho.parts (by omega)
    subst hv1
    have hg1 : g1 = w.heap.size := by rw [hrow1] at hrow'; exact (Option.some.inj hrow').symm
    have hzs : zs.length = 33 + (n - i) * 33 := by rw [hzl]; omega
    obtain ⟨z1, z2, rfl, hz1, hz2⟩ : ∃ z1 z2, zs = z1 ++ z2 ∧ z1.length = 33 ∧ z2.length = (n - i) * 33 := ⟨zs.take 33, zs.drop 33, (List.take_append_drop _ _).symm, by rw [List.length_take]; omega, by rw [List.length_drop]; omega⟩
    refine St0 ?_
    refine GL.slice i (n + 1) cap1 33 hT rfl rfl rfl rfl rfl rfl rfl ⟨_, _, rfl, rfl⟩ rfl rfl (by simp) (by omega) (by omega) (by omega) ?_
    rw [cutP_some (show i < cap1 by omega)]
    have e0 : (A ++ (z1 ++ z2)) ++ rest1 = A ++ (z1 ++ (z2 ++ rest1)) := by simp
    rw [e0] at hblk1
    have hx' : RdF any w1 (.slice (some ⟨b5, 0, none⟩) 1 1) 1 xs := hsrc.ext he
    refine St0 ?_
    refine GL.copy 33 hT rfl rfl rfl rfl rfl rfl rfl rfl rfl hblk1 hx' (by rw [hxl]) (fun q hq => hx1 q (List.mem_of_mem_take hq)) (by rw [Nat.min_eq_left (by omega)]; simp [hA, hz1, hz2]) fun w2 hc2 hblk2 => ?_
    rw [Nat.min_eq_left (show 1 ≤ n + 1 - i by omega), ex, splice_at (by rw [hA]; omega) (by rw [hz1, hxl])] at hblk2
    refine St0 ?_
    refine G.quietTail 8 follows (by kernel_rfl) (by kernel_rfl) (by kernel_rfl) (by kernel_rfl) ?_
    refine QSt0 ?_
    refine GQ.slice (i + 1) (n + 1) cap1 33 hT rfl rfl rfl rfl rfl rfl rfl ⟨_, _, rfl, by omega⟩ rfl rfl (by simp) (by omega) (by omega) (by omega) ?_
    refine QSt0 ?_
    refine GQ.slice i n c 33 hT rfl rfl rfl rfl rfl rfl rfl ⟨_, _, rfl, rfl⟩ rfl rfl (by simp) (by omega) (by omega) (by omega) ?_
    refine GQ.tail fun w3 he3 => ?_
    have h2 : Below w.heap.size w w2 := hc2.below (by omega) he
    have h3 : Ext w w3 := below_then h2 (by have := hc2.size; have := he.size; omega) he3
    have hs3 := (hfr.ext h3).cut hcl (L := i) (H := n) (M := c) (by omega) (by omega) (by omega)
    have ed : D.take ((n - i) * 33) = D := List.take_of_length_le (by omega)
    rw [eD, ed] at hs3
    rw [show n + 1 - (i + 1) = n - i by omega]
    by_cases hlast : i + 1 = cap1
    · omega
    rw [cutP_some (show i + 1 < cap1 by omega)]
    refine GL.copy 33 hT rfl rfl rfl rfl rfl rfl rfl rfl rfl (hblk2.ext he3) hs3 hD (fun q hq => h1 q (by rw [hcs]; exact List.mem_append_right _ (List.mem_of_mem_take hq))) (by rw [Nat.min_self]; simp [hA, hxl, hz2]; omega) fun w4 hc4 hblk4 => ?_
    rw [Nat.min_self, ed, ← List.append_assoc, splice_at (by simp [hA, hxl]; omega) (by rw [hz2, hD])] at hblk4
    refine St0 ?_
    refine G.ret1 rfl rfl rfl rfl ⟨Own.of_blk (by omega) hnc1 (by simp [hA, hxl, hD]; omega) (rest := rest1) (by simpa using hblk4) hrl1, ?_⟩
    exact But.of_ext _ (hc4.below (by have := h3.size; omega) h3)
  · have hL : (cs ++ rest).length = n * 33 + (c - n) * 33 := by rw [List.length_append, hcl, hrl]
    obtain ⟨M1, M2, R2, eL, hM1, hM2, hR2⟩ : ∃ M1 M2 R2, cs ++ rest = A ++ (M1 ++ (M2 ++ R2)) ∧ M1.length = 33 ∧ M2.length = (n - i) * 33 ∧ R2.length = (c - (n + 1)) * 33 := by
      refine ⟨((cs ++ rest).drop (i * 33)).take 33, (((cs ++ rest).drop (i * 33)).drop 33).take ((n - i) * 33), (((cs ++ rest).drop (i * 33)).drop 33).drop ((n - i) * 33), ?_, ?_, ?_, ?_⟩
      · rw [List.take_append_drop, List.take_append_drop]
        have : A = (cs ++ rest).take (i * 33) := by rw [← eA, List.take_append_of_le_length (by omega)]
        rw [this, List.take_append_drop]
      · simp only [List.length_take, List.length_drop, hL]; omega
      · simp only [List.length_take, List.length_drop, hL]; omega
      · simp only [List.length_drop, hL]; omega
    rw [eL] at hblk
    refine St0 ?_
    refine GL.slice 0 (n + 1) c 33 hT rfl rfl rfl rfl rfl rfl rfl rfl ⟨_, _, rfl, by omega⟩ rfl (by simp) (by omega) (by omega) (by omega) ?_
    rw [cutP_some (show 0 < c by omega)]
    refine St0 ?_
    refine GL.slice (i + 1) (n + 1) c 33 hT rfl rfl rfl rfl rfl rfl rfl ⟨_, _, rfl, by omega⟩ rfl rfl (by simp) (by omega) (by omega) (by omega) ?_
    by_cases hlast : i + 1 = c
    · omega
    rw [cutP_some (show i + 1 < c by omega)]
    refine GL.overlaps hT rfl rfl rfl rfl rfl Tryd.func159 rfl rfl rfl rfl rfl hx hblk hgb (by simp [hM1]; omega) ?_
    refine St0 ?_
    refine G.quietTail 8 follows (by kernel_rfl) (by kernel_rfl) (by kernel_rfl) (by kernel_rfl) ?_
    refine QSt0 ?_
    refine GQ.slice (i + 1) (n + 1) c 33 hT rfl rfl rfl rfl rfl rfl rfl ⟨_, _, rfl, by omega⟩ rfl rfl (by simp) (by omega) (by omega) (by omega) ?_
    refine QSt0 ?_
    refine GQ.slice i (n + 1) c 33 hT rfl rfl rfl rfl rfl rfl rfl ⟨_, _, rfl, rfl⟩ rfl rfl (by simp) (by omega) (by omega) (by omega) ?_
    refine GQ.tail fun w1 he1 => ?_
    rw [cutP_some (show i + 1 < c by omega)]
    replace hblk := hblk.ext he1
    have hs1 : RdF any w1 (.slice (some ⟨g, 0 + 0 * 33, none⟩) (n + 1) (c - 0)) (n + 1) ((cs ++ rest).take ((n + 1) * 33)) := ⟨_, _, rfl, by omega, .inr ⟨g, _, rfl, by
      have := hblk.all
      rw [← eL] at this
      exact this.sub [] _ (q := (cs ++ rest).drop ((n + 1) * 33)) (by simp) (by simp)⟩⟩
    have hl1 : ((cs ++ rest).take ((n + 1) * 33)).length = (n + 1) * 33 := by rw [List.length_take, hL]; omega
    have hs2 := hs1.cut hl1 (L := i) (H := n + 1) (M := c) (by omega) (by omega) (by omega)
    have hl2 : ((((cs ++ rest).take ((n + 1) * 33)).drop (i * 33)).take ((n + 1 - i) * 33)).length = (n + 1 - i) * 33 := by simp only [List.length_take, List.length_drop, hL]; omega
    have et : ((((cs ++ rest).take ((n + 1) * 33)).drop (i * 33)).take ((n + 1 - i) * 33)).take ((n - i) * 33) = D := by
      rw [List.take_take, Nat.min_eq_left (by omega), List.drop_take, List.take_take, Nat.min_eq_left (by omega), List.drop_append_of_le_length (by omega), eD, List.take_append_of_le_length (by omega), List.take_of_length_le (by omega)]
    have hmin : Min.min (n + 1 - i) (n + 1 - (i + 1)) = n - i := by omega
    refine GL.copy 33 hT rfl rfl rfl rfl rfl rfl rfl rfl rfl hblk hs2 hl2 (by rw [hmin, et]; exact fun q hq => h1 q (by rw [hcs]; exact List.mem_append_right _ hq)) (by rw [hmin]; simp [hA, hM1, hM2, hR2]; omega) fun w2 hc2 hblk2 => ?_
    rw [hmin, et, ← List.append_assoc, splice_at (by simp [hA, hM1]; omega) (by rw [hM2, hD]), List.append_assoc] at hblk2
    have hg2 : Below w.heap.size w w1 := he1
    refine St0 ?_
    refine GL.slice i (n + 1) c 33 hT rfl rfl rfl rfl rfl rfl rfl ⟨_, _, rfl, rfl⟩ rfl rfl (by simp) (by omega) (by omega) (by omega) ?_
    rw [cutP_some (show i < c by omega)]
    refine St0 ?_
    have hx2 : RdF any w2 (.slice (some ⟨b5, 0, none⟩) 1 1) 1 xs := ⟨_, 1, rfl, Nat.le_refl _, .inr ⟨b5, 0, rfl, ((hx.ext he1).chg hc2 hgb).all⟩⟩
    refine GL.copy 33 hT rfl rfl rfl rfl rfl rfl rfl rfl rfl hblk2 hx2 (by rw [hxl]) (fun q hq => hx1 q (List.mem_of_mem_take hq)) (by rw [Nat.min_eq_left (by omega)]; simp [hA, hM1, hD, hR2]) fun w3 hc3 hblk3 => ?_
    rw [Nat.min_eq_left (by omega), ex, splice_at (by rw [hA]; omega) (by rw [hM1, hxl])] at hblk3
    refine St0 ?_
    refine G.ret1 rfl rfl rfl rfl ⟨?_, ?_⟩
    · refine Own.of_blk hgB (by omega) (by simp [hA, hxl, hD]; omega) (rest := R2) (by simpa using hblk3) hR2
    · rw [hrow]
      exact ((But.of_ext _ he1).trans (But.of_chg hc2)).trans (But.of_chg hc3)
theorem delete_call (v : Value) (n i : Nat) (cs : List Value) (B : Nat) (w : World) (h : Own B w v n 33 76 cs) (h1 : ∀ c ∈ cs, c.oneCell' = true) (hi : i < n) (hm : n ≤ 1000000) (hB : B ≤ w.heap.size) :
    Does Tryd.prog 127 #[v, iv i, iv (i + 1 : Nat)] w fun r w' => Own B w' r (n - 1) 33 76 (cs.take (i * 33) ++ cs.drop ((i + 1) * 33)) ∧ But (rowOf v) w w' := by
  refine call_walk Tryd.func127 (by kernel_rfl) rfl Tryd.ntmps127 rfl ?_
  obtain ⟨g, c, rest, rfl, hrow, hgB, hnc, hblk, hrl, hcl⟩ := h.parts (by omega)
  have hgl := hblk.lt
  have hcs : cs = cs.take (i * 33) ++ ((cs.drop (i * 33)).take 33 ++ cs.drop ((i + 1) * 33)) := by
    have e : cs.drop ((i + 1) * 33) = (cs.drop (i * 33)).drop 33 := by rw [List.drop_drop]; congr 1; omega
    rw [e, List.take_append_drop, List.take_append_drop]
  have hA : (cs.take (i * 33)).length = i * 33 := by rw [List.length_take, hcl]; omega
  have hD : (cs.drop ((i + 1) * 33)).length = (n - (i + 1)) * 33 := by rw [List.length_drop, hcl, ← Nat.sub_mul]
  have hM : ((cs.drop (i * 33)).take 33).length = 33 := by rw [List.length_take, List.length_drop, hcl]; omega
  have hfr : RdF any w (.slice (some ⟨g, 0, none⟩) n c) n cs := h.fresh.imp fun _ _ _ => trivial
  have hcut := hfr.cut hcl (L := i + 1) (H := n) (M := c) (by omega) (by omega) (by omega)
  have ecut : (cs.drop ((i + 1) * 33)).take ((n - (i + 1)) * 33) = cs.drop ((i + 1) * 33) := List.take_of_length_le (by omega)
  rw [ecut] at hcut
  generalize eA : cs.take (i * 33) = A at hcs hA ⊢
  generalize eD : cs.drop ((i + 1) * 33) = D at hcs hD hcut ⊢
  generalize eM : (cs.drop (i * 33)).take 33 = M at hcs hM
  refine St0 ?_
  refine GL.slice i (i + 1) n 33 hT rfl rfl rfl rfl rfl rfl rfl ⟨_, _, rfl, rfl⟩ ⟨_, _, rfl, rfl⟩ ⟨_, _, rfl, rfl⟩ (by simp) (by omega) (by omega) (by omega) ?_
  refine St0 ?_
  refine G.quietTail 6 follows (by kernel_rfl) (by kernel_rfl) (by kernel_rfl) (by kernel_rfl) ?_
  refine QSt0 ?_
  refine GQ.slice 0 i c 33 hT rfl rfl rfl rfl rfl rfl rfl rfl ⟨_, _, rfl, rfl⟩ rfl (by simp) (by omega) (by omega) (by omega) ?_
  refine QSt0 ?_
  refine GQ.slice (i + 1) n c 33 hT rfl rfl rfl rfl rfl rfl rfl ⟨_, _, rfl, rfl⟩ rfl rfl (by simp) (by omega) (by omega) (by omega) ?_
  refine GQ.tail fun w1 he1 => ?_
  have e0 : cutP (some ⟨g, 0, none⟩) 0 c 33 = some ⟨g, 0, none⟩ := by rw [cutP_some (by omega)]
  rw [e0]
  replace hblk := hblk.ext he1
  refine GL.appendIn 33 hT rfl rfl rfl rfl rfl rfl rfl rfl rfl hblk (by rw [List.length_append, hcl, hrl, ← Nat.add_mul]; congr 1; omega) (hcut.ext he1) hD (fun q hq => h1 q (by rw [hcs]; simp [hq])) (by omega) fun w2 hc2 hblk2 => ?_
  have en : i - 0 + (n - (i + 1)) = n - 1 := by omega
  rw [en]
  obtain ⟨X, Y, eX, hX, hY⟩ : ∃ X Y, M ++ D = X ++ Y ∧ X.length = (n - (i + 1)) * 33 ∧ Y.length = 33 := ⟨(M ++ D).take ((n - (i + 1)) * 33), (M ++ D).drop ((n - (i + 1)) * 33), (List.take_append_drop _ _).symm, by simp [hM, hD], by simp [hM, hD]⟩
  have e1 : cs ++ rest = A ++ (X ++ (Y ++ rest)) := by rw [hcs, eX]; simp
  rw [e1, Nat.sub_zero, splice_at hA (by rw [hX, hD])] at hblk2
  refine St0 ?_
  refine GL.slice (n - 1) n c 33 hT rfl rfl rfl rfl rfl rfl rfl ⟨_, _, rfl, rfl⟩ ⟨_, _, rfl, rfl⟩ rfl (by simp) (by omega) (by omega) (by omega) ?_
  rw [cutP_some (show n - 1 < c by omega)]
  refine GL.clear 33 hT rfl rfl rfl rfl rfl rfl rfl rfl rfl hblk2 (by simp [hA, hD, hY]; omega) fun w3 zs hzl hc3 hblk3 => ?_
  have e2 : n - (n - 1) = 1 := by omega
  rw [e2] at hzl
  rw [show A ++ (D ++ (Y ++ rest)) = (A ++ D) ++ (Y ++ rest) by simp, splice_at (by simp [hA, hD]; omega) (by rw [hY, hzl])] at hblk3
  refine St0 ?_
  refine G.ret1 rfl rfl rfl rfl ⟨Own.of_blk hgB (by omega) (by simp [hA, hD]; omega) hblk3 (by simp [hzl, hrl]; omega), ?_⟩
  rw [hrow]
  exact ((But.of_ext _ he1).trans (But.of_chg hc2)).trans (But.of_chg hc3)
end Go.Proofs.YtefneilaongpbaaDoor
/-
  pairs.Put and pairs.Drop.
-/
set_option linter.unusedVariables false
set_option linter.unusedSimpArgs false
set_option maxRecDepth 100000
set_option maxHeartbeats 4000000
namespace Go.Proofs.YtefneilaongpbaaDoor
open Go Go.Bd Go.RowKit
attribute [local irreducible] G GL GQ GS

theorem PairN.chg {B : Nat} {w w' : World} {e : List Value} {x : Pair} {b : Nat} {T' : TypeId} {c : List Value} (h : PairN B w e x) (hB : Blk w b T' c) (hne : Nat.beq 5 T' = false) (hc : Chg b w w') : PairN B w' e x :=
  let ⟨u, h1, h2⟩ := h; ⟨u, h1, h2.keepBlk hB (by rw [hne]; rfl) hc⟩
theorem pairsN_one {B : Nat} {w : World} {es : List (List Value)} {ps : List Pair} (h : All2 (PairN B w) es ps) : ∀ c ∈ es.flatten, c.oneCell' = true :=
  pairs_one (h.imp fun e x ⟨u, h1, h2⟩ => (⟨u, h1, h2.fresh⟩ : PairC (fresh B) w e x))
theorem pairsN_len33 {B : Nat} {w : World} {es : List (List Value)} {ps : List Pair} (h : All2 (PairN B w) es ps) : ∀ e ∈ es, e.length = 33 := fun e he => by
  obtain ⟨j, hj⟩ := List.mem_iff_getElem?.1 he
  have hjl : j < ps.length := by rw [← h.length]; exact (List.getElem?_eq_some_iff.1 hj).1
  obtain ⟨e', he', x, rfl, _⟩ := h.at j _ (List.getElem?_eq_getElem hjl)
  rw [hj] at he'; cases he'
  exact pcell_len _ _
theorem set_mid {A D : List Value} {e e' : List Value} (he : e'.length = e.length) {o : Nat} (hA : A.length = o) {R : List Value} : splice ((A ++ (e ++ D)) ++ R) o e' = (A ++ (e' ++ D)) ++ R := by
  have : (A ++ (e ++ D)) ++ R = A ++ (e ++ (D ++ R)) := by simp
  rw [this, splice_at hA he.symm]
  simp
theorem put_call (v u : Value) (ps : List Pair) (k : Dig) (bs : Bytes) (S S' : Where) (w : World) (h : RdP S w v ps) (hu : RdB S' w u bs) :
    Does Tryd.prog 54 #[v, dv k, u] w fun r w' => ∃ x, r = .tuple #[x, iv (putE ps k bs)] ∧ OwnP w.heap.size w' x (putL ps k bs) ∧ Ext w w' := by
  refine call_walk Tryd.func54 (by kernel_rfl) rfl Tryd.ntmps54 rfl ?_
  obtain ⟨p, c, rfl, hc⟩ := h.isSlice
  obtain ⟨pu, cu, rfl, hcu⟩ := RdF.isSlice hu
  refine St0 ?_
  refine GL.box rfl rfl rfl rfl fun b4 w1 hb4 hB4 he1 => ?_
  refine St0 ?_
  refine GL.call rfl rfl rfl (pcheck_call _ ps S w1 (h.ext he1)) ?_
  rintro r w2 ⟨rfl, he2⟩
  replace hB4 := hB4.ext he2
  have he := he1.trans he2
  cases hok : mapB ps
  · have e1 : badE false = 8 := rfl
    rw [e1]
    refine St0 ?_
    exact G.ret2 rfl rfl rfl rfl rfl ⟨_, by rw [(putE_bad (by simp [hok])).1], by rw [(putE_bad (by simp [hok])).2]; exact OwnP.bare _ _ none, he⟩
  have hM := mapB_iff.1 hok
  have hfew := hM.few
  have e1 : badE true = 0 := rfl
  rw [e1]
  refine St0 ?_
  refine GL.call rfl rfl rfl (value_call pu bs.length cu w2) ?_
  rintro r w3 ⟨rfl, rfl⟩
  cases hvb : valB bs.length
  · refine St0 ?_
    exact G.ret2 rfl rfl rfl rfl rfl ⟨_, by rw [(putE_bad (by simp [hvb])).1], by rw [(putE_bad (by simp [hvb])).2]; exact OwnP.bare _ _ none, he⟩
  have hvl := valB_le hvb
  have hboth : (mapB ps && valB bs.length) = true := by simp [hok, hvb]
  refine St1 (hB4.all) ?_
  refine GL.call rfl rfl rfl (find_call _ ps k S w3 (h.ext he) hM) ?_
  rintro r w4 ⟨rfl, he4⟩
  replace hB4 := hB4.ext he4
  have hE := he.trans he4
  have hlen := put_len hM k bs
  have hale := ahead_le ps k
  cases hhas : hasK ps k
  · -- a new key
    rw [hhas] at hlen
    simp only [Bool.false_eq_true, if_false] at hlen
    by_cases hfull : (ps.length : Int) = 512
    · refine St0 ?_
      have := putE_full (k := k) (v := bs) hboth (by omega)
      exact G.ret2 rfl rfl rfl rfl rfl ⟨_, by rw [this.1], by rw [this.2]; exact OwnP.bare _ _ none, hE⟩
    obtain ⟨hE0, hL0⟩ := putE_ok (k := k) (v := bs) hboth (by omega)
    refine St0 ?_
    refine GL.call rfl rfl rfl (pairsTwin_call _ ps S w4 (h.ext hE) (by omega) (fun x hx => by have := valB_le (hM.valid x hx); omega)) ?_
    rintro out w5 ⟨hout, he5⟩
    replace hB4 := hB4.ext he5
    have hE5 := hE.trans he5
    have sE := hE.size
    refine St0 ?_
    refine G.draw 5 [(4, ptr b4 0), (2, .slice pu bs.length cu), (8, iv (ahead ps k : Nat)), (9, .bool false), (10, out)] (fun i v w' => match i with
      | 0 => dv k = v | 1 => Value.slice pu bs.length cu = v | 2 => OwnB w5.heap.size w' v bs | 3 => ∃ u', v = .agg (k.cells ++ [u']).toArray ∧ OwnB w5.heap.size w' u' bs | _ => ∃ b, v = ptr b 0 ∧ w5.heap.size ≤ b ∧ Blk w' b 76 ti76.zero) follows (by kernel_rfl) (by kernel_rfl) (by kernel_rfl) (by kernel_rfl) (by (repeat (first | exact Fr.sub_nil _ | refine Fr.sub_cons rfl ?_))) ?mono ?obs ?fin
    case mono =>
      intro i v w3 w4 he h
      rcases i with _ | _ | _ | _ | i
      · exact h
      · exact h
      · exact Own.ext h he
      · obtain ⟨u', h1, h2⟩ := h; exact ⟨u', h1, h2.ext he⟩
      · obtain ⟨b, h1, h2, h3⟩ := h; exact ⟨b, h1, h2, h3.ext he⟩
    case obs =>
      intro w0 he0
      refine ⟨fun w' he' => ?_, fun w' he' => ?_, fun w' he' => ?_, fun w' he' => ?_, fun w' he' => ?_, trivial⟩
      · refine St1 ((hB4.ext (he0.trans he')).all) ?_
        exact GL.fact rfl (Ext.refl _) rfl
      · refine St0 ?_
        exact GL.fact rfl (Ext.refl _) rfl
      · rintro v rfl
        refine GL.call rfl rfl rfl (cloneB_call _ bs _ w' (hu.ext (hE5.trans (he0.trans he'))) (by omega)) ?_
        rintro r w'' ⟨ho, he''⟩
        exact GL.fact rfl he'' (ho.mono (Nat.le_trans he0.size he'.size))
      · rintro v rfl u' hu'
        refine GL.build (k.cells ++ [u']) hT rfl rfl rfl rfl rfl rfl (pair_fill k hu'.some) ?_
        exact GL.fact rfl (Ext.refl _) ⟨u', rfl, hu'⟩
      · refine GL.alloc hT rfl rfl rfl fun b w'' hb hB he'' => ?_
        exact GL.fact rfl he'' ⟨b, rfl, by have := he0.size; have := he'.size; omega, hB⟩
    case fin =>
      rintro w6 he6 v0 rfl v1 rfl u2 hu2 v3 ⟨u', rfl, hu'⟩ v4 ⟨b, rfl, hb, hB⟩
      have rout : ∀ q, rowOf out = some q → w4.heap.size ≤ q ∧ q < w5.heap.size := fun q hq => let ⟨_, _, ho⟩ := hout; ho.row hq
      replace hout := hout.ext he6
      have s6 := he6.size
      have s5 := he5.size
      have lb := hB.lt
      refine GL.storeVar hT rfl rfl rfl rfl rfl (pcell_len _ _) (pairOne hu'.one) hB (by rw [pcell_len]; decide) fun w7 hc7 hB7 => ?_
      have hE7 : Ext w w7 := hc7.below (by omega) (hE5.trans he6)
      have s7 := hc7.size
      replace hu' := hu'.keepBlk hB (by decide) hc7
      obtain ⟨es, hes, hown⟩ := hout
      replace hes := hes.imp fun _ _ h => PairN.chg h hB (by decide) hc7
      replace hown := hown.keep (w' := w7) (fun g hg hl => hc7.block g (by have := rout g hg; omega)) (by decide)
      have hel := pairsN_len33 hes
      have hun : PairN w4.heap.size w7 (k.cells ++ [u']) ⟨k, bs⟩ := ⟨u', rfl, hu'.mono s5⟩
      refine St1 (hB7.all) ?_
      refine GL.buildSlice (k.cells ++ [u']) hT rfl rfl rfl rfl rfl rfl rfl (fillL_one rfl (pcell_len _ _) (madeLen _ _)) fun b8 w8 hb8 hB8 he8 => ?_
      have s8 := he8.size
      replace hown := hown.ext he8
      replace hun := hun.ext he8
      replace hes := hes.imp fun _ _ h => PairN.ext h he8
      refine GL.call rfl rfl rfl (insert_call out ps.length (ahead ps k) b8 es.flatten (k.cells ++ [u']) w4.heap.size w8 hown hB8 (pcell_len _ _) (pairOne hu'.one) (pairsN_one hes) (fun e => by have := rout _ e; omega) hale (by omega) (by omega)) ?_
      rintro r w9 ⟨ho, hb9⟩
      refine St0 ?_
      refine G.ret2 rfl rfl rfl rfl rfl ⟨_, by rw [hE0], ⟨es.take (ahead ps k) ++ ((k.cells ++ [u']) :: es.drop (ahead ps k)), ?_, ?_⟩, hb9.below (fun q hq => by have := rout q hq; omega) (by omega) (hE7.trans he8)⟩
      · rw [hL0, hM.with_not hhas]
        exact ((hes.take _).imp fun _ _ h => (h.but hown hb9).mono sE).append (.cons ((hun.but hown hb9).mono sE) ((hes.drop _).imp fun _ _ h => (h.but hown hb9).mono sE))
      · rw [hL0, List.flatten_append, List.flatten_cons, flat_take hel, flat_drop hel, hlen]
        exact ho.mono sE
  · rw [hhas] at hlen
    simp only [if_true] at hlen
    obtain ⟨hE0, hL0⟩ := putE_ok (k := k) (v := bs) hboth (by omega)
    refine St0 ?_
    refine GL.call rfl rfl rfl (pairsTwin_call _ ps S w4 (h.ext hE) (by omega) (fun x hx => by have := valB_le (hM.valid x hx); omega)) ?_
    rintro out w5 ⟨hout, he5⟩
    replace hB4 := hB4.ext he5
    have hE5 := hE.trans he5
    have sE := hE.size
    refine St0 ?_
    refine G.draw 5 [(4, ptr b4 0), (2, .slice pu bs.length cu), (8, iv (ahead ps k : Nat)), (9, .bool true), (10, out)] (fun i v w' => match i with
      | 0 => dv k = v | 1 => Value.slice pu bs.length cu = v | 2 => OwnB w5.heap.size w' v bs | 3 => ∃ u', v = .agg (k.cells ++ [u']).toArray ∧ OwnB w5.heap.size w' u' bs | _ => ∃ b, v = ptr b 0 ∧ w5.heap.size ≤ b ∧ Blk w' b 76 ti76.zero) follows (by kernel_rfl) (by kernel_rfl) (by kernel_rfl) (by kernel_rfl) (by (repeat (first | exact Fr.sub_nil _ | refine Fr.sub_cons rfl ?_))) ?mono ?obs ?fin
    case mono =>
      intro i v w3 w4 he h
      rcases i with _ | _ | _ | _ | i
      · exact h
      · exact h
      · exact Own.ext h he
      · obtain ⟨u', h1, h2⟩ := h; exact ⟨u', h1, h2.ext he⟩
      · obtain ⟨b, h1, h2, h3⟩ := h; exact ⟨b, h1, h2, h3.ext he⟩
    case obs =>
      intro w0 he0
      refine ⟨fun w' he' => ?_, fun w' he' => ?_, fun w' he' => ?_, fun w' he' => ?_, fun w' he' => ?_, trivial⟩
      · refine St1 ((hB4.ext (he0.trans he')).all) ?_
        exact GL.fact rfl (Ext.refl _) rfl
      · refine St0 ?_
        exact GL.fact rfl (Ext.refl _) rfl
      · rintro v rfl
        refine GL.call rfl rfl rfl (cloneB_call _ bs _ w' (hu.ext (hE5.trans (he0.trans he'))) (by omega)) ?_
        rintro r w'' ⟨ho, he''⟩
        exact GL.fact rfl he'' (ho.mono (Nat.le_trans he0.size he'.size))
      · rintro v rfl u' hu'
        refine GL.build (k.cells ++ [u']) hT rfl rfl rfl rfl rfl rfl (pair_fill k hu'.some) ?_
        exact GL.fact rfl (Ext.refl _) ⟨u', rfl, hu'⟩
      · refine GL.alloc hT rfl rfl rfl fun b w'' hb hB he'' => ?_
        exact GL.fact rfl he'' ⟨b, rfl, by have := he0.size; have := he'.size; omega, hB⟩
    case fin =>
      rintro w6 he6 v0 rfl v1 rfl u2 hu2 v3 ⟨u', rfl, hu'⟩ v4 ⟨b, rfl, hb, hB⟩
      have rout : ∀ q, rowOf out = some q → w4.heap.size ≤ q ∧ q < w5.heap.size := fun q hq => let ⟨_, _, ho⟩ := hout; ho.row hq
      replace hout := hout.ext he6
      have s6 := he6.size
      have s5 := he5.size
      have lb := hB.lt
      refine GL.storeVar hT rfl rfl rfl rfl rfl (pcell_len _ _) (pairOne hu'.one) hB (by rw [pcell_len]; decide) fun w7 hc7 hB7 => ?_
      have hE7 : Ext w w7 := hc7.below (by omega) (hE5.trans he6)
      have s7 := hc7.size
      replace hu' := hu'.keepBlk hB (by decide) hc7
      obtain ⟨es, hes, hown⟩ := hout
      replace hes := hes.imp fun _ _ h => PairN.chg h hB (by decide) hc7
      replace hown := hown.keep (w' := w7) (fun g hg hl => hc7.block g (by have := rout g hg; omega)) (by decide)
      have hel := pairsN_len33 hes
      have hun : PairN w4.heap.size w7 (k.cells ++ [u']) ⟨k, bs⟩ := ⟨u', rfl, hu'.mono s5⟩
      obtain ⟨x, hx, hxk⟩ := hasK_find hhas
      have hlt := (List.getElem?_eq_some_iff.1 hx).1
      obtain ⟨g, cap, rest, hv, hrow, hgB, hnc, hblk, hrl, hcl⟩ := hown.parts (by omega)
      subst hv
      have hrg := rout g hrow
      refine St1 (hB7.all) ?_
      (refine GL.indexSlice ((ahead ps k)) 33 ((ahead ps k * 33)) hT rfl rfl rfl rfl rfl rfl rfl rfl ?_ ?_ ?_ ?_; (focus omega); (focus omega); (focus omega))
      obtain ⟨e0, he0, hx0⟩ := hes.at (ahead ps k) x hx
      obtain ⟨hfl, hfl2⟩ := flatten_at 33 es hel (ahead ps k) e0 he0
      have he0l : e0.length = 33 := hel e0 (List.mem_of_getElem? he0)
      rw [hfl] at hblk
      refine GL.storeIn hT rfl rfl rfl rfl rfl (pcell_len _ _) (pairOne hu'.one) hblk (by rw [pcell_len]; simp only [List.length_append, hfl2, he0l]; omega) fun w8 hc8 hblk8 => ?_
      rw [set_mid (by rw [pcell_len, he0l]) hfl2] at hblk8
      refine St0 ?_
      have hb8 := But.of_chg hc8
      rw [← hrow] at hb8
      refine G.ret2 rfl rfl rfl rfl rfl ⟨_, by rw [hE0], ⟨es.take (ahead ps k) ++ ((k.cells ++ [u']) :: es.drop (ahead ps k + 1)), ?_, ?_⟩, hc8.below (by omega) hE7⟩
      · rw [hL0, hM.with_has hhas]
        exact ((hes.take _).imp fun _ _ h => (h.but hown hb8).mono sE).append (.cons ((hun.but hown hb8).mono sE) ((hes.drop _).imp fun _ _ h => (h.but hown hb8).mono sE))
      · rw [hL0, hlen, List.flatten_append, List.flatten_cons]
        exact (Own.of_blk hgB hnc (by simp only [List.length_append, hfl2, Dig.len, List.length_singleton, flat_drop hel, List.length_drop, hcl]; omega) hblk8 hrl).mono sE
theorem drop_call (v : Value) (ps : List Pair) (k : Dig) (S : Where) (w : World) (h : RdP S w v ps) :
    Does Tryd.prog 75 #[v, dv k] w fun r w' => ∃ x, r = .tuple #[x, iv (dropE ps k)] ∧ OwnP w.heap.size w' x (dropL ps k) ∧ Ext w w' := by
  refine call_walk Tryd.func75 (by kernel_rfl) rfl Tryd.ntmps75 rfl ?_
  obtain ⟨p, c, rfl, hc⟩ := h.isSlice
  refine St0 ?_
  refine GL.box rfl rfl rfl rfl fun b3 w1 hb3 hB3 he1 => ?_
  refine St0 ?_
  refine GL.call rfl rfl rfl (pcheck_call _ ps S w1 (h.ext he1)) ?_
  rintro r w2 ⟨rfl, he2⟩
  replace hB3 := hB3.ext he2
  have he := he1.trans he2
  cases hok : mapB ps
  · have e1 : badE false = 8 := rfl
    have e2 : dropE ps k = 8 := by simp [dropE, hok]
    rw [e1]
    refine St0 ?_
    exact G.ret2 rfl rfl rfl rfl rfl ⟨_, by rw [e2], by rw [show dropL ps k = [] by simp [dropL, e2]]; exact OwnP.bare _ _ none, he⟩
  have hM := mapB_iff.1 hok
  have hfew := hM.few
  have e1 : badE true = 0 := rfl
  rw [e1]
  refine St1 (hB3.all) ?_
  refine GL.call rfl rfl rfl (find_call _ ps k S w2 (h.ext he) hM) ?_
  rintro r w3 ⟨rfl, he3⟩
  replace hB3 := hB3.ext he3
  have hE := he.trans he3
  have hale := ahead_le ps k
  cases hhas : hasK ps k
  · have e2 : dropE ps k = 6 := by simp [dropE, hok, hhas]
    refine St0 ?_
    exact G.ret2 rfl rfl rfl rfl rfl ⟨_, by rw [e2], by rw [show dropL ps k = [] by simp [dropL, e2]]; exact OwnP.bare _ _ none, hE⟩
  have e2 : dropE ps k = 0 := by simp [dropE, hok, hhas]
  have e3 : dropL ps k = without ps k := by simp [dropL, e2]
  obtain ⟨x, hx, hxk⟩ := hasK_find hhas
  have hlt := (List.getElem?_eq_some_iff.1 hx).1
  refine St0 ?_
  refine GL.call rfl rfl rfl (pairsTwin_call _ ps S w3 (h.ext hE) (by omega) (fun x hx => by have := valB_le (hM.valid x hx); omega)) ?_
  rintro out w4 ⟨⟨es, hes, hown⟩, he4⟩
  have hE4 := hE.trans he4
  have sE := hE.size
  have s4 := he4.size
  have hel := pairsN_len33 hes
  refine St0 ?_
  rw [show ((ahead ps k : Nat) : Int) + 1 = ((ahead ps k + 1 : Nat) : Int) by omega]
  refine GL.call rfl rfl rfl (delete_call out ps.length (ahead ps k) es.flatten w3.heap.size w4 hown (pairsN_one hes) hlt (by omega) (by omega)) ?_
  rintro r w5 ⟨ho, hb5⟩
  refine St0 ?_
  have hlen := length_without hM k
  rw [hhas] at hlen
  simp only [if_true] at hlen
  refine G.ret2 rfl rfl rfl rfl rfl ⟨_, by rw [e2], ⟨es.take (ahead ps k) ++ es.drop (ahead ps k + 1), ?_, ?_⟩, hb5.below (fun q hq => by have := hown.row hq; omega) (by omega) hE4⟩
  · rw [e3, hM.without_has hhas]
    exact ((hes.take _).imp fun _ _ h => (h.but hown hb5).mono sE).append ((hes.drop _).imp fun _ _ h => (h.but hown hb5).mono sE)
  · rw [e3, hlen, List.flatten_append, flat_take hel, flat_drop hel]
    exact ho.mono sE
end Go.Proofs.YtefneilaongpbaaDoor
