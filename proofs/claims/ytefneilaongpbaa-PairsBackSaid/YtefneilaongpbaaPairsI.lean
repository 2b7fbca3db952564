/-
  slices.Insert and slices.Delete of pairs.
-/
import Derived.Test.YtefneilaongpbaaOwnP
import Derived.Test.YtefneilaongpbaaCut
import Derived.Test.YtefneilaongpbaaMem4
set_option linter.unusedVariables false
set_option linter.unusedSimpArgs false
set_option maxRecDepth 100000
set_option maxHeartbeats 4000000
namespace Go.Proofs.Ytefneilaongpbaa
open Go Go.Bd Go.RowKit
attribute [local irreducible] G GL GQ GS

/-- A slice of one's own with elements or room: its parts. -/
theorem _root_.Go.Bd.Own.parts {B : Nat} {w : World} {v : Value} {n sz : Nat} {T : TypeId} {cs : List Value} (h : Own B w v n sz T cs) (hn : 0 < n) :
    ∃ g cap rest, v = .slice (some ⟨g, 0, none⟩) n cap ∧ rowOf v = some g ∧ B ≤ g ∧ n ≤ cap ∧ Blk w g T (cs ++ rest) ∧ rest.length = (cap - n) * sz ∧ cs.length = n * sz := by
  rcases h.2 with ⟨rfl, p, rfl⟩ | ⟨g, cap, rest, rfl, hB, hn', hblk, hr⟩
  · omega
  · refine ⟨g, cap, rest, rfl, ?_, hB, hn', hblk, hr, h.1⟩
    cases cap with
    | zero => omega
    | succ c => rfl
theorem Own.of_blk {B : Nat} {w : World} {n sz g cap : Nat} {T : TypeId} {cs rest : List Value} (hB : B ≤ g) (hn : n ≤ cap) (hl : cs.length = n * sz) (hblk : Blk w g T (cs ++ rest)) (hr : rest.length = (cap - n) * sz) : Own B w (.slice (some ⟨g, 0, none⟩) n cap) n sz T cs :=
  ⟨hl, .inr ⟨g, cap, rest, rfl, hB, hn, hblk, hr⟩⟩
theorem list3 {α : Type} (l : List α) (a b : Nat) (h : a ≤ b) : l = l.take a ++ ((l.drop a).take (b - a) ++ l.drop b) := by
  have e : l.drop b = (l.drop a).drop (b - a) := by rw [List.drop_drop]; congr 1; omega
  rw [e, List.take_append_drop, List.take_append_drop]
theorem splice_at {A B C ys : List Value} {o : Nat} (h1 : A.length = o) (h2 : B.length = ys.length) : splice (A ++ (B ++ C)) o ys = A ++ (ys ++ C) := by
  subst h1
  unfold splice
  rw [List.take_left]
  congr 2
  rw [← List.drop_drop, List.drop_left, ← h2, List.drop_left]
theorem _root_.Go.Bd.But.trans {r : Option Nat} {w w' w'' : World} (h : But r w w') (h' : But r w' w'') : But r w w'' :=
  ⟨h'.os.trans h.os, h'.tape.trans h.tape, h'.output.trans h.output, Nat.le_trans h.size h'.size, fun k hk hr => (h'.block k (Nat.lt_of_lt_of_le hk h.size) hr).trans (h.block k hk hr)⟩
theorem cutP_some {b o L M sz : Nat} (h : L < M) : cutP (some ⟨b, o, none⟩) L M sz = some ⟨b, o + L * sz, none⟩ := by
  unfold cutP
  rw [if_neg (by omega)]
  simp [add_addr]
theorem insert_call (v : Value) (n i b5 : Nat) (cs xs : List Value) (B : Nat) (w : World) (h : Own B w v n 33 89 cs) (hx : Blk w b5 89 xs) (hxl : xs.length = 33) (hx1 : ∀ c ∈ xs, c.oneCell' = true) (h1 : ∀ c ∈ cs, c.oneCell' = true) (hne : rowOf v ≠ some b5) (hi : i ≤ n) (hm : n ≤ 1000000) (hB : B ≤ w.heap.size) :
    Does Try.prog 66 #[v, iv i, .slice (some ⟨b5, 0, none⟩) 1 1] w fun r w' => Own B w' r (n + 1) 33 89 (cs.take (i * 33) ++ (xs ++ cs.drop (i * 33))) ∧ But (rowOf v) w w' := by
  have ex : xs.take (1 * 33) = xs := List.take_of_length_le (by omega)
  have hcl := h.1
  have hcs : cs = cs.take (i * 33) ++ cs.drop (i * 33) := (List.take_append_drop _ _).symm
  have hA : (cs.take (i * 33)).length = i * 33 := by rw [List.length_take, hcl]; omega
  have hD : (cs.drop (i * 33)).length = (n - i) * 33 := by rw [List.length_drop, hcl, ← Nat.sub_mul]
  generalize eA : cs.take (i * 33) = A at hcs hA ⊢
  generalize eD : cs.drop (i * 33) = D at hcs hD ⊢
  refine call_walk Try.func66 (by kernel_rfl) rfl Try.ntmps66 rfl ?_
  obtain ⟨p, c, rfl⟩ := h.shape
  have hsl : n ≤ c := by
    obtain ⟨p', c', hv', hc', _⟩ := h.fresh
    cases hv'
    exact hc'
  have hsrc : RdF any w (.slice (some ⟨b5, 0, none⟩) 1 1) 1 xs := ⟨_, 1, rfl, Nat.le_refl _, .inr ⟨b5, 0, rfl, hx.all⟩⟩
  refine St0 ?_
  refine GL.slice i n c 33 hT rfl rfl rfl rfl rfl rfl rfl ⟨_, _, rfl, rfl⟩ rfl rfl (by simp) (by omega) (by omega) (by omega) ?_
  refine St0 ?_
  by_cases hin : (i : Int) = n
  · refine St0 ?_
    refine GL.append hT rfl rfl rfl rfl rfl rfl rfl rfl rfl rfl h hsrc (by rw [hxl]) hx1 (by show (n + 1) * 56 ≤ _; omega) (by omega) hB fun r w1 ho hb hrow => ?_
    refine St0 ?_
    refine G.ret1 rfl rfl rfl rfl ⟨?_, hb⟩
    have e2 : D = [] := List.eq_nil_of_length_eq_zero (by omega)
    rw [hcs, e2, List.append_nil] at ho
    rw [e2, List.append_nil]
    exact ho
  have hpos : 0 < n := by omega
  obtain ⟨g, cap, rest, hv, hrow, hgB, hnc, hblk, hrl, _⟩ := h.parts hpos
  cases hv
  have hgb : b5 ≠ g := fun e => hne (by rw [hrow, e])
  have hgl := hblk.lt
  refine St0 ?_
  refine GL.cap hT rfl rfl rfl rfl rfl ?_
  by_cases hroom : ((n : Int) + 1) > c
  · -- no room: a new row
    have hcap : c = n := by omega
    refine St0 ?_
    refine GL.slice 0 i c 33 hT rfl rfl rfl rfl rfl rfl rfl rfl ⟨_, _, rfl, rfl⟩ rfl (by simp) (by omega) (by omega) (by omega) ?_
    refine St0 ?_
    have hfr : RdF any w (.slice (some ⟨g, 0, none⟩) n c) n cs := h.fresh.imp fun _ _ _ => trivial
    have hc0 := hfr.cut hcl (L := 0) (H := i) (M := c) (by omega) (by omega) (by omega)
    refine GL.appendZ (B := w.heap.size) (n + 1 - i) 33 hT rfl rfl rfl rfl rfl Try.underlying3 rfl rfl rfl rfl rfl (by omega) hc0 (by rw [List.length_take, List.length_drop, hcl]; omega) (by omega) (by omega) (by show (i - 0 + (n + 1 - i)) * 56 ≤ _; omega) (by omega) (Nat.le_refl _) fun r w1 zs hzl ho he hrow1 => ?_
    have en : i - 0 + (n + 1 - i) = n + 1 := by omega
    have ec : (cs.drop (0 * 33)).take ((i - 0) * 33) = A := by simp [eA]
    rw [en, ec] at ho
    obtain ⟨g1, cap1, rest1, hv1, hrow', hgB1, hnc1, hblk1, hrl1, hcl1⟩ := ho.parts (by omega)
    subst hv1
    have hg1 : g1 = w.heap.size := by rw [hrow1] at hrow'; exact (Option.some.inj hrow').symm
    have hzs : zs.length = 33 + (n - i) * 33 := by rw [hzl]; omega
    obtain ⟨z1, z2, rfl, hz1, hz2⟩ : ∃ z1 z2, zs = z1 ++ z2 ∧ z1.length = 33 ∧ z2.length = (n - i) * 33 := ⟨zs.take 33, zs.drop 33, (List.take_append_drop _ _).symm, by rw [List.length_take]; omega, by rw [List.length_drop]; omega⟩
    refine St0 ?_
    refine GL.slice i (n + 1) cap1 33 hT rfl rfl rfl rfl rfl rfl rfl ⟨_, _, rfl, rfl⟩ rfl rfl (by simp) (by omega) (by omega) (by omega) ?_
    rw [cutP_some (show i < cap1 by omega)]
    have e0 : (A ++ (z1 ++ z2)) ++ rest1 = A ++ (z1 ++ (z2 ++ rest1)) := by simp
    rw [e0] at hblk1
    have hx' : RdF any w1 (.slice (some ⟨b5, 0, none⟩) 1 1) 1 xs := hsrc.ext he
    refine St0 ?_
    refine GL.copy 33 hT rfl rfl rfl rfl rfl rfl rfl rfl rfl hblk1 hx' (by rw [hxl]) (fun q hq => hx1 q (List.mem_of_mem_take hq)) (by rw [Nat.min_eq_left (by omega)]; simp [hA, hz1, hz2]) fun w2 hc2 hblk2 => ?_
    rw [Nat.min_eq_left (show 1 ≤ n + 1 - i by omega), ex, splice_at (by rw [hA]; omega) (by rw [hz1, hxl])] at hblk2
    refine St0 ?_
    refine G.quietTail 8 follows (by kernel_rfl) (by kernel_rfl) (by kernel_rfl) (by kernel_rfl) ?_
    refine QSt0 ?_
    refine GQ.slice (i + 1) (n + 1) cap1 33 hT rfl rfl rfl rfl rfl rfl rfl ⟨_, _, rfl, by omega⟩ rfl rfl (by simp) (by omega) (by omega) (by omega) ?_
    refine QSt0 ?_
    refine GQ.slice i n c 33 hT rfl rfl rfl rfl rfl rfl rfl ⟨_, _, rfl, rfl⟩ rfl rfl (by simp) (by omega) (by omega) (by omega) ?_
    refine GQ.tail fun w3 he3 => ?_
    have h2 : Below w.heap.size w w2 := hc2.below (by omega) he
    have h3 : Ext w w3 := below_then h2 (by have := hc2.size; have := he.size; omega) he3
    have hs3 := (hfr.ext h3).cut hcl (L := i) (H := n) (M := c) (by omega) (by omega) (by omega)
    have ed : D.take ((n - i) * 33) = D := List.take_of_length_le (by omega)
    rw [eD, ed] at hs3
    rw [show n + 1 - (i + 1) = n - i by omega]
    by_cases hlast : i + 1 = cap1
    · omega
    rw [cutP_some (show i + 1 < cap1 by omega)]
    refine GL.copy 33 hT rfl rfl rfl rfl rfl rfl rfl rfl rfl (hblk2.ext he3) hs3 hD (fun q hq => h1 q (by rw [hcs]; exact List.mem_append_right _ (List.mem_of_mem_take hq))) (by rw [Nat.min_self]; simp [hA, hxl, hz2]; omega) fun w4 hc4 hblk4 => ?_
    rw [Nat.min_self, ed, ← List.append_assoc, splice_at (by simp [hA, hxl]; omega) (by rw [hz2, hD])] at hblk4
    refine St0 ?_
    refine G.ret1 rfl rfl rfl rfl ⟨Own.of_blk (by omega) hnc1 (by simp [hA, hxl, hD]; omega) (rest := rest1) (by simpa using hblk4) hrl1, ?_⟩
    exact But.of_ext _ (hc4.below (by have := h3.size; omega) h3)
  · have hL : (cs ++ rest).length = n * 33 + (c - n) * 33 := by rw [List.length_append, hcl, hrl]
    obtain ⟨M1, M2, R2, eL, hM1, hM2, hR2⟩ : ∃ M1 M2 R2, cs ++ rest = A ++ (M1 ++ (M2 ++ R2)) ∧ M1.length = 33 ∧ M2.length = (n - i) * 33 ∧ R2.length = (c - (n + 1)) * 33 := by
      refine ⟨((cs ++ rest).drop (i * 33)).take 33, (((cs ++ rest).drop (i * 33)).drop 33).take ((n - i) * 33), (((cs ++ rest).drop (i * 33)).drop 33).drop ((n - i) * 33), ?_, ?_, ?_, ?_⟩
      · rw [List.take_append_drop, List.take_append_drop]
        have : A = (cs ++ rest).take (i * 33) := by rw [← eA, List.take_append_of_le_length (by omega)]
        rw [this, List.take_append_drop]
      · simp only [List.length_take, List.length_drop, hL]; omega
      · simp only [List.length_take, List.length_drop, hL]; omega
      · simp only [List.length_drop, hL]; omega
    rw [eL] at hblk
    refine St0 ?_
    refine GL.slice 0 (n + 1) c 33 hT rfl rfl rfl rfl rfl rfl rfl rfl ⟨_, _, rfl, by omega⟩ rfl (by simp) (by omega) (by omega) (by omega) ?_
    rw [cutP_some (show 0 < c by omega)]
    refine St0 ?_
    refine GL.slice (i + 1) (n + 1) c 33 hT rfl rfl rfl rfl rfl rfl rfl ⟨_, _, rfl, by omega⟩ rfl rfl (by simp) (by omega) (by omega) (by omega) ?_
    by_cases hlast : i + 1 = c
    · omega
    rw [cutP_some (show i + 1 < c by omega)]
    refine GL.overlaps hT rfl rfl rfl rfl rfl Try.func88 rfl rfl rfl rfl rfl hx hblk hgb (by simp [hM1]; omega) ?_
    refine St0 ?_
    refine G.quietTail 8 follows (by kernel_rfl) (by kernel_rfl) (by kernel_rfl) (by kernel_rfl) ?_
    refine QSt0 ?_
    refine GQ.slice (i + 1) (n + 1) c 33 hT rfl rfl rfl rfl rfl rfl rfl ⟨_, _, rfl, by omega⟩ rfl rfl (by simp) (by omega) (by omega) (by omega) ?_
    refine QSt0 ?_
    refine GQ.slice i (n + 1) c 33 hT rfl rfl rfl rfl rfl rfl rfl ⟨_, _, rfl, rfl⟩ rfl rfl (by simp) (by omega) (by omega) (by omega) ?_
    refine GQ.tail fun w1 he1 => ?_
    rw [cutP_some (show i + 1 < c by omega)]
    replace hblk := hblk.ext he1
    have hs1 : RdF any w1 (.slice (some ⟨g, 0 + 0 * 33, none⟩) (n + 1) (c - 0)) (n + 1) ((cs ++ rest).take ((n + 1) * 33)) := ⟨_, _, rfl, by omega, .inr ⟨g, _, rfl, by
      have := hblk.all
      rw [← eL] at this
      exact this.sub [] _ (q := (cs ++ rest).drop ((n + 1) * 33)) (by simp) (by simp)⟩⟩
    have hl1 : ((cs ++ rest).take ((n + 1) * 33)).length = (n + 1) * 33 := by rw [List.length_take, hL]; omega
    have hs2 := hs1.cut hl1 (L := i) (H := n + 1) (M := c) (by omega) (by omega) (by omega)
    have hl2 : ((((cs ++ rest).take ((n + 1) * 33)).drop (i * 33)).take ((n + 1 - i) * 33)).length = (n + 1 - i) * 33 := by simp only [List.length_take, List.length_drop, hL]; omega
    have et : ((((cs ++ rest).take ((n + 1) * 33)).drop (i * 33)).take ((n + 1 - i) * 33)).take ((n - i) * 33) = D := by
      rw [List.take_take, Nat.min_eq_left (by omega), List.drop_take, List.take_take, Nat.min_eq_left (by omega), List.drop_append_of_le_length (by omega), eD, List.take_append_of_le_length (by omega), List.take_of_length_le (by omega)]
    have hmin : Min.min (n + 1 - i) (n + 1 - (i + 1)) = n - i := by omega
    refine GL.copy 33 hT rfl rfl rfl rfl rfl rfl rfl rfl rfl hblk hs2 hl2 (by rw [hmin, et]; exact fun q hq => h1 q (by rw [hcs]; exact List.mem_append_right _ hq)) (by rw [hmin]; simp [hA, hM1, hM2, hR2]; omega) fun w2 hc2 hblk2 => ?_
    rw [hmin, et, ← List.append_assoc, splice_at (by simp [hA, hM1]; omega) (by rw [hM2, hD]), List.append_assoc] at hblk2
    have hg2 : Below w.heap.size w w1 := he1
    refine St0 ?_
    refine GL.slice i (n + 1) c 33 hT rfl rfl rfl rfl rfl rfl rfl ⟨_, _, rfl, rfl⟩ rfl rfl (by simp) (by omega) (by omega) (by omega) ?_
    rw [cutP_some (show i < c by omega)]
    refine St0 ?_
    have hx2 : RdF any w2 (.slice (some ⟨b5, 0, none⟩) 1 1) 1 xs := ⟨_, 1, rfl, Nat.le_refl _, .inr ⟨b5, 0, rfl, ((hx.ext he1).chg hc2 hgb).all⟩⟩
    refine GL.copy 33 hT rfl rfl rfl rfl rfl rfl rfl rfl rfl hblk2 hx2 (by rw [hxl]) (fun q hq => hx1 q (List.mem_of_mem_take hq)) (by rw [Nat.min_eq_left (by omega)]; simp [hA, hM1, hD, hR2]) fun w3 hc3 hblk3 => ?_
    rw [Nat.min_eq_left (by omega), ex, splice_at (by rw [hA]; omega) (by rw [hM1, hxl])] at hblk3
    refine St0 ?_
    refine G.ret1 rfl rfl rfl rfl ⟨?_, ?_⟩
    · refine Own.of_blk hgB (by omega) (by simp [hA, hxl, hD]; omega) (rest := R2) (by simpa using hblk3) hR2
    · rw [hrow]
      exact ((But.of_ext _ he1).trans (But.of_chg hc2)).trans (But.of_chg hc3)
theorem delete_call (v : Value) (n i : Nat) (cs : List Value) (B : Nat) (w : World) (h : Own B w v n 33 89 cs) (h1 : ∀ c ∈ cs, c.oneCell' = true) (hi : i < n) (hm : n ≤ 1000000) (hB : B ≤ w.heap.size) :
    Does Try.prog 67 #[v, iv i, iv (i + 1 : Nat)] w fun r w' => Own B w' r (n - 1) 33 89 (cs.take (i * 33) ++ cs.drop ((i + 1) * 33)) ∧ But (rowOf v) w w' := by
  refine call_walk Try.func67 (by kernel_rfl) rfl Try.ntmps67 rfl ?_
  obtain ⟨g, c, rest, rfl, hrow, hgB, hnc, hblk, hrl, hcl⟩ := h.parts (by omega)
  have hgl := hblk.lt
  have hcs : cs = cs.take (i * 33) ++ ((cs.drop (i * 33)).take 33 ++ cs.drop ((i + 1) * 33)) := by
    have e : cs.drop ((i + 1) * 33) = (cs.drop (i * 33)).drop 33 := by rw [List.drop_drop]; congr 1; omega
    rw [e, List.take_append_drop, List.take_append_drop]
  have hA : (cs.take (i * 33)).length = i * 33 := by rw [List.length_take, hcl]; omega
  have hD : (cs.drop ((i + 1) * 33)).length = (n - (i + 1)) * 33 := by rw [List.length_drop, hcl, ← Nat.sub_mul]
  have hM : ((cs.drop (i * 33)).take 33).length = 33 := by rw [List.length_take, List.length_drop, hcl]; omega
  have hfr : RdF any w (.slice (some ⟨g, 0, none⟩) n c) n cs := h.fresh.imp fun _ _ _ => trivial
  have hcut := hfr.cut hcl (L := i + 1) (H := n) (M := c) (by omega) (by omega) (by omega)
  have ecut : (cs.drop ((i + 1) * 33)).take ((n - (i + 1)) * 33) = cs.drop ((i + 1) * 33) := List.take_of_length_le (by omega)
  rw [ecut] at hcut
  generalize eA : cs.take (i * 33) = A at hcs hA ⊢
  generalize eD : cs.drop ((i + 1) * 33) = D at hcs hD hcut ⊢
  generalize eM : (cs.drop (i * 33)).take 33 = M at hcs hM
  refine St0 ?_
  refine GL.slice i (i + 1) n 33 hT rfl rfl rfl rfl rfl rfl rfl ⟨_, _, rfl, rfl⟩ ⟨_, _, rfl, rfl⟩ ⟨_, _, rfl, rfl⟩ (by simp) (by omega) (by omega) (by omega) ?_
  refine St0 ?_
  refine G.quietTail 6 follows (by kernel_rfl) (by kernel_rfl) (by kernel_rfl) (by kernel_rfl) ?_
  refine QSt0 ?_
  refine GQ.slice 0 i c 33 hT rfl rfl rfl rfl rfl rfl rfl rfl ⟨_, _, rfl, rfl⟩ rfl (by simp) (by omega) (by omega) (by omega) ?_
  refine QSt0 ?_
  refine GQ.slice (i + 1) n c 33 hT rfl rfl rfl rfl rfl rfl rfl ⟨_, _, rfl, rfl⟩ rfl rfl (by simp) (by omega) (by omega) (by omega) ?_
  refine GQ.tail fun w1 he1 => ?_
  have e0 : cutP (some ⟨g, 0, none⟩) 0 c 33 = some ⟨g, 0, none⟩ := by rw [cutP_some (by omega)]
  rw [e0]
  replace hblk := hblk.ext he1
  refine GL.appendIn 33 hT rfl rfl rfl rfl rfl rfl rfl rfl rfl hblk (by rw [List.length_append, hcl, hrl, ← Nat.add_mul]; congr 1; omega) (hcut.ext he1) hD (fun q hq => h1 q (by rw [hcs]; simp [hq])) (by omega) fun w2 hc2 hblk2 => ?_
  have en : i - 0 + (n - (i + 1)) = n - 1 := by omega
  rw [en]
  obtain ⟨X, Y, eX, hX, hY⟩ : ∃ X Y, M ++ D = X ++ Y ∧ X.length = (n - (i + 1)) * 33 ∧ Y.length = 33 := ⟨(M ++ D).take ((n - (i + 1)) * 33), (M ++ D).drop ((n - (i + 1)) * 33), (List.take_append_drop _ _).symm, by simp [hM, hD], by simp [hM, hD]⟩
  have e1 : cs ++ rest = A ++ (X ++ (Y ++ rest)) := by rw [hcs, eX]; simp
  rw [e1, Nat.sub_zero, splice_at hA (by rw [hX, hD])] at hblk2
  refine St0 ?_
  refine GL.slice (n - 1) n c 33 hT rfl rfl rfl rfl rfl rfl rfl ⟨_, _, rfl, rfl⟩ ⟨_, _, rfl, rfl⟩ rfl (by simp) (by omega) (by omega) (by omega) ?_
  rw [cutP_some (show n - 1 < c by omega)]
  refine GL.clear 33 hT rfl rfl rfl rfl rfl rfl rfl rfl rfl hblk2 (by simp [hA, hD, hY]; omega) fun w3 zs hzl hc3 hblk3 => ?_
  have e2 : n - (n - 1) = 1 := by omega
  rw [e2] at hzl
  rw [show A ++ (D ++ (Y ++ rest)) = (A ++ D) ++ (Y ++ rest) by simp, splice_at (by simp [hA, hD]; omega) (by rw [hY, hzl])] at hblk3
  refine St0 ?_
  refine G.ret1 rfl rfl rfl rfl ⟨Own.of_blk hgB (by omega) (by simp [hA, hD]; omega) hblk3 (by simp [hzl, hrl]; omega), ?_⟩
  rw [hrow]
  exact ((But.of_ext _ he1).trans (But.of_chg hc2)).trans (But.of_chg hc3)
end Go.Proofs.Ytefneilaongpbaa
