import Derived.Test.YtefneilaongpbaaDoorStepsW
import Derived.Test.YtefneilaongpbaaDoorSha
import Derived.Test.YtefneilaongpbaaDoorPrf1
import Derived.Test.YtefneilaongpbaaDoorEq
import Derived.Test.YtefneilaongpbaaDoorCut
import Derived.Test.YtefneilaongpbaaDoorMem6

/-
  Words turned: both sides.
-/
set_option linter.unusedVariables false
set_option linter.unusedSimpArgs false
set_option maxRecDepth 100000
set_option maxHeartbeats 4000000
namespace Go.Proofs.YtefneilaongpbaaDoor
open Go Go.Bd Go.RowKit
attribute [local irreducible] G GL GQ

theorem and31 : ∀ n : Fin 32, n.1 ≠ 0 → IntKind.u64.wrap ((BitVec.ofInt 64 (IntKind.u64.wrap (0 - (n.1 : Int))) &&& BitVec.ofInt 64 31).toNat : Int) = ((32 - n.1 : Nat) : Int) := by decide +kernel
theorem rot_call (x n : UInt32) (h1 : 0 < n.toNat) (h2 : n.toNat < 32) {m : Int} (hm : m = 0 - (n.toNat : Int)) (w : World) : Does Tryd.prog 171 #[wv x, iv m] w fun r w' => r = wv (rotr x n) ∧ w' = w := by
  refine call_walk Tryd.func171 (by kernel_rfl) rfl Tryd.ntmps171 rfl ?_
  subst hm
  refine St0 ?_
  refine GL.convI _ hT rfl rfl rfl rfl rfl rfl rfl rfl ?_
  refine GL.bin (v := .int .u64 ((32 - n.toNat : Nat) : Int)) rfl rfl rfl rfl (fun w => ?_) ?_
  · have := and31 ⟨n.toNat, h2⟩ (by simpa using Nat.pos_iff_ne_zero.1 h1)
    simp only at this
    rw [← this]
    rfl
  refine St0 ?_
  have e1 : (32 - n).toNat = 32 - n.toNat := by
    rw [UInt32.toNat_sub_of_le _ _ (by rw [UInt32.le_iff_toNat_le]; exact Nat.le_of_lt h2)]
    rfl
  rw [← e1]
  refine GL.shl32 (32 - n) (by omega) rfl rfl rfl rfl rfl ?_
  refine St0 ?_
  refine GL.bin (v := .int .u64 (n.toNat : Int)) rfl rfl rfl rfl (fun w => ?_) ?_
  · have e : IntKind.u64.wrap (32 - (((32 - n).toNat : Nat) : Int)) = (n.toNat : Int) := by
      rw [e1, show (32 : Int) - ((32 - n.toNat : Nat) : Int) = (n.toNat : Int) by omega, wrap_u64, Nat.mod_eq_of_lt (by omega)]
    show Result.ok (Value.int .u64 (IntKind.u64.wrap (32 - (((32 - n).toNat : Nat) : Int)))) w = _
    rw [e]
  refine GL.shr32 n h2 rfl rfl rfl rfl rfl ?_
  refine WSt0 ?_
  exact G.ret1 rfl rfl rfl rfl ⟨by rw [rot_or], rfl⟩
theorem turned_call (x n : UInt32) {m : Int} (hm : m = (n.toNat : Int)) (h1 : 0 < n.toNat) (h2 : n.toNat < 32) (w : World) : Does Tryd.prog 151 #[wv x, iv m] w fun r w' => r = wv (rotr x n) ∧ Ext w w' := by
  refine call_walk Tryd.func151 (by kernel_rfl) rfl Tryd.ntmps151 rfl ?_
  subst hm
  refine St0 ?_
  refine GL.neg rfl rfl rfl (by omega) (by omega) ?_
  refine GL.call rfl rfl rfl (rot_call x n h1 h2 (by omega) w) ?_
  rintro r w1 ⟨rfl, rfl⟩
  refine St0 ?_
  exact G.ret1 rfl rfl rfl rfl ⟨rfl, Ext.refl _⟩
theorem refTurn_call (x n : UInt32) {m : Int} (hm : m = (n.toNat : Int)) (h1 : 0 < n.toNat) (h2 : n.toNat < 32) (w : World) : Does Tryd.prog 169 #[wv x, .int .u32 m] w fun r w' => r = wv (rotr x n) ∧ Ext w w' := by
  refine call_walk Tryd.func169 (by kernel_rfl) rfl Tryd.ntmps169 rfl ?_
  subst hm
  refine St0 ?_
  refine GL.shr32 n h2 rfl rfl rfl rfl rfl ?_
  refine St0 ?_
  refine GL.sub32 (A := 32) rfl rfl rfl rfl ?_
  have e1 : (32 - n).toNat = 32 - n.toNat := by
    rw [UInt32.toNat_sub_of_le _ _ (by rw [UInt32.le_iff_toNat_le]; exact Nat.le_of_lt h2)]
    rfl
  refine GL.shl32 (32 - n) (by omega) rfl rfl rfl rfl rfl ?_
  refine WSt0 ?_
  exact G.ret1 rfl rfl rfl rfl ⟨rfl, Ext.refl _⟩
end Go.Proofs.YtefneilaongpbaaDoor
/-
  The document's round, words, schedule.
-/
set_option linter.unusedVariables false
set_option linter.unusedSimpArgs false
set_option maxRecDepth 100000
set_option maxHeartbeats 4000000
namespace Go.Proofs.YtefneilaongpbaaDoor
open Go Go.Bd Go.RowKit
attribute [local irreducible] G GL GQ

def wcells (ws : List UInt32) : List Value := ws.map wv
@[simp] theorem wcells_len (ws : List UInt32) : (wcells ws).length = ws.length := by simp [wcells]
theorem wcells_one (ws : List UInt32) : ∀ u ∈ wcells ws, u.oneCell' = true := by
  intro u hu
  obtain ⟨b, _, rfl⟩ := List.mem_map.1 hu
  rfl
theorem wcells_at {ws : List UInt32} {j : Nat} (h : j < ws.length) : (wcells ws)[j]? = some (wv (ws.getD j 0)) := by
  simp [wcells, List.getD, h]
theorem _root_.Go.Bd.Blk.word {w : World} {b : Nat} {T : TypeId} {ws : List UInt32} (h : Blk w b T (wcells ws)) {j : Nat} (hj : j < ws.length) : At any w b j [wv (ws.getD j 0)] :=
  (h.one (o := j) (wcells_at hj)).imp fun _ _ _ => trivial
abbrev wav (ws : List UInt32) : Value := .agg (wcells ws).toArray
theorem refRound_call (v : List UInt32) (hv : v.length = 8) (k x : UInt32) (w : World) : Does Tryd.prog 146 #[wav v, wv k, wv x] w fun r w' => r = wav (rnd v k x) ∧ Ext w w' := by
  match v, hv with
  | [a, b, c, d, e, f, g, h], _ =>
    refine call_walk Tryd.func146 (by kernel_rfl) rfl Tryd.ntmps146 rfl ?_
    refine St0 ?_
    refine GL.box rfl rfl rfl rfl fun b3 w1 hb3 hB3 he1 => ?_
    refine GL.alloc hT rfl rfl rfl fun b6 w2 hb6 hB6 he2 => ?_
    replace hB3 := hB3.ext he2
    have l6 := hB6.lt
    have s1 := he1.size
    have he := he1.trans he2
    refine St0 ?_
    refine G.quiet follows (by kernel_rfl) ?_
    (refine GQ.indexArr (0) 1 (0) hT rfl rfl rfl rfl rfl rfl rfl rfl ?_ ?_ ?_ ?_; (focus omega); (focus omega); (focus omega))
    refine QSt1 ((hB3.word (j := 0) (show 0 < 8 by decide))) ?_
    (refine GQ.indexArr (1) 1 (1) hT rfl rfl rfl rfl rfl rfl rfl rfl ?_ ?_ ?_ ?_; (focus omega); (focus omega); (focus omega))
    refine QSt1 ((hB3.word (j := 1) (show 1 < 8 by decide))) ?_
    (refine GQ.indexArr (2) 1 (2) hT rfl rfl rfl rfl rfl rfl rfl rfl ?_ ?_ ?_ ?_; (focus omega); (focus omega); (focus omega))
    refine QSt1 ((hB3.word (j := 2) (show 2 < 8 by decide))) ?_
    (refine GQ.indexArr (3) 1 (3) hT rfl rfl rfl rfl rfl rfl rfl rfl ?_ ?_ ?_ ?_; (focus omega); (focus omega); (focus omega))
    refine QSt1 ((hB3.word (j := 3) (show 3 < 8 by decide))) ?_
    (refine GQ.indexArr (4) 1 (4) hT rfl rfl rfl rfl rfl rfl rfl rfl ?_ ?_ ?_ ?_; (focus omega); (focus omega); (focus omega))
    refine QSt1 ((hB3.word (j := 4) (show 4 < 8 by decide))) ?_
    (refine GQ.indexArr (5) 1 (5) hT rfl rfl rfl rfl rfl rfl rfl rfl ?_ ?_ ?_ ?_; (focus omega); (focus omega); (focus omega))
    refine QSt1 ((hB3.word (j := 5) (show 5 < 8 by decide))) ?_
    (refine GQ.indexArr (6) 1 (6) hT rfl rfl rfl rfl rfl rfl rfl rfl ?_ ?_ ?_ ?_; (focus omega); (focus omega); (focus omega))
    refine QSt1 ((hB3.word (j := 6) (show 6 < 8 by decide))) ?_
    (refine GQ.indexArr (7) 1 (7) hT rfl rfl rfl rfl rfl rfl rfl rfl ?_ ?_ ?_ ?_; (focus omega); (focus omega); (focus omega))
    refine QSt1 ((hB3.word (j := 7) (show 7 < 8 by decide))) ?_
    refine GQ.nil fun w3 he3 => ?_
    replace hB6 := hB6.ext he3
    refine St0 ?_
    refine GL.call rfl rfl rfl (refTurn_call e 6 rfl (by decide) (by decide) w3) ?_
    rintro r w4 ⟨rfl, he4⟩
    refine St0 ?_
    refine GL.call rfl rfl rfl (refTurn_call e 11 rfl (by decide) (by decide) w4) ?_
    rintro r w5 ⟨rfl, he5⟩
    refine WSt0 ?_
    refine GL.call rfl rfl rfl (refTurn_call e 25 rfl (by decide) (by decide) w5) ?_
    rintro r w6 ⟨rfl, he6⟩
    refine WSt0 ?_
    refine GL.sub32 (A := 4294967295) rfl rfl rfl rfl ?_
    rw [not_eq]
    refine WSt0 ?_
    refine GL.call rfl rfl rfl (refTurn_call a 2 rfl (by decide) (by decide) w6) ?_
    rintro r w7 ⟨rfl, he7⟩
    refine St0 ?_
    refine GL.call rfl rfl rfl (refTurn_call a 13 rfl (by decide) (by decide) w7) ?_
    rintro r w8 ⟨rfl, he8⟩
    refine WSt0 ?_
    refine GL.call rfl rfl rfl (refTurn_call a 22 rfl (by decide) (by decide) w8) ?_
    rintro r w9 ⟨rfl, he9⟩
    refine WSt0 ?_
    refine GL.buildArr (wcells (rnd [a, b, c, d, e, f, g, h] k x)) hT rfl rfl rfl rfl rfl rfl rfl ?_
    have he39 := he4.trans (he5.trans (he6.trans (he7.trans (he8.trans he9))))
    replace hB6 := hB6.ext he39
    refine GL.storeVar hT rfl rfl rfl rfl rfl (wcells_len _) (wcells_one _) hB6 rfl fun w10 hc10 hB10 => ?_
    refine St0 ?_
    exact G.retN rfl rfl hT rfl rfl rfl rfl hB10.all rfl ⟨rfl, hc10.below (by omega) (he.trans (he3.trans he39))⟩
theorem words_call (w : World) : Does Tryd.prog 144 #[] w fun r w' => r = wav kTab ∧ Ext w w' := by
  refine call_walk (vs := []) Tryd.func144 (by kernel_rfl) rfl Tryd.ntmps144 rfl ?_
  refine St0 ?_
  refine GL.alloc hT rfl rfl rfl fun b0 w1 hb0 hB0 he1 => ?_
  have l0 := hB0.lt
  refine St0 ?_
  refine GL.buildArr (wcells kTab) hT rfl rfl rfl rfl rfl rfl (by kernel_rfl) ?_
  refine GL.storeVar hT rfl rfl rfl rfl rfl (wcells_len _) (wcells_one _) hB0 rfl fun w2 hc2 hB2 => ?_
  refine St0 ?_
  exact G.retN rfl rfl hT rfl rfl rfl rfl hB2.all rfl ⟨rfl, hc2.below (by omega) he1⟩
theorem wcells_set (l : List UInt32) (j : Nat) (x : UInt32) : (wcells l).set j (wv x) = wcells (l.set j x) := by simp only [wcells, List.map_set]
theorem wAt_set {b : Bytes} {t : Nat} {x : UInt32} (h : x = if t < 16 then wordAt b t else wNext (wAt b t) t) : (wAt b t).set t x = wAt b (t + 1) := by
  subst h; rfl
theorem wAt_zero (b : Bytes) : ∀ (t j : Nat), t ≤ j → (wAt b t).getD j 0 = 0
  | 0, j, _ => by
    simp only [wAt, List.getD_eq_getElem?_getD, List.getElem?_replicate]
    split <;> rfl
  | t + 1, j, h => by
    have := wAt_zero b t j (by omega)
    simp only [wAt, List.getD_eq_getElem?_getD] at this ⊢
    rw [List.getElem?_set_ne (by omega)]
    exact this
/-- A word, its first bytes. -/
def partW (bs : Bytes) (t : Nat) : Nat → UInt32
  | 0 => 0
  | i + 1 => 256 * partW bs t i + (bs.getD (4 * t + i) 0).toUInt32
theorem partW_all (bs : Bytes) (t : Nat) : partW bs t 4 = wordAt bs t := by
  simp only [partW, wordAt, Nat.add_zero]
  exact word_sum _ _ _ _
theorem getD_set_self {l : List UInt32} {t : Nat} {x : UInt32} (h : t < l.length) : (l.set t x).getD t 0 = x := by simp [List.getD, h]
theorem set_self_zero {l : List UInt32} {t : Nat} (h : l.getD t 0 = 0) (ht : t < l.length) : l.set t 0 = l := by
  apply List.ext_getElem?
  intro j
  rw [List.getElem?_set]
  by_cases e : t = j
  · subst e
    simp only [if_true, ht]
    simp [List.getD, ht] at h
    rw [List.getElem?_eq_getElem ht, h]
  · rw [if_neg e]
theorem schedule_call (v : Value) (bs : Bytes) (S : Where) (w : World) (h : RdB S w v bs) (hl : bs.length = 64) : Does Tryd.prog 145 #[v] w fun r w' => r = wav (wAt bs 64) ∧ Ext w w' := by
  refine call_walk Tryd.func145 (by kernel_rfl) rfl Tryd.ntmps145 rfl ?_
  obtain ⟨p, c, rfl, hc⟩ := RdF.isSlice h
  refine St0 ?_
  refine GL.alloc hT rfl rfl rfl fun b2 w1 hb2 hB2 he1 => ?_
  have l2 := hB2.lt
  have hB2a := hB2
  refine St0 ?_
  refine GL.alloc hT rfl rfl rfl fun b3 w2 hb3 hB3 he2 => ?_
  replace hB2 := hB2.ext he2
  have l3 := hB3.lt
  have s1 := he1.size
  have s2 := he2.size
  refine St0 ?_
  refine G.sub (f' := [(4, iv ((0 : Nat) : Int)), (0, .slice p bs.length c), (3, ptr b3 0), (2, ptr b2 0)]) (by (repeat (first | exact Fr.sub_nil _ | refine Fr.sub_cons rfl ?_))) ?_
  refine G.rounds (α := Nat) (fun t f w' => t ≤ 16 ∧ Ext w1 w' ∧ Blk w' b3 183 (wcells (wAt bs t)) ∧ f = [(4, iv t), (0, .slice p bs.length c), (3, ptr b3 0), (2, ptr b2 0)]) (fun t => 16 - t) ?round 0 ⟨by omega, he2, hB3, rfl⟩
  rintro t f w3 ⟨ht, he3, hB, rfl⟩ again
  have hwl := wAt_len bs t
  by_cases hlt : (t : Int) < 16
  · refine St0 ?_
    refine G.sub (f' := [(5, iv ((0 : Nat) : Int)), (4, iv t), (0, .slice p bs.length c), (3, ptr b3 0), (2, ptr b2 0)]) (by (repeat (first | exact Fr.sub_nil _ | refine Fr.sub_cons rfl ?_))) ?_
    refine G.rounds (α := Nat) (fun i f w' => i ≤ 4 ∧ Ext w1 w' ∧ Blk w' b3 183 (wcells ((wAt bs t).set t (partW bs t i))) ∧ f = [(5, iv i), (4, iv t), (0, .slice p bs.length c), (3, ptr b3 0), (2, ptr b2 0)]) (fun i => 4 - i) ?inner 0 ⟨by omega, he3, by simp only [partW]; rw [set_self_zero (wAt_zero bs t t (Nat.le_refl _)) (by omega)]; exact hB, rfl⟩
    clear he3 hB
    rintro i f w4 ⟨hi, he4, hB, rfl⟩ again2
    by_cases hlt2 : (i : Int) < 4
    · obtain ⟨b, o, c', hv, hA⟩ := (RdB.ext h (he1.trans he4)).elem (i := 4 * t + i) (by omega)
      cases hv
      have hw : At any w4 b3 t [wv (partW bs t i)] := by
        have := hB.word (j := t) (by rw [List.length_set]; omega)
        rwa [getD_set_self (by omega)] at this
      refine St0 ?_
      refine G.quietTail 14 follows (by kernel_rfl) (by kernel_rfl) (by kernel_rfl) (by kernel_rfl) ?_
      refine QSt0 ?_
      (refine GQ.indexArr (t) 1 (t) hT rfl rfl rfl rfl rfl rfl rfl rfl ?_ ?_ ?_ ?_; (focus omega); (focus omega); (focus omega))
      refine QSt1 (hw) ?_
      refine GQ.mul32 (A := 256) rfl rfl rfl rfl ?_
      refine QSt0 ?_
      (refine GQ.indexSlice ((4 * t + i)) 1 ((o + (4 * t + i))) hT rfl rfl rfl rfl rfl rfl rfl rfl ?_ ?_ ?_ ?_; (focus omega); (focus omega); (focus omega))
      refine QWSt1 (hA) ?_
      refine GQ.tail fun w5 he5 => ?_
      (refine GL.indexArr (t) 1 (t) hT rfl rfl rfl rfl rfl rfl rfl rfl ?_ ?_ ?_ ?_; (focus omega); (focus omega); (focus omega))
      refine GL.store1 hT rfl rfl rfl rfl rfl rfl rfl (hB.ext he5) (by rw [wcells_len, List.length_set]; omega) fun w6 hc6 hB6 => ?_
      rw [wcells_set, List.set_set] at hB6
      refine St0 ?_
      exact G.sub (by (repeat (first | exact Fr.sub_nil _ | refine Fr.sub_cons rfl ?_))) (again2 (i + 1) _ _ (by omega) ⟨by omega, hc6.below (by omega) (he4.trans he5), hB6, rfl⟩)
    · have hi4 : i = 4 := by omega
      subst hi4
      rw [partW_all, wAt_set (by rw [if_pos (by omega)])] at hB
      refine St0 ?_
      exact G.sub (by (repeat (first | exact Fr.sub_nil _ | refine Fr.sub_cons rfl ?_))) (again (t + 1) _ _ (by omega) ⟨by omega, he4, hB, rfl⟩)
  clear again
  have ht16 : t = 16 := by omega
  subst ht16
  refine St0 ?_
  refine G.sub (f' := [(6, iv ((16 : Nat) : Int)), (3, ptr b3 0), (2, ptr b2 0)]) (by (repeat (first | exact Fr.sub_nil _ | refine Fr.sub_cons rfl ?_))) ?_
  refine G.rounds (α := Nat) (fun t f w' => 16 ≤ t ∧ t ≤ 64 ∧ Ext w1 w' ∧ Blk w' b3 183 (wcells (wAt bs t)) ∧ f = [(6, iv t), (3, ptr b3 0), (2, ptr b2 0)]) (fun t => 64 - t) ?round2 16 ⟨by omega, by omega, he3, hB, rfl⟩
  clear he3 hB hwl hlt ht
  rintro t f w4 ⟨h16, ht, he4, hB, rfl⟩ again
  have hwl := wAt_len bs t
  by_cases hlt : (t : Int) < 64
  · refine St0 ?_
    refine G.quiet follows (by kernel_rfl) ?_
    refine QSt0 ?_
    (refine GQ.indexArr ((t - 15)) 1 ((t - 15)) hT rfl rfl rfl rfl rfl rfl rfl rfl ?_ ?_ ?_ ?_; (focus omega); (focus omega); (focus omega))
    refine QSt1 ((hB.word (j := t - 15) (by omega))) ?_
    (refine GQ.indexArr ((t - 2)) 1 ((t - 2)) hT rfl rfl rfl rfl rfl rfl rfl rfl ?_ ?_ ?_ ?_; (focus omega); (focus omega); (focus omega))
    refine QSt1 ((hB.word (j := t - 2) (by omega))) ?_
    refine GQ.nil fun w5 he5 => ?_
    replace hB := hB.ext he5
    refine St0 ?_
    refine G.quietTail 28 follows (by kernel_rfl) (by kernel_rfl) (by kernel_rfl) (by kernel_rfl) ?_
    refine QSt0 ?_
    (refine GQ.indexArr ((t - 16)) 1 ((t - 16)) hT rfl rfl rfl rfl rfl rfl rfl rfl ?_ ?_ ?_ ?_; (focus omega); (focus omega); (focus omega))
    refine QSt1 ((hB.word (j := t - 16) (by omega))) ?_
    refine GQ.call rfl rfl rfl (fun w' _ => refTurn_call _ 7 rfl (by decide) (by decide) w') ?_
    refine QSt0 ?_
    refine GQ.call rfl rfl rfl (fun w' _ => refTurn_call _ 18 rfl (by decide) (by decide) w') ?_
    refine QWSt0 ?_
    refine GQ.shr32 3 (by decide) rfl rfl rfl rfl rfl ?_
    refine QWSt0 ?_
    (refine GQ.indexArr ((t - 7)) 1 ((t - 7)) hT rfl rfl rfl rfl rfl rfl rfl rfl ?_ ?_ ?_ ?_; (focus omega); (focus omega); (focus omega))
    refine QWSt1 ((hB.word (j := t - 7) (by omega))) ?_
    refine GQ.call rfl rfl rfl (fun w' _ => refTurn_call _ 17 rfl (by decide) (by decide) w') ?_
    refine QSt0 ?_
    refine GQ.call rfl rfl rfl (fun w' _ => refTurn_call _ 19 rfl (by decide) (by decide) w') ?_
    refine QWSt0 ?_
    refine GQ.shr32 10 (by decide) rfl rfl rfl rfl rfl ?_
    refine QWSt0 ?_
    refine GQ.tail fun w6 he6 => ?_
    (refine GL.indexArr (t) 1 (t) hT rfl rfl rfl rfl rfl rfl rfl rfl ?_ ?_ ?_ ?_; (focus omega); (focus omega); (focus omega))
    refine GL.store1 hT rfl rfl rfl rfl rfl rfl rfl (hB.ext he6) (by rw [wcells_len, hwl]; omega) fun w7 hc7 hB7 => ?_
    rw [wcells_set, wAt_set (by rw [if_neg (by omega)]; rfl)] at hB7
    refine St0 ?_
    exact G.sub (by (repeat (first | exact Fr.sub_nil _ | refine Fr.sub_cons rfl ?_))) (again (t + 1) _ _ (by omega) ⟨by omega, by omega, hc7.below (by omega) (he4.trans (he5.trans he6)), hB7, rfl⟩)
  · have ht64 : t = 64 := by omega
    subst ht64
    refine St0 ?_
    refine GL.loadN hT rfl rfl rfl rfl rfl hB.all (by rw [wcells_len, hwl]; rfl) ?_
    refine GL.storeVar hT rfl rfl rfl rfl rfl (by rw [wcells_len, hwl]; rfl) (wcells_one _) (hB2a.ext he4) (by rw [wcells_len, hwl]; rfl) fun w5 hc5 hB5 => ?_
    refine St0 ?_
    exact G.retN rfl rfl hT rfl rfl rfl rfl hB5.all (by rw [wcells_len, hwl]; rfl) ⟨rfl, hc5.below (by omega) (he1.trans he4)⟩
end Go.Proofs.YtefneilaongpbaaDoor
/-
  sha's block.
-/
set_option linter.unusedVariables false
set_option linter.unusedSimpArgs false
set_option maxRecDepth 100000
set_option maxHeartbeats 4000000
namespace Go.Proofs.YtefneilaongpbaaDoor
open Go Go.Bd Go.RowKit
attribute [local irreducible] G GL GQ

/-- The rounds' words lie where the program lays them. -/
def Kt (w : World) : Prop := At any w 0 0 (wcells kTab)
theorem Kt.ext {w w' : World} (h : Kt w) (he : Ext w w') : Kt w' := At.ext h he
theorem Kt.word {w : World} (h : Kt w) {t : Nat} (ht : t < 64) : At any w 0 t [wv (kTab.getD t 0)] :=
  At.one0 h (wcells_at (show t < kTab.length from ht))
/-- The first words added, the others not yet. -/
def mixL (s V : List UInt32) (i : Nat) : List UInt32 := (List.zipWith (· + ·) s V).take i ++ s.drop i
theorem mixL_len {s V : List UInt32} (h : s.length = 8) (h' : V.length = 8) {i : Nat} (hi : i ≤ 8) : (mixL s V i).length = 8 := by
  simp [mixL, h, h']; omega
theorem mixL_at {s V : List UInt32} (h : s.length = 8) (h' : V.length = 8) {i : Nat} (hi : i < 8) : (mixL s V i).getD i 0 = s.getD i 0 := by
  have hz : ((List.zipWith (· + ·) s V).take i).length = i := by simp [h, h']; omega
  simp only [mixL, List.getD_eq_getElem?_getD]
  rw [List.getElem?_append_right (by omega), hz, Nat.sub_self, List.getElem?_drop, Nat.add_zero]
theorem mixL_set {s V : List UInt32} (h : s.length = 8) (h' : V.length = 8) {i : Nat} (hi : i < 8) : (mixL s V i).set i (s.getD i 0 + V.getD i 0) = mixL s V (i + 1) := by
  have hz : ((List.zipWith (· + ·) s V).take i).length = i := by simp [h, h']; omega
  have hd : s.drop i = s.getD i 0 :: s.drop (i + 1) := by
    rw [List.drop_eq_getElem_cons (by omega)]
    congr 1
    simp [List.getD, h, hi]
  have ht : (List.zipWith (· + ·) s V).take (i + 1) = (List.zipWith (· + ·) s V).take i ++ [s.getD i 0 + V.getD i 0] := by
    rw [List.take_add_one]
    congr 1
    simp [List.getD, h, h', hi]
  unfold mixL
  rw [hd, ht, List.set_append_right _ _ (by omega), hz, Nat.sub_self]
  simp
theorem block_call (b : Nat) (v : Value) (s : List UInt32) (bs : Bytes) (S : Where) (w : World) (hS : Blk w b 138 (wcells s)) (hs : s.length = 8) (h : RdB S w v bs) (hl : bs.length = 64) (hK : Kt w) :
    Does Tryd.prog 106 #[ptr b 0, v] w fun r w' => r = .tuple #[] ∧ Blk w' b 138 (wcells (compress s bs)) ∧ But (some b) w w' := by
  refine call_walk Tryd.func106 (by kernel_rfl) rfl Tryd.ntmps106 rfl ?_
  obtain ⟨p, c, rfl, hc⟩ := RdF.isSlice h
  have lS := hS.lt
  refine St0 ?_
  refine GL.alloc hT rfl rfl rfl fun b4 w1 hb4 hB4 he1 => ?_
  have l4 := hB4.lt
  refine St0 ?_
  refine G.sub (f' := [(19, iv ((0 : Nat) : Int)), (0, ptr b 0), (1, .slice p bs.length c), (4, ptr b4 0)]) (by (repeat (first | exact Fr.sub_nil _ | refine Fr.sub_cons rfl ?_))) ?_
  refine G.rounds (α := Nat) (fun t f w' => t ≤ 64 ∧ Ext w w' ∧ b4 < w'.heap.size ∧ Blk w' b4 183 (wcells (wAt bs t)) ∧ f = [(19, iv t), (0, ptr b 0), (1, .slice p bs.length c), (4, ptr b4 0)]) (fun t => 64 - t) ?round 0 ⟨by omega, he1, l4, hB4, rfl⟩
  rintro t f w3 ⟨ht, he3, l43, hB, rfl⟩ again
  have hwl := wAt_len bs t
  by_cases hlt : (t : Int) < 64
  · by_cases h16 : (t : Int) < 16
    · obtain ⟨b0, o, c', hv, hA0⟩ := (RdB.ext h he3).elem (i := 4 * t) (by omega)
      cases hv
      obtain ⟨b0', o', c', hv, hA1⟩ := (RdB.ext h he3).elem (i := 4 * t + 1) (by omega)
      cases hv
      obtain ⟨b0', o', c', hv, hA2⟩ := (RdB.ext h he3).elem (i := 4 * t + 2) (by omega)
      cases hv
      obtain ⟨b0', o', c', hv, hA3⟩ := (RdB.ext h he3).elem (i := 4 * t + 3) (by omega)
      cases hv
      refine St0 ?_
      refine G.quietTail 34 follows (by kernel_rfl) (by kernel_rfl) (by kernel_rfl) (by kernel_rfl) ?_
      refine QSt0 ?_
      (refine GQ.indexSlice ((4 * t)) 1 ((o + 4 * t)) hT rfl rfl rfl rfl rfl rfl rfl rfl ?_ ?_ ?_ ?_; (focus omega); (focus omega); (focus omega))
      refine QWSt1 (hA0) ?_
      refine GQ.shl32 24 (by decide) rfl rfl rfl rfl rfl ?_
      refine QSt0 ?_
      (refine GQ.indexSlice ((4 * t + 1)) 1 ((o + (4 * t + 1))) hT rfl rfl rfl rfl rfl rfl rfl rfl ?_ ?_ ?_ ?_; (focus omega); (focus omega); (focus omega))
      refine QWSt1 (hA1) ?_
      refine GQ.shl32 16 (by decide) rfl rfl rfl rfl rfl ?_
      refine QWSt0 ?_
      (refine GQ.indexSlice ((4 * t + 2)) 1 ((o + (4 * t + 2))) hT rfl rfl rfl rfl rfl rfl rfl rfl ?_ ?_ ?_ ?_; (focus omega); (focus omega); (focus omega))
      refine QWSt1 (hA2) ?_
      refine GQ.shl32 8 (by decide) rfl rfl rfl rfl rfl ?_
      refine QWSt0 ?_
      (refine GQ.indexSlice ((4 * t + 3)) 1 ((o + (4 * t + 3))) hT rfl rfl rfl rfl rfl rfl rfl rfl ?_ ?_ ?_ ?_; (focus omega); (focus omega); (focus omega))
      refine QWSt1 (hA3) ?_
      refine GQ.tail fun w5 he5 => ?_
      (refine GL.indexArr (t) 1 (t) hT rfl rfl rfl rfl rfl rfl rfl rfl ?_ ?_ ?_ ?_; (focus omega); (focus omega); (focus omega))
      refine GL.store1 hT rfl rfl rfl rfl rfl rfl rfl (hB.ext he5) (by rw [wcells_len, hwl]; omega) fun w6 hc6 hB6 => ?_
      rw [wcells_set, wAt_set (by rw [if_pos (by omega)]; rfl)] at hB6
      refine St0 ?_
      exact G.sub (by (repeat (first | exact Fr.sub_nil _ | refine Fr.sub_cons rfl ?_))) (again (t + 1) _ _ (by omega) ⟨by omega, hc6.below (by omega) (he3.trans he5), hB6.lt, hB6, rfl⟩)
    · refine St0 ?_
      refine G.quiet follows (by kernel_rfl) ?_
      refine QSt0 ?_
      (refine GQ.indexArr ((t - 15)) 1 ((t - 15)) hT rfl rfl rfl rfl rfl rfl rfl rfl ?_ ?_ ?_ ?_; (focus omega); (focus omega); (focus omega))
      refine QSt1 ((hB.word (j := t - 15) (by omega))) ?_
      (refine GQ.indexArr ((t - 2)) 1 ((t - 2)) hT rfl rfl rfl rfl rfl rfl rfl rfl ?_ ?_ ?_ ?_; (focus omega); (focus omega); (focus omega))
      refine QSt1 ((hB.word (j := t - 2) (by omega))) ?_
      refine GQ.nil fun w5 he5 => ?_
      replace hB := hB.ext he5
      refine St0 ?_
      refine G.quietTail 28 follows (by kernel_rfl) (by kernel_rfl) (by kernel_rfl) (by kernel_rfl) ?_
      refine QSt0 ?_
      (refine GQ.indexArr ((t - 16)) 1 ((t - 16)) hT rfl rfl rfl rfl rfl rfl rfl rfl ?_ ?_ ?_ ?_; (focus omega); (focus omega); (focus omega))
      refine QSt1 ((hB.word (j := t - 16) (by omega))) ?_
      refine GQ.call rfl rfl rfl (fun w' _ => turned_call _ 7 rfl (by decide) (by decide) w') ?_
      refine QSt0 ?_
      refine GQ.call rfl rfl rfl (fun w' _ => turned_call _ 18 rfl (by decide) (by decide) w') ?_
      refine QWSt0 ?_
      refine GQ.shr32 3 (by decide) rfl rfl rfl rfl rfl ?_
      refine QWSt0 ?_
      (refine GQ.indexArr ((t - 7)) 1 ((t - 7)) hT rfl rfl rfl rfl rfl rfl rfl rfl ?_ ?_ ?_ ?_; (focus omega); (focus omega); (focus omega))
      refine QWSt1 ((hB.word (j := t - 7) (by omega))) ?_
      refine GQ.call rfl rfl rfl (fun w' _ => turned_call _ 17 rfl (by decide) (by decide) w') ?_
      refine QSt0 ?_
      refine GQ.call rfl rfl rfl (fun w' _ => turned_call _ 19 rfl (by decide) (by decide) w') ?_
      refine QWSt0 ?_
      refine GQ.shr32 10 (by decide) rfl rfl rfl rfl rfl ?_
      refine QWSt0 ?_
      refine GQ.tail fun w6 he6 => ?_
      (refine GL.indexArr (t) 1 (t) hT rfl rfl rfl rfl rfl rfl rfl rfl ?_ ?_ ?_ ?_; (focus omega); (focus omega); (focus omega))
      refine GL.store1 hT rfl rfl rfl rfl rfl rfl rfl (hB.ext he6) (by rw [wcells_len, hwl]; omega) fun w7 hc7 hB7 => ?_
      rw [wcells_set, wAt_set (by rw [if_neg (by omega)]; rfl)] at hB7
      refine St0 ?_
      exact G.sub (by (repeat (first | exact Fr.sub_nil _ | refine Fr.sub_cons rfl ?_))) (again (t + 1) _ _ (by omega) ⟨by omega, hc7.below (by omega) (he3.trans (he5.trans he6)), hB7.lt, hB7, rfl⟩)
  clear again
  have ht64 : t = 64 := by omega
  subst ht64
  generalize hW : wAt bs 64 = W at hB hwl
  replace hS := hS.ext he3
  replace hK := hK.ext he3
  refine St0 ?_
  refine GL.loadN hT rfl rfl rfl rfl rfl hS.all (by rw [wcells_len, hs]; rfl) ?_
  refine GL.alloc hT rfl rfl rfl fun b8 w4 hb8 hB8 he4 => ?_
  have l8 := hB8.lt
  replace hS := hS.ext he4
  replace hB := hB.ext he4
  refine GL.storeVar hT rfl rfl rfl rfl rfl (by rw [wcells_len, hs]; rfl) (wcells_one _) hB8 (by rw [wcells_len, hs]; rfl) fun w5 hc5 hB5 => ?_
  have he35 : Ext w3 w5 := hc5.below (by omega) he4
  have s3 := he3.size
  have s4 := he4.size
  replace hS := hS.chg hc5 (by omega)
  replace hB := hB.chg hc5 (by omega)
  replace hK := hK.ext he35
  have he5 := he3.trans he35
  have s5 := hc5.size
  refine St0 ?_
  refine G.sub (f' := [(100, iv ((0 : Nat) : Int)), (0, ptr b 0), (4, ptr b4 0), (8, ptr b8 0)]) (by (repeat (first | exact Fr.sub_nil _ | refine Fr.sub_cons rfl ?_))) ?_
  refine G.rounds (α := Nat) (fun t f w' => t ≤ 64 ∧ Ext w w' ∧ w5.heap.size ≤ w'.heap.size ∧ Blk w' b 138 (wcells s) ∧ Blk w' b4 183 (wcells W) ∧ Blk w' b8 138 (wcells (vAt s W t)) ∧ Kt w' ∧ f = [(100, iv t), (0, ptr b 0), (4, ptr b4 0), (8, ptr b8 0)]) (fun t => 64 - t) ?round2 0 ⟨by omega, he5, Nat.le_refl _, hS, hB, hB5, hK, rfl⟩
  clear hS hB hB5 hK hlt ht he5 hB8 hc5 he35 he4 he3
  rintro t f w6 ⟨ht, he6, s6, hS, hB, hV, hK, rfl⟩ again
  by_cases hlt : (t : Int) < 64
  · have hvl := vAt_len (w := W) hs t
    have hrnd : ∀ x, x = rnd (vAt s W t) (kTab.getD t 0) (W.getD t 0) → wcells x = wcells (vAt s W (t + 1)) := fun x hx => by rw [hx]; rfl
    have hk := hK.word (t := t) (by omega)
    have hw := hB.word (j := t) (by omega)
    generalize vAt s W t = v at hV hvl hrnd
    generalize kTab.getD t 0 = kt at hk hrnd
    generalize W.getD t 0 = wt at hw hrnd
    match v, hvl with
    | [a1, a2, a3, a4, a5, a6, a7, a8], _ =>
      refine St0 ?_
      refine G.quiet follows (by kernel_rfl) ?_
      (refine GQ.indexArr (0) 1 (0) hT rfl rfl rfl rfl rfl rfl rfl rfl ?_ ?_ ?_ ?_; (focus omega); (focus omega); (focus omega))
      refine QSt1 ((hV.word (j := 0) (show 0 < 8 by decide))) ?_
      (refine GQ.indexArr (1) 1 (1) hT rfl rfl rfl rfl rfl rfl rfl rfl ?_ ?_ ?_ ?_; (focus omega); (focus omega); (focus omega))
      refine QSt1 ((hV.word (j := 1) (show 1 < 8 by decide))) ?_
      (refine GQ.indexArr (2) 1 (2) hT rfl rfl rfl rfl rfl rfl rfl rfl ?_ ?_ ?_ ?_; (focus omega); (focus omega); (focus omega))
      refine QSt1 ((hV.word (j := 2) (show 2 < 8 by decide))) ?_
      (refine GQ.indexArr (4) 1 (4) hT rfl rfl rfl rfl rfl rfl rfl rfl ?_ ?_ ?_ ?_; (focus omega); (focus omega); (focus omega))
      refine QSt1 ((hV.word (j := 4) (show 4 < 8 by decide))) ?_
      (refine GQ.indexArr (5) 1 (5) hT rfl rfl rfl rfl rfl rfl rfl rfl ?_ ?_ ?_ ?_; (focus omega); (focus omega); (focus omega))
      refine QSt1 ((hV.word (j := 5) (show 5 < 8 by decide))) ?_
      (refine GQ.indexArr (6) 1 (6) hT rfl rfl rfl rfl rfl rfl rfl rfl ?_ ?_ ?_ ?_; (focus omega); (focus omega); (focus omega))
      refine QSt1 ((hV.word (j := 6) (show 6 < 8 by decide))) ?_
      refine GQ.nil fun w7 he7 => ?_
      replace hw := hw.ext he7
      replace hk := hk.ext he7
      replace hS := hS.ext he7
      replace hB := hB.ext he7
      replace hV := hV.ext he7
      replace hK := hK.ext he7
      refine St0 ?_
      refine G.quiet follows (by kernel_rfl) ?_
      (refine GQ.indexArr (7) 1 (7) hT rfl rfl rfl rfl rfl rfl rfl rfl ?_ ?_ ?_ ?_; (focus omega); (focus omega); (focus omega))
      refine QSt1 ((hV.word (j := 7) (show 7 < 8 by decide))) ?_
      refine GQ.call rfl rfl rfl (fun w' _ => turned_call a5 6 rfl (by decide) (by decide) w') ?_
      refine QSt0 ?_
      refine GQ.call rfl rfl rfl (fun w' _ => turned_call a5 11 rfl (by decide) (by decide) w') ?_
      refine QWSt0 ?_
      refine GQ.call rfl rfl rfl (fun w' _ => turned_call a5 25 rfl (by decide) (by decide) w') ?_
      refine QWSt0 ?_
      (refine GQ.indexArr (t) 1 (t) hT rfl rfl rfl rfl rfl rfl rfl rfl ?_ ?_ ?_ ?_; (focus omega); (focus omega); (focus omega))
      refine QWSt1 (hk) ?_
      (refine GQ.indexArr (t) 1 (t) hT rfl rfl rfl rfl rfl rfl rfl rfl ?_ ?_ ?_ ?_; (focus omega); (focus omega); (focus omega))
      refine QWSt1 (hw) ?_
      refine GQ.nil fun w8 he8 => ?_
      replace hS := hS.ext he8
      replace hB := hB.ext he8
      replace hV := hV.ext he8
      replace hK := hK.ext he8
      refine St0 ?_
      refine GL.call rfl rfl rfl (turned_call a1 2 rfl (by decide) (by decide) w8) ?_
      rintro r w9 ⟨rfl, he9⟩
      refine St0 ?_
      refine GL.call rfl rfl rfl (turned_call a1 13 rfl (by decide) (by decide) w9) ?_
      rintro r w10 ⟨rfl, he10⟩
      refine WSt0 ?_
      refine GL.call rfl rfl rfl (turned_call a1 22 rfl (by decide) (by decide) w10) ?_
      rintro r w11 ⟨rfl, he11⟩
      have he8_11 := he9.trans (he10.trans he11)
      replace hS := hS.ext he8_11
      replace hB := hB.ext he8_11
      replace hV := hV.ext he8_11
      replace hK := hK.ext he8_11
      refine WSt0 ?_
      (refine GL.indexArr (3) 1 (3) hT rfl rfl rfl rfl rfl rfl rfl rfl ?_ ?_ ?_ ?_; (focus omega); (focus omega); (focus omega))
      refine WSt1 ((hV.word (j := 3) (show 3 < 8 by decide))) ?_
      refine GL.buildArr (wcells (rnd [a1, a2, a3, a4, a5, a6, a7, a8] kt wt)) hT rfl rfl rfl rfl rfl rfl rfl ?_
      have he11' := he6.trans (he7.trans (he8.trans he8_11))
      have z7 := he7.size
      have z8 := he8.size
      have z11 := he8_11.size
      refine GL.storeVar hT rfl rfl rfl rfl rfl (wcells_len _) (wcells_one _) hV rfl fun w12 hc12 hB12 => ?_
      have z12 := hc12.size
      rw [hrnd _ rfl] at hB12
      have he12 : Ext w w12 := hc12.below (by omega) he11'
      refine St0 ?_
      exact G.sub (by (repeat (first | exact Fr.sub_nil _ | refine Fr.sub_cons rfl ?_))) (again (t + 1) _ _ (by omega) ⟨by omega, he12, by omega, hS.chg hc12 (by omega), hB.chg hc12 (by omega), hB12, At.chg hK hc12 (by omega), rfl⟩)
  clear again
  have ht64 : t = 64 := by omega
  subst ht64
  have hvl := vAt_len (w := W) hs 64
  generalize hVV : vAt s W 64 = V at hV hvl
  refine St0 ?_
  refine G.sub (f' := [(178, iv ((0 : Nat) : Int)), (0, ptr b 0), (8, ptr b8 0)]) (by (repeat (first | exact Fr.sub_nil _ | refine Fr.sub_cons rfl ?_))) ?_
  refine G.rounds (α := Nat) (fun i f w' => i ≤ 8 ∧ But (some b) w w' ∧ Blk w' b 138 (wcells (mixL s V i)) ∧ Blk w' b8 138 (wcells V) ∧ f = [(178, iv i), (0, ptr b 0), (8, ptr b8 0)]) (fun i => 8 - i) ?round3 0 ⟨by omega, But.of_ext _ he6, hS, hV, rfl⟩
  clear hS hV
  rintro i f w7 ⟨hi, hb7, hS, hV, rfl⟩ again
  by_cases hlt : (i : Int) < 8
  · have hml := mixL_len hs hvl (i := i) (by omega)
    have h1 : At any w7 b i [wv (s.getD i 0)] := by
      have := hS.word (j := i) (by omega)
      rwa [mixL_at hs hvl (by omega)] at this
    refine St0 ?_
    refine G.quietTail 10 follows (by kernel_rfl) (by kernel_rfl) (by kernel_rfl) (by kernel_rfl) ?_
    refine QSt0 ?_
    (refine GQ.indexArr (i) 1 (i) hT rfl rfl rfl rfl rfl rfl rfl rfl ?_ ?_ ?_ ?_; (focus omega); (focus omega); (focus omega))
    refine QSt1 (h1) ?_
    (refine GQ.indexArr (i) 1 (i) hT rfl rfl rfl rfl rfl rfl rfl rfl ?_ ?_ ?_ ?_; (focus omega); (focus omega); (focus omega))
    refine QWSt1 ((hV.word (j := i) (by omega))) ?_
    refine GQ.tail fun w8 he8 => ?_
    (refine GL.indexArr (i) 1 (i) hT rfl rfl rfl rfl rfl rfl rfl rfl ?_ ?_ ?_ ?_; (focus omega); (focus omega); (focus omega))
    refine GL.store1 hT rfl rfl rfl rfl rfl rfl rfl (hS.ext he8) (by rw [wcells_len, hml]; omega) fun w9 hc9 hB9 => ?_
    rw [wcells_set, mixL_set hs hvl (by omega)] at hB9
    refine St0 ?_
    exact G.sub (by (repeat (first | exact Fr.sub_nil _ | refine Fr.sub_cons rfl ?_))) (again (i + 1) _ _ (by omega) ⟨by omega, (hb7.trans (But.of_ext _ he8)).trans (But.of_chg hc9), hB9, (hV.ext he8).chg hc9 (by omega), rfl⟩)
  · have hi8 : i = 8 := by omega
    subst hi8
    have e : mixL s V 8 = compress s bs := by
      unfold mixL compress
      rw [hW, hVV, List.take_of_length_le (by simp [hs, hvl]), List.drop_of_length_le (by omega), List.append_nil]
    rw [e] at hS
    refine St0 ?_
    exact G.end0 rfl rfl rfl ⟨rfl, hS, hb7⟩
end Go.Proofs.YtefneilaongpbaaDoor
/-
  The document's padding and sum.
-/
set_option linter.unusedVariables false
set_option linter.unusedSimpArgs false
set_option maxRecDepth 100000
set_option maxHeartbeats 4000000
namespace Go.Proofs.YtefneilaongpbaaDoor
open Go Go.Bd Go.RowKit
attribute [local irreducible] G GL GQ

/-- The last j bytes of eight. -/
def tailB (N j : Nat) : Bytes := List.replicate (8 - j) 0 ++ (be8 N).drop (8 - j)
theorem be8_len (N : Nat) : (be8 N).length = 8 := by simp [be8]
theorem tailB_len (N : Nat) {j : Nat} (h : j ≤ 8) : (tailB N j).length = 8 := by simp [tailB, be8_len] <;> omega
theorem tailB_set (N : Nat) {j : Nat} (h : j < 8) : (tailB N j).set (7 - j) (UInt8.ofNat (N / 256 ^ j)) = tailB N (j + 1) := by
  have h1 : List.replicate (8 - j) (0 : UInt8) = List.replicate (8 - (j + 1)) 0 ++ [0] := by
    rw [show 8 - j = (8 - (j + 1)) + 1 by omega, List.replicate_succ']
  have h2 : (be8 N).drop (8 - (j + 1)) = UInt8.ofNat (N / 256 ^ j) :: (be8 N).drop (8 - j) := by
    rw [List.drop_eq_getElem_cons (by rw [be8_len]; omega)]
    congr 1
    · simp [be8]
      congr 3
      omega
    · congr 1; omega
  unfold tailB
  rw [h1, h2, List.append_assoc, List.set_append_right _ _ (by simp <;> omega)]
  have e : 7 - j - (List.replicate (8 - (j + 1)) (0 : UInt8)).length = 0 := by simp
  rw [e]
  rfl
theorem bcells_set (l : Bytes) (j : Nat) (x : UInt8) : (bcells l).set j (bv x) = bcells (l.set j x) := by simp only [bcells, List.map_set]
theorem bcells_append (a b : Bytes) : bcells (a ++ b) = bcells a ++ bcells b := by simp [bcells]
/-- A byte behind. -/
theorem srcByte {w : World} {b : Nat} {T : TypeId} {x : UInt8} (h : Blk w b T [bv x]) : RdF any w (.slice (some ⟨b, 0, none⟩) 1 1) 1 (bcells [x]) := ⟨_, 1, rfl, Nat.le_refl _, .inr ⟨b, 0, rfl, h.all⟩⟩
theorem refPadded_call (v : Value) (bs : Bytes) (S : Where) (w : World) (h : RdB S w v bs) (hm : bs.length ≤ 4294967296) : Does Tryd.prog 143 #[v] w fun r w' => OwnB w.heap.size w' r (padded bs) ∧ Ext w w' := by
  refine call_walk Tryd.func143 (by kernel_rfl) rfl Tryd.ntmps143 rfl ?_
  obtain ⟨p, c, rfl, hc⟩ := RdF.isSlice h
  have hz := zeros_spec bs.length
  have hz64 : zerosN bs.length < 64 := Nat.mod_lt _ (by omega)
  refine St0 ?_
  refine GL.append hT rfl rfl rfl rfl rfl rfl rfl rfl rfl rfl (Own.bare w.heap.size w none 1 _) h (by simp) (bcells_one bs) (by show (0 + bs.length) * 1 ≤ _; omega) (by omega) (Nat.le_refl _) fun r1 w1 ho1 hb1 hr1 => ?_
  have he1 : Ext w w1 := hb1.ext
  have s1 := he1.size
  refine St0 ?_
  refine GL.buildSlice (bcells [128]) hT rfl rfl rfl rfl rfl rfl rfl (fillL_one rfl rfl (madeLen _ _)) fun b2 w2 hb2 hB2 he2 => ?_
  replace ho1 := ho1.ext he2
  have s2 := he2.size
  have l2 := hB2.lt
  refine GL.append hT rfl rfl rfl rfl rfl rfl rfl rfl rfl rfl ho1 (srcByte hB2) rfl (bcells_one _) (by show (0 + bs.length + 1) * 1 ≤ _; omega) (by omega) (by omega) fun r3 w3 ho3 hb3 hr3 => ?_
  have he3 : Ext w w3 := hb3.below (fun q hq => (ho1.row hq).1) (by omega) (he1.trans he2)
  rw [List.nil_append, ← bcells_append, Nat.zero_add] at ho3
  refine St0 ?_
  refine G.sub (f' := [(3, r3), (0, .slice p bs.length c)]) (by (repeat (first | exact Fr.sub_nil _ | refine Fr.sub_cons rfl ?_))) ?_
  refine G.rounds (α := Nat) (fun j f w' => j ≤ zerosN bs.length ∧ Ext w w' ∧ ∃ r, Own w.heap.size w' r (bs.length + 1 + j) 1 5 (bcells (bs ++ [128] ++ List.replicate j 0)) ∧ f = [(3, r), (0, .slice p bs.length c)]) (fun j => zerosN bs.length - j) ?round 0 ⟨by omega, he3, r3, by simpa using ho3, rfl⟩
  rintro j f w4 ⟨hj, he4, r, ho, rfl⟩ again
  obtain ⟨pr, cr, rfl⟩ := ho.shape
  have s4 := he4.size
  by_cases hlt : j < zerosN bs.length
  · have hne := hz.2 j hlt
    refine St0 ?_
    refine GL.buildSlice (bcells [0]) hT rfl rfl rfl rfl rfl rfl rfl (fillL_one rfl rfl (madeLen _ _)) fun b5 w5 hb5 hB5 he5 => ?_
    replace ho := ho.ext he5
    have s5 := he5.size
    refine GL.append hT rfl rfl rfl rfl rfl rfl rfl rfl rfl rfl ho (srcByte hB5) rfl (bcells_one _) (by show (bs.length + 1 + j + 1) * 1 ≤ _; omega) (by omega) (by omega) fun r6 w6 ho6 hb6 hr6 => ?_
    have he6 : Ext w w6 := hb6.below (fun q hq => (ho.row hq).1) (by omega) (he4.trans he5)
    rw [← bcells_append, List.append_assoc (bs ++ [128]), show (List.replicate j (0 : UInt8) ++ [0]) = List.replicate (j + 1) 0 by rw [List.replicate_succ']] at ho6
    refine St0 ?_
    exact G.sub (by (repeat (first | exact Fr.sub_nil _ | refine Fr.sub_cons rfl ?_))) (again (j + 1) _ _ (by omega) ⟨by omega, he6, r6, ho6, rfl⟩)
  clear again
  obtain rfl : j = zerosN bs.length := by omega
  have h56 := hz.1
  have hlen : (bs.length + 1 + zerosN bs.length) % 64 = 56 := h56
  refine St0 ?_
  refine GL.conv64 bs.length hT rfl rfl rfl rfl rfl rfl rfl rfl (by omega) ?_
  refine GL.mul64 8 bs.length (by omega) rfl rfl rfl rfl rfl rfl ?_
  refine St0 ?_
  refine GL.alloc hT rfl rfl rfl fun b5 w5 hb5 hB5 he5 => ?_
  have l5 := hB5.lt
  have s5 := he5.size
  have he15 := he4.trans he5
  generalize hN : 8 * bs.length = N
  have hNb : N < 18446744073709551616 := by omega
  generalize hcs : bcells (bs ++ [128] ++ List.replicate (zerosN bs.length) 0) = cs at ho
  generalize hn : bs.length + 1 + zerosN bs.length = nn at ho hlen
  have hnn : nn ≤ 4294967400 := by omega
  refine St0 ?_
  refine G.sub (f' := [(6, iv ((7 - (0 : Nat) : Int))), (4, nv (N / 256 ^ 0)), (5, ptr b5 0), (3, .slice pr nn cr)]) (by rw [Nat.pow_zero, Nat.div_one]; (repeat (first | exact Fr.sub_nil _ | refine Fr.sub_cons rfl ?_))) ?_
  refine G.rounds (α := Nat) (fun j f w' => j ≤ 8 ∧ Ext w4 w' ∧ Blk w' b5 207 (bcells (tailB N j)) ∧ f = [(6, iv (7 - (j : Int))), (4, nv (N / 256 ^ j)), (5, ptr b5 0), (3, .slice pr nn cr)]) (fun j => 8 - j) ?round2 0 ⟨by omega, he5, hB5, rfl⟩
  clear hB5
  rintro j f w6 ⟨hj, he6, hB, rfl⟩ again
  have htl := tailB_len N hj
  by_cases hlt8 : j < 8
  · have hdiv : N / 256 ^ j < 18446744073709551616 := Nat.lt_of_le_of_lt (Nat.div_le_self _ _) hNb
    have e7 : (7 : Int) - (j : Int) = ((7 - j : Nat) : Int) := by omega
    refine St0 ?_
    refine GL.rem64 (N / 256 ^ j) 256 (by omega) rfl rfl rfl rfl rfl rfl ?_
    refine GL.convN8 hT rfl rfl rfl rfl rfl rfl rfl ?_
    rw [e7]
    (refine GL.indexArr ((7 - j)) 1 ((7 - j)) hT rfl rfl rfl rfl rfl rfl rfl rfl ?_ ?_ ?_ ?_; (focus omega); (focus omega); (focus omega))
    refine GL.store1 hT rfl rfl rfl rfl rfl rfl rfl hB (by rw [bcells_length, htl]; omega) fun w7 hc7 hB7 => ?_
    have eb : UInt8.ofNat (N / 256 ^ j % 256) = UInt8.ofNat (N / 256 ^ j) := by
      apply UInt8.toNat_inj.1
      rw [UInt8.toNat_ofNat', UInt8.toNat_ofNat']
      omega
    rw [eb, bcells_set, tailB_set N hlt8] at hB7
    refine St0 ?_
    refine GL.quo64 (N / 256 ^ j) 256 (by omega) hdiv rfl rfl rfl rfl rfl rfl ?_
    rw [Nat.div_div_eq_div_mul, ← Nat.pow_succ]
    refine St0 ?_
    refine G.sub ?_ (again (j + 1) _ _ (by omega) ⟨by omega, hc7.below (by omega) he6, hB7, rfl⟩)
    rw [show (7 : Int) - ((j + 1 : Nat) : Int) = ((7 - j : Nat) : Int) - 1 by omega]
    (repeat (first | exact Fr.sub_nil _ | refine Fr.sub_cons rfl ?_))
  clear again
  obtain rfl : j = 8 := by omega
  have et : tailB N 8 = be8 N := by simp [tailB]
  rw [et] at hB
  have ho6 := ho.ext he6
  have s6 := he6.size
  have hsrc : RdF any w6 (.slice (some ⟨b5, 0, none⟩) 8 8) 8 (bcells (be8 N)) := ⟨_, 8, rfl, Nat.le_refl _, .inr ⟨b5, 0, rfl, hB.all⟩⟩
  refine St0 ?_
  refine GL.append hT rfl rfl rfl rfl rfl rfl rfl rfl rfl rfl ho6 hsrc (by rw [bcells_length, be8_len]) (bcells_one _) (by show (nn + 8) * 1 ≤ _; omega) (by omega) (by omega) fun r7 w7 ho7 hb7 hr7 => ?_
  refine St0 ?_
  have hpl : (padded bs).length = nn + 8 := by rw [padded_len]; omega
  have hpc : bcells (padded bs) = cs ++ bcells (be8 N) := by
    rw [← hcs, ← bcells_append, ← hN]
    simp [padded]
  exact G.ret1 rfl rfl rfl rfl ⟨by unfold OwnB; rw [hpl, hpc]; exact ho7, hb7.below (fun q hq => (ho6.row hq).1) (by omega) (he4.trans he6)⟩
theorem RdB.cutB {S : Where} {w : World} {p : Option Addr} {c : Nat} {bs : Bytes} (h : RdB S w (.slice p bs.length c) bs) {L H M : Nat} (h1 : L ≤ H) (h2 : H ≤ bs.length) (h3 : H ≤ M) : RdB S w (.slice (cutP p L M 1) (H - L) (M - L)) ((bs.drop L).take (H - L)) := by
  have := RdF.cut (sz := 1) h (by simp) h1 h2 h3
  rw [Nat.mul_one, Nat.mul_one] at this
  have el : ((bs.drop L).take (H - L)).length = H - L := by simp; omega
  have ec : bcells ((bs.drop L).take (H - L)) = ((bcells bs).drop L).take (H - L) := by simp only [bcells, List.map_take, List.map_drop]
  unfold RdB
  rw [el, ec]
  exact this
/-- A digest's first bytes. -/
def digAt (s : List UInt32) (m : Nat) : Bytes := (outB s).take m ++ List.replicate (32 - m) 0
theorem digAt_len (s : List UInt32) {m : Nat} (h : m ≤ 32) : (digAt s m).length = 32 := by simp [digAt, outB_len]; omega
theorem digAt_set (s : List UInt32) {m : Nat} (h : m < 32) : (digAt s m).set m (s.getD (m / 4) 0 >>> (24 - 8 * UInt32.ofNat (m % 4))).toUInt8 = digAt s (m + 1) := by
  have h1 : List.replicate (32 - m) (0 : UInt8) = 0 :: List.replicate (32 - (m + 1)) 0 := by
    rw [show 32 - m = (32 - (m + 1)) + 1 by omega, List.replicate_succ]
  have h2 : (outB s).take (m + 1) = (outB s).take m ++ [(s.getD (m / 4) 0 >>> (24 - 8 * UInt32.ofNat (m % 4))).toUInt8] := by
    rw [List.take_add_one]
    congr 1
    simp [outB, h]
  have hl : ((outB s).take m).length = m := by simp [outB_len]; omega
  unfold digAt
  rw [h1, h2, List.set_append_right _ _ (by omega), hl, Nat.sub_self]
  simp
theorem digAt_all (s : List UInt32) : digAt s 32 = outB s := by
  unfold digAt
  rw [List.take_of_length_le (by rw [outB_len]; omega)]
  simp
theorem shift_toNat : ∀ j : Fin 4, (24 - 8 * UInt32.ofNat j.1).toNat = 24 - 8 * j.1 := by decide
theorem shift_lt : ∀ j : Fin 4, (24 - 8 * UInt32.ofNat j.1).toNat < 32 := by decide
theorem refSum_call (v : Value) (bs : Bytes) (S : Where) (w : World) (h : RdB S w v bs) (hm : bs.length ≤ 4294967296) : Does Tryd.prog 96 #[v] w fun r w' => r = dv (shaD bs) ∧ Ext w w' := by
  refine call_walk Tryd.func96 (by kernel_rfl) rfl Tryd.ntmps96 rfl ?_
  obtain ⟨p, c, rfl, hc⟩ := RdF.isSlice h
  have hpl := padded_len bs
  have hpm := padded_mod bs
  have hz64 : zerosN bs.length < 64 := Nat.mod_lt _ (by omega)
  refine St0 ?_
  refine GL.alloc hT rfl rfl rfl fun b2 w1 hb2 hB2 he1 => ?_
  have s1 := he1.size
  have l2 := hB2.lt
  refine St0 ?_
  refine GL.buildArr (wcells shaInit) hT rfl rfl rfl rfl rfl rfl rfl ?_
  refine GL.alloc hT rfl rfl rfl fun b3 w2 hb3 hB3 he2 => ?_
  have s2 := he2.size
  have l3 := hB3.lt
  replace hB2 := hB2.ext he2
  refine GL.storeVar hT rfl rfl rfl rfl rfl (wcells_len _) (wcells_one _) hB3 rfl fun w3 hc3 hB3 => ?_
  have s3 := hc3.size
  have he13 : Ext w1 w3 := hc3.below (by omega) he2
  have he3 : Ext w w3 := he1.trans he13
  replace hB2 := hB2.chg hc3 (by omega)
  refine St0 ?_
  refine GL.call rfl rfl rfl (refPadded_call _ bs S w3 (RdB.ext h he3) hm) ?_
  rintro r w4 ⟨hP, he4⟩
  have s4 := he4.size
  have rP : ∀ q, rowOf r = some q → q < w4.heap.size := fun q hq => (hP.row hq).2
  replace hB2 := hB2.ext he4
  replace hB3 := hB3.ext he4
  refine St0 ?_
  refine GL.call (vs := []) rfl rfl rfl (words_call w4) ?_
  rintro r5 w5 ⟨rfl, he5⟩
  have s5 := he5.size
  replace hB2 := hB2.ext he5
  replace hB3 := hB3.ext he5
  replace hP := hP.ext he5
  refine GL.alloc hT rfl rfl rfl fun b5 w6 hb5 hB5 he6 => ?_
  have s6 := he6.size
  have l5 := hB5.lt
  replace hB2 := hB2.ext he6
  replace hB3 := hB3.ext he6
  replace hP := hP.ext he6
  refine GL.storeVar hT rfl rfl rfl rfl rfl (wcells_len _) (wcells_one _) hB5 rfl fun w7 hc7 hB5 => ?_
  have s7 := hc7.size
  have he47 : Ext w4 w7 := hc7.below (by omega) (he5.trans he6)
  have he7 := he3.trans (he4.trans he47)
  replace hB2 := hB2.chg hc7 (by omega)
  replace hB3 := hB3.chg hc7 (by omega)
  replace hP := hP.keep (w' := w7) (fun g hg _ => hc7.block g (by have := rP g hg; omega)) (by decide)
  obtain ⟨pp, cp, hpv⟩ := hP.shape
  subst hpv
  have hPlen : (padded bs).length ≤ 4294967400 := by omega
  generalize hPP : padded bs = P at hP hpm hPlen rP
  obtain ⟨q, hq⟩ : ∃ q, P.length = 64 * q := ⟨P.length / 64, by omega⟩
  have hcp : P.length ≤ cp := by
    obtain ⟨p', c', hv', hc', _⟩ := hP.fresh
    cases hv'
    exact hc'
  refine St0 ?_
  refine G.sub (f' := [(6, iv ((64 * 0 : Nat) : Int)), (2, ptr b2 0), (3, ptr b3 0), (4, .slice pp P.length cp), (5, ptr b5 0)]) (by (repeat (first | exact Fr.sub_nil _ | refine Fr.sub_cons rfl ?_))) ?_
  refine G.rounds (α := Nat) (fun j f w' => j ≤ q ∧ Ext w w' ∧ w7.heap.size ≤ w'.heap.size ∧ Blk w' b2 25 ti25.zero ∧ Blk w' b3 137 (wcells (stAt P j)) ∧ Blk w' b5 183 (wcells kTab) ∧ OwnB w3.heap.size w' (.slice pp P.length cp) P ∧ f = [(6, iv ((64 * j : Nat) : Int)), (2, ptr b2 0), (3, ptr b3 0), (4, .slice pp P.length cp), (5, ptr b5 0)]) (fun j => q - j) ?round 0 ⟨by omega, he7, Nat.le_refl _, hB2, hB3, hB5, hP, rfl⟩
  clear hB2 hB3 hB5 hP he7 he47 he13 he3
  rintro j f w8 ⟨hj, he8, s8, hB2, hB3, hB5, hP, rfl⟩ again
  have hsl := stAt_len P j
  by_cases hlt : j < q
  · have h64 : 64 * j + 64 - 64 * j = 64 := by omega
    have e64 : ((64 * j : Nat) : Int) + 64 = ((64 * j + 64 : Nat) : Int) := by omega
    refine St0 ?_
    rw [e64]
    refine GL.slice (64 * j) (64 * j + 64) cp 1 hT rfl rfl rfl rfl rfl rfl rfl ⟨_, _, rfl, rfl⟩ ⟨_, _, rfl, rfl⟩ rfl (by simp) (by omega) (by omega) (by omega) ?_
    have hcut := RdB.cutB hP.fresh (L := 64 * j) (H := 64 * j + 64) (M := cp) (by omega) (by omega) (by omega)
    rw [h64] at hcut ⊢
    refine GL.call rfl rfl rfl (schedule_call _ (chunk P j) _ w8 hcut (by simp [chunk]; omega)) ?_
    rintro r w9 ⟨rfl, he9⟩
    have s9 := he9.size
    replace hB2 := hB2.ext he9
    replace hB3 := hB3.ext he9
    replace hB5 := hB5.ext he9
    replace hP := hP.ext he9
    refine GL.alloc hT rfl rfl rfl fun b7 w10 hb7 hB7 he10 => ?_
    have l7 := hB7.lt
    have s10 := he10.size
    replace hB2 := hB2.ext he10
    replace hB3 := hB3.ext he10
    replace hB5 := hB5.ext he10
    replace hP := hP.ext he10
    have hWl := wAt_len (chunk P j) 64
    generalize hW : wAt (chunk P j) 64 = W at hWl
    refine GL.storeVar hT rfl rfl rfl rfl rfl (by rw [wcells_len, hWl]; rfl) (wcells_one _) hB7 (by rw [wcells_len, hWl]; rfl) fun w11 hc11 hB7 => ?_
    have s11 := hc11.size
    have he811 : Ext w8 w11 := hc11.below (by omega) (he9.trans he10)
    replace hB2 := hB2.chg hc11 (by omega)
    replace hB3 := hB3.chg hc11 (by omega)
    replace hB5 := hB5.chg hc11 (by omega)
    replace hP := hP.keep (w' := w11) (fun g hg _ => hc11.block g (by have := rP g hg; omega)) (by decide)
    refine St0 ?_
    refine GL.loadN hT rfl rfl rfl rfl rfl hB3.all (by rw [wcells_len, hsl]; rfl) ?_
    refine GL.alloc hT rfl rfl rfl fun b8 w12 hb8 hB8 he12 => ?_
    have l8 := hB8.lt
    have s12 := he12.size
    replace hB2 := hB2.ext he12
    replace hB3 := hB3.ext he12
    replace hB5 := hB5.ext he12
    replace hB7 := hB7.ext he12
    replace hP := hP.ext he12
    refine GL.storeVar hT rfl rfl rfl rfl rfl (by rw [wcells_len, hsl]; rfl) (wcells_one _) hB8 (by rw [wcells_len, hsl]; rfl) fun w13 hc13 hB8 => ?_
    have s13 := hc13.size
    have he13 : Ext w w13 := (hc13.below (by omega) (he8.trans (he811.trans he12)))
    replace hB2 := hB2.chg hc13 (by omega)
    replace hB3 := hB3.chg hc13 (by omega)
    replace hB5 := hB5.chg hc13 (by omega)
    replace hB7 := hB7.chg hc13 (by omega)
    replace hP := hP.keep (w' := w13) (fun g hg _ => hc13.block g (by have := rP g hg; omega)) (by decide)
    generalize hst : stAt P j = s at hB3 hB8 hsl
    refine St0 ?_
    refine G.sub (f' := [(9, iv ((0 : Nat) : Int)), (6, iv ((64 * j : Nat) : Int)), (2, ptr b2 0), (3, ptr b3 0), (4, .slice pp P.length cp), (5, ptr b5 0), (7, ptr b7 0), (8, ptr b8 0)]) (by (repeat (first | exact Fr.sub_nil _ | refine Fr.sub_cons rfl ?_))) ?_
    refine G.rounds (α := Nat) (fun t f w' => t ≤ 64 ∧ Ext w w' ∧ w13.heap.size ≤ w'.heap.size ∧ Blk w' b2 25 ti25.zero ∧ Blk w' b3 137 (wcells s) ∧ Blk w' b5 183 (wcells kTab) ∧ Blk w' b7 183 (wcells W) ∧ Blk w' b8 137 (wcells (vAt s W t)) ∧ OwnB w3.heap.size w' (.slice pp P.length cp) P ∧ f = [(9, iv t), (6, iv ((64 * j : Nat) : Int)), (2, ptr b2 0), (3, ptr b3 0), (4, .slice pp P.length cp), (5, ptr b5 0), (7, ptr b7 0), (8, ptr b8 0)]) (fun t => 64 - t) ?rounds2 0 ⟨by omega, he13, Nat.le_refl _, hB2, hB3, hB5, hB7, hB8, hP, rfl⟩
    clear hB2 hB3 hB5 hB7 hB8 hP he13 hc13 he12 he811 hc11 he10 he9 he8 hcut
    rintro t f w14 ⟨ht, he14, s14, hB2, hB3, hB5, hB7, hB8, hP, rfl⟩ again2
    have hvl := vAt_len (w := W) hsl t
    by_cases hlt2 : (t : Int) < 64
    · refine St0 ?_
      refine G.quietTail 8 follows (by kernel_rfl) (by kernel_rfl) (by kernel_rfl) (by kernel_rfl) ?_
      refine GQ.loadN hT rfl rfl rfl rfl rfl hB8.all (by rw [wcells_len, hvl]; rfl) ?_
      refine QSt0 ?_
      (refine GQ.indexArr (t) 1 (t) hT rfl rfl rfl rfl rfl rfl rfl rfl ?_ ?_ ?_ ?_; (focus omega); (focus omega); (focus omega))
      refine QSt1 ((hB5.word (j := t) (show t < 64 by omega))) ?_
      (refine GQ.indexArr (t) 1 (t) hT rfl rfl rfl rfl rfl rfl rfl rfl ?_ ?_ ?_ ?_; (focus omega); (focus omega); (focus omega))
      refine QSt1 ((hB7.word (j := t) (by omega))) ?_
      refine GQ.call rfl rfl rfl (fun w' _ => refRound_call (vAt s W t) hvl _ _ w') ?_
      refine GQ.tail fun w15 he15 => ?_
      have s15 := he15.size
      replace hB2 := hB2.ext he15
      replace hB3 := hB3.ext he15
      replace hB5 := hB5.ext he15
      replace hB7 := hB7.ext he15
      replace hB8 := hB8.ext he15
      replace hP := hP.ext he15
      refine GL.storeVar hT rfl rfl rfl rfl rfl (by rw [wcells_len]; rfl) (wcells_one _) hB8 (by rw [wcells_len, hvl]; rfl) fun w16 hc16 hB16 => ?_
      have s16 := hc16.size
      refine St0 ?_
      exact G.sub (by (repeat (first | exact Fr.sub_nil _ | refine Fr.sub_cons rfl ?_))) (again2 (t + 1) _ _ (by omega) ⟨by omega, hc16.below (by omega) (he14.trans he15), by omega, hB2.chg hc16 (by omega), hB3.chg hc16 (by omega), hB5.chg hc16 (by omega), hB7.chg hc16 (by omega), hB16, hP.keep (w' := w16) (fun g hg _ => hc16.block g (by have := rP g hg; omega)) (by decide), rfl⟩)
    clear again2
    have ht64 : t = 64 := by omega
    subst ht64
    generalize hVV : vAt s W 64 = V at hB8 hvl
    refine St0 ?_
    refine G.sub (f' := [(10, iv ((0 : Nat) : Int)), (6, iv ((64 * j : Nat) : Int)), (2, ptr b2 0), (3, ptr b3 0), (4, .slice pp P.length cp), (5, ptr b5 0), (8, ptr b8 0)]) (by (repeat (first | exact Fr.sub_nil _ | refine Fr.sub_cons rfl ?_))) ?_
    refine G.rounds (α := Nat) (fun i f w' => i ≤ 8 ∧ Ext w w' ∧ w14.heap.size ≤ w'.heap.size ∧ Blk w' b2 25 ti25.zero ∧ Blk w' b3 137 (wcells (mixL s V i)) ∧ Blk w' b5 183 (wcells kTab) ∧ Blk w' b8 137 (wcells V) ∧ OwnB w3.heap.size w' (.slice pp P.length cp) P ∧ f = [(10, iv i), (6, iv ((64 * j : Nat) : Int)), (2, ptr b2 0), (3, ptr b3 0), (4, .slice pp P.length cp), (5, ptr b5 0), (8, ptr b8 0)]) (fun i => 8 - i) ?rounds3 0 ⟨by omega, he14, Nat.le_refl _, hB2, hB3, hB5, hB8, hP, rfl⟩
    clear hB2 hB3 hB5 hB7 hB8 hP he14
    rintro i f w15 ⟨hi, he15, s15, hB2, hB3, hB5, hB8, hP, rfl⟩ again3
    by_cases hlt3 : (i : Int) < 8
    · have hml := mixL_len hsl hvl (i := i) (by omega)
      have h1 : At any w15 b3 i [wv (s.getD i 0)] := by
        have := hB3.word (j := i) (by omega)
        rwa [mixL_at hsl hvl (by omega)] at this
      refine St0 ?_
      refine G.quietTail 7 follows (by kernel_rfl) (by kernel_rfl) (by kernel_rfl) (by kernel_rfl) ?_
      refine QSt0 ?_
      (refine GQ.indexArr (i) 1 (i) hT rfl rfl rfl rfl rfl rfl rfl rfl ?_ ?_ ?_ ?_; (focus omega); (focus omega); (focus omega))
      refine QSt1 (h1) ?_
      (refine GQ.indexArr (i) 1 (i) hT rfl rfl rfl rfl rfl rfl rfl rfl ?_ ?_ ?_ ?_; (focus omega); (focus omega); (focus omega))
      refine QWSt1 ((hB8.word (j := i) (by omega))) ?_
      refine GQ.tail fun w16 he16 => ?_
      have s16 := he16.size
      replace hB2 := hB2.ext he16
      replace hB3 := hB3.ext he16
      replace hB5 := hB5.ext he16
      replace hB8 := hB8.ext he16
      replace hP := hP.ext he16
      (refine GL.indexArr (i) 1 (i) hT rfl rfl rfl rfl rfl rfl rfl rfl ?_ ?_ ?_ ?_; (focus omega); (focus omega); (focus omega))
      refine GL.store1 hT rfl rfl rfl rfl rfl rfl rfl hB3 (by rw [wcells_len, hml]; omega) fun w17 hc17 hB17 => ?_
      rw [wcells_set, mixL_set hsl hvl (by omega)] at hB17
      have s17 := hc17.size
      refine St0 ?_
      exact G.sub (by (repeat (first | exact Fr.sub_nil _ | refine Fr.sub_cons rfl ?_))) (again3 (i + 1) _ _ (by omega) ⟨by omega, hc17.below (by omega) (he15.trans he16), by omega, hB2.chg hc17 (by omega), hB17, hB5.chg hc17 (by omega), hB8.chg hc17 (by omega), hP.keep (w' := w17) (fun g hg _ => hc17.block g (by have := (hP.row hg).1; omega)) (by decide), rfl⟩)
    clear again3
    have hi8 : i = 8 := by omega
    subst hi8
    have e : mixL s V 8 = stAt P (j + 1) := by
      unfold mixL
      rw [List.take_of_length_le (by simp [hsl, hvl]), List.drop_of_length_le (by omega), List.append_nil]
      show _ = compress (stAt P j) (chunk P j)
      unfold compress
      rw [hst, hW, hVV]
    rw [e] at hB3
    refine St0 ?_
    rw [show ((64 * j : Nat) : Int) + 64 = ((64 * (j + 1) : Nat) : Int) by omega]
    exact G.sub (by (repeat (first | exact Fr.sub_nil _ | refine Fr.sub_cons rfl ?_))) (again (j + 1) _ _ (by omega) ⟨by omega, he15, by omega, hB2, hB3, hB5, hP, rfl⟩)
  clear again
  obtain rfl : j = q := by omega
  have hfin : shaB bs = outB (stAt P j) := by
    unfold shaB
    rw [hPP, hq]
    congr 2
    omega
  generalize hst : stAt P j = s at hB3 hsl hfin
  refine St0 ?_
  refine GL.alloc hT rfl rfl rfl fun b11 w9 hb11 hB11 he9 => ?_
  have l11 := hB11.lt
  have s9 := he9.size
  replace hB2 := hB2.ext he9
  replace hB3 := hB3.ext he9
  have he9' := he8.trans he9
  refine St0 ?_
  refine G.sub (f' := [(12, iv ((0 : Nat) : Int)), (2, ptr b2 0), (3, ptr b3 0), (11, ptr b11 0)]) (by (repeat (first | exact Fr.sub_nil _ | refine Fr.sub_cons rfl ?_))) ?_
  refine G.rounds (α := Nat) (fun i f w' => i ≤ 8 ∧ Ext w w' ∧ Blk w' b2 25 ti25.zero ∧ Blk w' b3 137 (wcells s) ∧ Blk w' b11 25 (bcells (digAt s (4 * i))) ∧ f = [(12, iv i), (2, ptr b2 0), (3, ptr b3 0), (11, ptr b11 0)]) (fun i => 8 - i) ?round4 0 ⟨by omega, he9', hB2, hB3, hB11, rfl⟩
  clear hB2 hB3 hB11 hB5 hP he9' he9 he8
  rintro i f w10 ⟨hi, he10, hB2, hB3, hB11, rfl⟩ again
  by_cases hlt4 : (i : Int) < 8
  · refine St0 ?_
    refine G.sub (f' := [(13, iv ((0 : Nat) : Int)), (12, iv i), (2, ptr b2 0), (3, ptr b3 0), (11, ptr b11 0)]) (by (repeat (first | exact Fr.sub_nil _ | refine Fr.sub_cons rfl ?_))) ?_
    refine G.rounds (α := Nat) (fun m f w' => m ≤ 4 ∧ Ext w w' ∧ Blk w' b2 25 ti25.zero ∧ Blk w' b3 137 (wcells s) ∧ Blk w' b11 25 (bcells (digAt s (4 * i + m))) ∧ f = [(13, iv m), (12, iv i), (2, ptr b2 0), (3, ptr b3 0), (11, ptr b11 0)]) (fun m => 4 - m) ?round5 0 ⟨by omega, he10, hB2, hB3, hB11, rfl⟩
    clear hB2 hB3 hB11 he10
    rintro m f w11 ⟨hm4, he11, hB2, hB3, hB11, rfl⟩ again2
    by_cases hlt5 : (m : Int) < 4
    · have hsh := shift_toNat ⟨m, by omega⟩
      have hsl5 := shift_lt ⟨m, by omega⟩
      simp only at hsh hsl5
      have e4 : 4 * (i : Int) + m = ((4 * i + m : Nat) : Int) := by omega
      have hdiv : (4 * i + m) / 4 = i := by omega
      have hmod : (4 * i + m) % 4 = m := by omega
      have hset := digAt_set s (m := 4 * i + m) (by omega)
      rw [hdiv, hmod] at hset
      refine St0 ?_
      rw [e4]
      (refine GL.indexArr (i) 1 (i) hT rfl rfl rfl rfl rfl rfl rfl rfl ?_ ?_ ?_ ?_; (focus omega); (focus omega); (focus omega))
      refine St1 ((hB3.word (j := i) (by omega))) ?_
      refine GL.conv64 (24 - 8 * m) hT rfl rfl rfl rfl rfl rfl rfl (by omega) (by omega) ?_
      refine GL.shr32 (24 - 8 * UInt32.ofNat m) hsl5 rfl rfl rfl rfl (by rw [hsh]) ?_
      refine GL.conv32_8 hT rfl rfl rfl rfl rfl rfl rfl ?_
      (refine GL.indexArr ((4 * i + m)) 1 ((4 * i + m)) hT rfl rfl rfl rfl rfl rfl rfl rfl ?_ ?_ ?_ ?_; (focus omega); (focus omega); (focus omega))
      refine GL.store1 hT rfl rfl rfl rfl rfl rfl rfl hB11 (by rw [bcells_length, digAt_len s (by omega)]; omega) fun w12 hc12 hB12 => ?_
      rw [bcells_set, hset] at hB12
      refine St0 ?_
      exact G.sub (by (repeat (first | exact Fr.sub_nil _ | refine Fr.sub_cons rfl ?_))) (again2 (m + 1) _ _ (by omega) ⟨by omega, hc12.below (by omega) he11, hB2.chg hc12 (by omega), hB3.chg hc12 (by omega), hB12, rfl⟩)
    · obtain rfl : m = 4 := by omega
      refine St0 ?_
      exact G.sub (by (repeat (first | exact Fr.sub_nil _ | refine Fr.sub_cons rfl ?_))) (again (i + 1) _ _ (by omega) ⟨by omega, he11, hB2, hB3, hB11, rfl⟩)
  · obtain rfl : i = 8 := by omega
    have ed : bcells (digAt s (4 * 8)) = (shaD bs).cells := by
      show bcells (digAt s 32) = bcells (shaB bs)
      rw [digAt_all, hfin]
    rw [ed] at hB11
    refine St1 (hB11.all) ?_
    refine GL.storeVar hT rfl rfl rfl rfl rfl (Dig.len _) (Dig.one _) hB2 rfl fun w12 hc12 hB12 => ?_
    refine St0 ?_
    exact G.retN rfl rfl hT rfl rfl rfl rfl hB12.all (Dig.len _) ⟨rfl, hc12.below (by omega) he10⟩
end Go.Proofs.YtefneilaongpbaaDoor
/-
  sha.Of, of one part.
-/
set_option linter.unusedVariables false
set_option linter.unusedSimpArgs false
set_option maxRecDepth 100000
set_option maxHeartbeats 8000000
namespace Go.Proofs.YtefneilaongpbaaDoor
open Go Go.Bd Go.RowKit
attribute [local irreducible] G GL GQ

theorem RdBs.isSlice {S : Where} {w : World} {v : Value} {ps : List Bytes} (h : RdBs S w v ps) : ∃ p c, v = .slice p ps.length c ∧ ps.length ≤ c := by
  obtain ⟨es, _, h⟩ := h
  exact h.isSlice
theorem RdBs.elem {S : Where} {w : World} {v : Value} {ps : List Bytes} (h : RdBs S w v ps) {i : Nat} {x : Bytes} (hx : ps[i]? = some x) :
    ∃ b o c u, v = .slice (some ⟨b, o, none⟩) ps.length c ∧ RdB S w u x ∧ At S w b (o + i) [u] := by
  obtain ⟨b, o, c, e, hv, ⟨u, rfl, hu⟩, hA⟩ := RdL.elem 1 bytesC_len h hx (by omega)
  exact ⟨b, o, c, u, hv, hu, by simpa using hA⟩
theorem bcells_drop (l : Bytes) (k : Nat) : (bcells l).drop k = bcells (l.drop k) := by simp only [bcells, List.map_drop]
theorem be8_take (N : Nat) {m : Nat} (h : m < 8) : (be8 N).take (m + 1) = (be8 N).take m ++ [UInt8.ofNat (N / 2 ^ (56 - 8 * m))] := by
  rw [List.take_add_one]
  congr 1
  have e : (256 : Nat) ^ (7 - m) = 2 ^ (56 - 8 * m) := by
    rw [show (256 : Nat) = 2 ^ 8 from rfl, ← Nat.pow_mul]
    congr 1
    omega
  simp [be8, h, e]
theorem stAt_succ (P : Bytes) (j : Nat) : compress (stAt P j) (chunk P j) = stAt P (j + 1) := rfl
theorem shaOf_call (v : Value) (bs : Bytes) (S : Where) (w : World) (h : RdBs S w v [bs]) (hm : bs.length ≤ 4294967296) (hK : Kt w) : Does Tryd.prog 48 #[v] w fun r w' => r = dv (shaD bs) ∧ Ext w w' := by
  refine call_walk Tryd.func48 (by kernel_rfl) rfl Tryd.ntmps48 rfl ?_
  obtain ⟨b, o, c, u, hv0, hu, hA⟩ := h.elem (i := 0) rfl
  have hv1 : v = .slice (some ⟨b, o, none⟩) 1 c := hv0
  subst hv1
  clear hv0
  have hpl := padded_len bs
  have hpm := padded_mod bs
  have hz := zeros_spec bs.length
  have hz64 : zerosN bs.length < 64 := Nat.mod_lt _ (by omega)
  have hlK := At.lt hK
  refine St0 ?_
  refine GL.alloc hT rfl rfl rfl fun b2 w1 hb2 hB2 he1 => ?_
  have s1 := he1.size
  have l2 := hB2.lt
  refine St0 ?_
  refine GL.buildArr (wcells shaInit) hT rfl rfl rfl rfl rfl rfl rfl ?_
  refine GL.alloc hT rfl rfl rfl fun b3 w2 hb3 hB3 he2 => ?_
  have s2 := he2.size
  have l3 := hB3.lt
  replace hB2 := hB2.ext he2
  refine GL.storeVar hT rfl rfl rfl rfl rfl (wcells_len _) (wcells_one _) hB3 rfl fun w3 hc3 hB3 => ?_
  have s3 := hc3.size
  have he3 : Ext w w3 := hc3.below (by omega) (he1.trans he2)
  replace hB2 := hB2.chg hc3 (by omega)
  replace hK := hK.ext he3
  replace hA := hA.ext he3
  replace hu := RdB.ext hu he3
  obtain ⟨pu, cu, hue, hcu⟩ := RdF.isSlice hu
  subst hue
  refine St0 ?_
  refine G.loop ?_
  refine St0 ?_
  (refine GL.indexSlice (0) 1 (o) hT rfl rfl rfl rfl rfl rfl rfl rfl ?_ ?_ ?_ ?_; (focus omega); (focus omega); (focus omega))
  refine St1 (hA) ?_
  refine GL.conv64 bs.length hT rfl rfl rfl rfl rfl rfl rfl rfl (by omega) ?_
  refine GL.add64 0 bs.length (by omega) rfl rfl rfl rfl rfl rfl ?_
  rw [Nat.zero_add]
  refine St0 ?_
  refine GL.append hT rfl rfl rfl rfl rfl rfl rfl rfl rfl rfl (Own.bare w3.heap.size w3 none 1 _) hu (by simp) (bcells_one bs) (by show (0 + bs.length) * 1 ≤ _; omega) (by omega) (Nat.le_refl _) fun r1 w4 ho1 hb1 hr1 => ?_
  have he34 : Ext w3 w4 := hb1.ext
  have s4 := he34.size
  rw [Nat.zero_add, List.nil_append] at ho1
  replace hB2 := hB2.ext he34
  replace hB3 := hB3.ext he34
  replace hK := hK.ext he34
  have he4 := he3.trans he34
  have ho := ho1.o
  have hchunk : ∀ j, 64 * (j + 1) ≤ bs.length → chunk (padded bs) j = (bs.drop (64 * j)).take 64 := fun j hj => chunk_front hj
  refine St0 ?_
  refine G.sub (f' := [(4, r1), (13, iv 0), (12, iv 1), (11, .slice (some ⟨b, o, none⟩) 1 c), (5, nv bs.length), (2, ptr b2 0), (3, ptr b3 0)]) (by (repeat (first | exact Fr.sub_nil _ | refine Fr.sub_cons rfl ?_))) ?_
  refine G.rounds (α := Nat) (fun j f w' => 64 * j ≤ bs.length ∧ Ext w w' ∧ w3.heap.size ≤ w'.heap.size ∧ Kt w' ∧ Blk w' b2 25 ti25.zero ∧ Blk w' b3 138 (wcells (stAt (padded bs) j)) ∧ ∃ r, OwnO w3.heap.size w' r (bs.length - 64 * j) 1 5 (bcells (bs.drop (64 * j))) ∧
    f = [(4, r), (13, iv 0), (12, iv 1), (11, .slice (some ⟨b, o, none⟩) 1 c), (5, nv bs.length), (2, ptr b2 0), (3, ptr b3 0)]) (fun j => bs.length - 64 * j) ?round 0 ⟨by omega, he4, s4, hK, hB2, hB3, r1, by simpa using ho, rfl⟩
  clear hB2 hB3 hK ho ho1 he4 he34 he3 hA hu he2 he1 hb1 hr1 hc3
  rintro j f w5 ⟨hj, he5, s5, hK, hB2, hB3, r, ho, rfl⟩ again
  obtain ⟨pr, cr, rfl, hcr⟩ := ho.shape
  have hsl := stAt_len (padded bs) j
  by_cases hlt : 64 * (j + 1) ≤ bs.length
  · refine St0 ?_
    refine GL.slice 0 64 cr 1 hT rfl rfl rfl rfl rfl rfl rfl rfl ⟨_, _, rfl, rfl⟩ rfl (by simp) (by omega) (by omega) (by omega) ?_
    have hl : (bs.drop (64 * j)).length = bs.length - 64 * j := List.length_drop
    have hrd : RdB (fresh w3.heap.size) w5 (.slice pr (bs.drop (64 * j)).length cr) (bs.drop (64 * j)) := by
      unfold RdB; rw [hl]; exact ho.fresh
    have hcut := RdB.cutB hrd (L := 0) (H := 64) (M := cr) (by omega) (by omega) (by omega)
    rw [List.drop_zero, Nat.sub_zero, ← hchunk j hlt] at hcut
    refine GL.call rfl rfl rfl (block_call b3 _ (stAt (padded bs) j) (chunk (padded bs) j) _ w5 hB3 hsl hcut (by rw [hchunk j hlt, List.length_take, hl]; omega) hK) ?_
    rintro r6 w6 ⟨rfl, hB6, hb6⟩
    have s6 := hb6.size
    have he6 : Ext w w6 := hb6.below (fun q hq => by cases hq; omega) (by omega) he5
    have ho6 := ho.keep (w' := w6) (fun g hg hgl => hb6.block g hgl (fun e => by cases e; omega))
    rw [stAt_succ] at hB6
    refine St0 ?_
    refine GL.slice 64 (bs.length - 64 * j) cr 1 hT rfl rfl rfl rfl rfl rfl rfl ⟨_, _, rfl, rfl⟩ rfl rfl (by simp) (by omega) (by omega) (by omega) ?_
    have ht := ho6.tail (k := 64) (by omega)
    have en : bs.length - 64 * j - 64 = bs.length - 64 * (j + 1) := by omega
    rw [bcells_drop, List.drop_drop, en] at ht
    rw [en]
    refine St0 ?_
    exact G.sub (by (repeat (first | exact Fr.sub_nil _ | refine Fr.sub_cons rfl ?_))) (again (j + 1) _ _ (by omega) ⟨by omega, he6, by omega, At.keep hK (hb6.block 0 (by omega) (fun e => by cases e; omega)), hB2.keep (hb6.block b2 (by omega) (fun e => by cases e; omega)), hB6, _, ht, rfl⟩)
  clear again
  refine St0 ?_
  refine G.inLoop ?_
  have hq : 64 * j ≤ bs.length ∧ bs.length < 64 * (j + 1) := ⟨hj, by omega⟩
  have hoff : bs.length - 64 * j < 64 := by omega
  generalize hnn : bs.length - 64 * j = nn at ho hcr hoff
  generalize hDD : bs.drop (64 * j) = D at ho
  have hDl : D.length = nn := by rw [← hDD, List.length_drop, hnn]
  refine St0 ?_
  refine GL.buildSlice (bcells [128]) hT rfl rfl rfl rfl rfl rfl rfl (fillL_one rfl rfl (madeLen _ _)) fun b6 w6 hb6 hB6 he6 => ?_
  have s6 := he6.size
  replace hB2 := hB2.ext he6
  replace hB3 := hB3.ext he6
  replace hK := hK.ext he6
  replace ho := ho.ext he6
  refine GL.appendO hT rfl rfl rfl rfl rfl rfl rfl rfl rfl rfl ho (srcByte hB6) rfl (bcells_one _) (by decide) (by show (nn + 1) * 1 ≤ _; omega) (by omega) (by omega) fun r7 w7 ho7 hb7 => ?_
  have lK : 0 < w3.heap.size := by omega
  replace hK : Kt w7 := At.keep hK (hb7.block 0 lK)
  replace hB2 := hB2.keep (hb7.block b2 (by omega))
  replace hB3 := hB3.keep (hb7.block b3 (by omega))
  have s7 := hb7.size
  have he7 : Ext w w7 := Below.trans (he5.trans he6) (Below.mono hb7 (by omega))
  rw [← bcells_append] at ho7
  refine St0 ?_
  refine G.sub (f' := [(4, r7), (5, nv bs.length), (2, ptr b2 0), (3, ptr b3 0)]) (by (repeat (first | exact Fr.sub_nil _ | refine Fr.sub_cons rfl ?_))) ?_
  refine G.rounds (α := Nat) (fun m f w' => m ≤ zerosN bs.length ∧ Ext w w' ∧ w3.heap.size ≤ w'.heap.size ∧ Kt w' ∧ Blk w' b2 25 ti25.zero ∧ Blk w' b3 138 (wcells (stAt (padded bs) j)) ∧ ∃ r, OwnO w3.heap.size w' r (nn + 1 + m) 1 5 (bcells (D ++ [128] ++ List.replicate m 0)) ∧
    f = [(4, r), (5, nv bs.length), (2, ptr b2 0), (3, ptr b3 0)]) (fun m => zerosN bs.length - m) ?zeros 0 ⟨by omega, he7, by omega, hK, hB2, hB3, r7, by simpa using ho7, rfl⟩
  clear hB2 hB3 hK ho ho7 he7 he6 hb7 hB6 he5
  rintro m f w8 ⟨hm8, he8, s8, hK, hB2, hB3, r, ho, rfl⟩ again
  obtain ⟨pr', cr', rfl, hcr'⟩ := ho.shape
  by_cases hltz : m < zerosN bs.length
  · have hne : (nn + 1 + m) % 64 ≠ 56 := by have := hz.2 m hltz; omega
    refine St0 ?_
    refine GL.buildSlice (bcells [0]) hT rfl rfl rfl rfl rfl rfl rfl (fillL_one rfl rfl (madeLen _ _)) fun b9 w9 hb9 hB9 he9 => ?_
    have s9 := he9.size
    replace hB2 := hB2.ext he9
    replace hB3 := hB3.ext he9
    replace hK := hK.ext he9
    replace ho := ho.ext he9
    refine GL.appendO hT rfl rfl rfl rfl rfl rfl rfl rfl rfl rfl ho (srcByte hB9) rfl (bcells_one _) (by decide) (by show (nn + 1 + m + 1) * 1 ≤ _; omega) (by omega) (by omega) fun r10 w10 ho10 hb10 => ?_
    rw [← bcells_append, List.append_assoc (D ++ [128]), show (List.replicate m (0 : UInt8) ++ [0]) = List.replicate (m + 1) 0 by rw [List.replicate_succ']] at ho10
    have s10 := hb10.size
    refine St0 ?_
    exact G.sub (by (repeat (first | exact Fr.sub_nil _ | refine Fr.sub_cons rfl ?_))) (again (m + 1) _ _ (by omega) ⟨by omega, Below.trans (he8.trans he9) (Below.mono hb10 (by omega)), by omega, At.keep hK (hb10.block 0 lK), hB2.keep (hb10.block b2 (by omega)), hB3.keep (hb10.block b3 (by omega)), r10, ho10, rfl⟩)
  clear again
  obtain rfl : m = zerosN bs.length := by omega
  have h56 : (nn + 1 + zerosN bs.length) % 64 = 56 := by have := hz.1; omega
  generalize hN : 8 * bs.length = N
  generalize hDz : D ++ [128] ++ List.replicate (zerosN bs.length) 0 = Dz at ho
  generalize hn2 : nn + 1 + zerosN bs.length = n2 at ho hcr' h56
  have hn2b : n2 ≤ 4294967400 := by omega
  refine St0 ?_
  refine G.sub (f' := [(8, iv (56 - 8 * ((0 : Nat) : Int))), (4, .slice pr' n2 cr'), (5, nv bs.length), (2, ptr b2 0), (3, ptr b3 0)]) (by (repeat (first | exact Fr.sub_nil _ | refine Fr.sub_cons rfl ?_))) ?_
  refine G.rounds (α := Nat) (fun m f w' => m ≤ 8 ∧ Ext w w' ∧ w3.heap.size ≤ w'.heap.size ∧ Kt w' ∧ Blk w' b2 25 ti25.zero ∧ Blk w' b3 138 (wcells (stAt (padded bs) j)) ∧ ∃ r, OwnO w3.heap.size w' r (n2 + m) 1 5 (bcells (Dz ++ (be8 N).take m)) ∧
    f = [(8, iv (56 - 8 * (m : Int))), (4, r), (5, nv bs.length), (2, ptr b2 0), (3, ptr b3 0)]) (fun m => 8 - m) ?lens 0 ⟨by omega, he8, s8, hK, hB2, hB3, _, by simpa using ho, rfl⟩
  clear hB2 hB3 hK ho he8 hcr'
  rintro m f w9 ⟨hm9, he9, s9, hK, hB2, hB3, r, ho, rfl⟩ again
  by_cases hlt8 : m < 8
  · have e56 : (56 : Int) - 8 * (m : Int) = ((56 - 8 * m : Nat) : Int) := by omega
    refine St0 ?_
    refine GL.mul64 8 bs.length (by omega) rfl rfl rfl rfl rfl rfl ?_
    rw [hN]
    refine St0 ?_
    refine GL.shr64 N (56 - 8 * m) (by omega) rfl rfl rfl rfl rfl e56 ?_
    refine GL.convN8 hT rfl rfl rfl rfl rfl rfl rfl ?_
    refine GL.buildSlice (bcells [UInt8.ofNat (N / 2 ^ (56 - 8 * m))]) hT rfl rfl rfl rfl rfl rfl rfl (fillL_one rfl rfl (madeLen _ _)) fun b10 w10 hb10 hB10 he10 => ?_
    have s10 := he10.size
    replace hB2 := hB2.ext he10
    replace hB3 := hB3.ext he10
    replace hK := hK.ext he10
    replace ho := ho.ext he10
    refine GL.appendO hT rfl rfl rfl rfl rfl rfl rfl rfl rfl rfl ho (srcByte hB10) rfl (bcells_one _) (by decide) (by show (n2 + m + 1) * 1 ≤ _; omega) (by omega) (by omega) fun r11 w11 ho11 hb11 => ?_
    rw [← bcells_append, List.append_assoc, ← be8_take N hlt8] at ho11
    have s11 := hb11.size
    refine St0 ?_
    refine G.sub ?_ (again (m + 1) _ _ (by omega) ⟨by omega, Below.trans (he9.trans he10) (Below.mono hb11 (by omega)), by omega, At.keep hK (hb11.block 0 lK), hB2.keep (hb11.block b2 (by omega)), hB3.keep (hb11.block b3 (by omega)), r11, ho11, rfl⟩)
    rw [show (56 : Int) - 8 * ((m + 1 : Nat) : Int) = 56 - 8 * (m : Int) - 8 by omega]
    (repeat (first | exact Fr.sub_nil _ | refine Fr.sub_cons rfl ?_))
  clear again
  obtain rfl : m = 8 := by omega
  have hPd : Dz ++ (be8 N).take 8 = (padded bs).drop (64 * j) := by
    rw [List.take_of_length_le (Nat.le_of_eq (be8_len N)), ← hDz, ← hDD, ← hN]
    unfold padded
    rw [List.drop_append_of_le_length hj]
    simp
  rw [hPd] at ho
  have hfinal : shaB bs = outB (stAt (padded bs) ((padded bs).length / 64)) := rfl
  have hPl : n2 + 8 = (padded bs).length - 64 * j := by rw [hpl]; omega
  rw [hPl] at ho
  generalize hPP : padded bs = P at ho hB3 hpm hfinal hpl
  have hPb : P.length ≤ 4294967400 := by omega
  have hjP : 64 * j ≤ P.length := by omega
  clear hPd hPl h56 hn2b hn2 hDz hDl hDD hnn hcr hq hlt8 hchunk hsl
  refine St0 ?_
  refine G.sub (f' := [(4, r), (2, ptr b2 0), (3, ptr b3 0)]) (by (repeat (first | exact Fr.sub_nil _ | refine Fr.sub_cons rfl ?_))) ?_
  refine G.rounds (α := Nat) (fun j f w' => 64 * j ≤ P.length ∧ Ext w w' ∧ w3.heap.size ≤ w'.heap.size ∧ Kt w' ∧ Blk w' b2 25 ti25.zero ∧ Blk w' b3 138 (wcells (stAt P j)) ∧ ∃ r, OwnO w3.heap.size w' r (P.length - 64 * j) 1 5 (bcells (P.drop (64 * j))) ∧
    f = [(4, r), (2, ptr b2 0), (3, ptr b3 0)]) (fun j => P.length - 64 * j) ?blocks j ⟨hjP, he9, s9, hK, hB2, hB3, r, ho, rfl⟩
  clear hB2 hB3 hK ho he9 s9 hjP hj
  rintro j f w10 ⟨hj, he10, s10, hK, hB2, hB3, r, ho, rfl⟩ again
  obtain ⟨pr2, cr2, rfl, hcr2⟩ := ho.shape
  have hsl := stAt_len P j
  by_cases hlt : 64 * j < P.length
  · refine St0 ?_
    refine GL.slice 0 64 cr2 1 hT rfl rfl rfl rfl rfl rfl rfl rfl ⟨_, _, rfl, rfl⟩ rfl (by simp) (by omega) (by omega) (by omega) ?_
    have hl : (P.drop (64 * j)).length = P.length - 64 * j := List.length_drop
    have hrd : RdB (fresh w3.heap.size) w10 (.slice pr2 (P.drop (64 * j)).length cr2) (P.drop (64 * j)) := by
      unfold RdB; rw [hl]; exact ho.fresh
    have hcut := RdB.cutB hrd (L := 0) (H := 64) (M := cr2) (by omega) (by omega) (by omega)
    rw [List.drop_zero, Nat.sub_zero] at hcut
    refine GL.call rfl rfl rfl (block_call b3 _ (stAt P j) (chunk P j) _ w10 hB3 hsl hcut (by unfold chunk; rw [List.length_take, hl]; omega) hK) ?_
    rintro r6 w11 ⟨rfl, hB11, hb11⟩
    have s11 := hb11.size
    have he11 : Ext w w11 := hb11.below (fun q hq => by cases hq; omega) (by omega) he10
    have ho11 := ho.keep (w' := w11) (fun g hg hgl => hb11.block g hgl (fun e => by cases e; omega))
    rw [stAt_succ] at hB11
    refine St0 ?_
    refine GL.slice 64 (P.length - 64 * j) cr2 1 hT rfl rfl rfl rfl rfl rfl rfl ⟨_, _, rfl, rfl⟩ rfl rfl (by simp) (by omega) (by omega) (by omega) ?_
    have ht := ho11.tail (k := 64) (by omega)
    have en : P.length - 64 * j - 64 = P.length - 64 * (j + 1) := by omega
    rw [bcells_drop, List.drop_drop, en] at ht
    rw [en]
    refine St0 ?_
    exact G.sub (by (repeat (first | exact Fr.sub_nil _ | refine Fr.sub_cons rfl ?_))) (again (j + 1) _ _ (by omega) ⟨by omega, he11, by omega, At.keep hK (hb11.block 0 (by omega) (fun e => by cases e; omega)), hB2.keep (hb11.block b2 (by omega) (fun e => by cases e; omega)), hB11, _, ht, rfl⟩)
  clear again
  have hjq : P.length / 64 = j := by omega
  rw [hjq] at hfinal
  generalize hst : stAt P j = s at hB3 hsl hfinal
  refine St0 ?_
  refine G.sub (f' := [(64, iv ((0 : Nat) : Int)), (2, ptr b2 0), (3, ptr b3 0)]) (by (repeat (first | exact Fr.sub_nil _ | refine Fr.sub_cons rfl ?_))) ?_
  refine G.rounds (α := Nat) (fun i f w' => i ≤ 32 ∧ Ext w w' ∧ Blk w' b2 25 (bcells (digAt s i)) ∧ Blk w' b3 138 (wcells s) ∧ f = [(64, iv i), (2, ptr b2 0), (3, ptr b3 0)]) (fun i => 32 - i) ?out 0 ⟨by omega, he10, hB2, hB3, rfl⟩
  clear hB2 hB3 hK ho he10 s10
  rintro i f w11 ⟨hi, he11, hB2, hB3, rfl⟩ again
  by_cases hlt5 : (i : Int) < 32
  · have hsh := shift_toNat ⟨i % 4, Nat.mod_lt _ (by omega)⟩
    have hsl5 := shift_lt ⟨i % 4, Nat.mod_lt _ (by omega)⟩
    simp only at hsh hsl5
    have hset := digAt_set s (m := i) (by omega)
    refine St0 ?_
    (refine GL.indexArr ((i / 4)) 1 ((i / 4)) hT rfl rfl rfl rfl rfl rfl rfl rfl ?_ ?_ ?_ ?_; (focus omega); (focus omega); (focus omega))
    refine St1 ((hB3.word (j := i / 4) (by omega))) ?_
    refine GL.shr32 (24 - 8 * UInt32.ofNat (i % 4)) hsl5 rfl rfl rfl rfl (by rw [hsh]; omega) ?_
    refine GL.conv32_8 hT rfl rfl rfl rfl rfl rfl rfl ?_
    (refine GL.indexArr (i) 1 (i) hT rfl rfl rfl rfl rfl rfl rfl rfl ?_ ?_ ?_ ?_; (focus omega); (focus omega); (focus omega))
    refine GL.store1 hT rfl rfl rfl rfl rfl rfl rfl hB2 (by rw [bcells_length, digAt_len s (by omega)]; omega) fun w12 hc12 hB12 => ?_
    rw [bcells_set, hset] at hB12
    refine St0 ?_
    exact G.sub (by (repeat (first | exact Fr.sub_nil _ | refine Fr.sub_cons rfl ?_))) (again (i + 1) _ _ (by omega) ⟨by omega, hc12.below (by omega) he11, hB12, hB3.chg hc12 (by omega), rfl⟩)
  · obtain rfl : i = 32 := by omega
    have ed : bcells (digAt s 32) = (shaD bs).cells := by
      show _ = bcells (shaB bs)
      rw [digAt_all, hfinal]
    rw [ed] at hB2
    refine St1 (hB2.all) ?_
    refine GL.storeVar hT rfl rfl rfl rfl rfl (Dig.len _) (Dig.one _) hB2 (Dig.len _) fun w12 hc12 hB12 => ?_
    refine St0 ?_
    exact G.retN rfl rfl hT rfl rfl rfl rfl hB12.all (Dig.len _) ⟨rfl, hc12.below (by omega) he11⟩
end Go.Proofs.YtefneilaongpbaaDoor
