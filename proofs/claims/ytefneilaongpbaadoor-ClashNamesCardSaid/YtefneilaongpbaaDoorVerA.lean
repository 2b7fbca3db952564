import Derived.Test.YtefneilaongpbaaDoorRoot5
import Derived.Test.YtefneilaongpbaaDoorDrawW
import Derived.Test.YtefneilaongpbaaDoorDrawN
/-
  What is digested on the way to a proof's root: its document's list; the program's end of it, and the turning of a list.
-/
set_option linter.unusedVariables false
set_option linter.unusedSimpArgs false
set_option maxRecDepth 100000
set_option maxHeartbeats 4000000
namespace Go.Bd
section
variable {P : Program} {n : Sz} {Q : Act → World → Prop} {f : Fr} {w : World} {ops : Array Oper} {rest : List Oper} {ty : TypeId} {pos : String} {aft : Array Edge} {g : Option (Nat × Bool)} {tt : List (Nat × Ti)}
/-- A store, its world told. -/
theorem GL.storeX {t : TypeId} {x y : Operand} {i : Ti} {b o : Nat} {T : TypeId} {v : Value} {c vs : List Value} (hT : Tys P tt) (hw : want ops f g = some true) (hi : TT.get tt t = some i) (hx : ev f x = some (ptr b o)) (hy : ev f y = some v) (hv : v.cells = vs.toArray) (hl : vs.length = i.size) (h1 : ∀ u ∈ vs, u.oneCell' = true) (hB : Blk w b T c) (hle : o + vs.length ≤ c.length)
    (h : GL P n Q ops rest f (World.put w b o vs)) : GL P n Q ops (⟨none, .store t x y, ty, pos, aft, g⟩ :: rest) f w :=
  GL.writes hw rfl (fun a ha => by simp [execOp, Instr.storeAt, ha.eval hx, ha.eval hy, Instr.sureAddr, run_store hT hi hv hl h1 hB hle]) h
theorem GL.sub8 (A B C : Int) {d : Nat} {t t' : TypeId} {x y : Operand} (hw : want ops f g = some true) (hlt : Nat.blt d n.size = true) (hx : ev f x = some (.int .u8 A)) (hy : ev f y = some (.int .u8 B)) (h0 : A - B = C) (h1 : IntKind.u8.wrap C = C)
    (h : GL P n Q ops rest ((d, .int .u8 C) :: f) w) : GL P n Q ops (⟨some d, .binOp .sub t x y t', ty, pos, aft, g⟩ :: rest) f w :=
  GL.yields hw rfl hlt (fun a ha => by simp [execOp, ha.eval hx, ha.eval hy, eqGuard, binOp, Op.intArith, h0, h1]) h
end
end Go.Bd
namespace Go.Proofs.YtefneilaongpbaaDoor
open Go Go.Bd Go.RowKit
attribute [local irreducible] G GL GQ

/-! the document's list -/
def lowF (x : Prf) : Bytes := if x.en = 1 then tagB 1 [x.key.1, x.val] else if x.en = 2 then tagB 1 [x.other.1, x.val] else tagB 0 []
def upB (x : Prf) (i : Nat) (below s : Dig) : Bytes := if x.key.bit i = 0 then tagB 2 [below.1, s.1] else tagB 2 [s.1, below.1]
noncomputable def fromL (x : Prf) : Nat → List Dig → List Bytes
  | _, [] => [lowF x]
  | i, s :: ss => upB x i (shaD ((fromL x (i + 1) ss).headD [])) s :: fromL x (i + 1) ss
noncomputable def fromP (x : Prf) : List Bytes := fromL x 0 x.sides
theorem fromL_len (x : Prf) : ∀ (i : Nat) (ss : List Dig), (fromL x i ss).length = ss.length + 1
  | _, [] => rfl
  | i, s :: ss => by simp [fromL, fromL_len x (i + 1) ss]
theorem low_len (x : Prf) (h : x.val.length ≤ 1000) : (lowF x).length ≤ 2000 := by
  unfold lowF
  split
  · rw [tag2_len, x.key.2]; omega
  · split
    · rw [tag2_len, x.other.2]; omega
    · decide
theorem up_len (x : Prf) (i : Nat) (a b : Dig) : (upB x i a b).length ≤ 2000 := by
  unfold upB
  split <;> · rw [tag2_len, a.2, b.2]; omega
theorem fromL_small (x : Prf) (h : x.val.length ≤ 1000) : ∀ (i : Nat) (ss : List Dig), ∀ b ∈ fromL x i ss, b.length ≤ 2000
  | i, [], b, hb => by
    simp only [fromL, List.mem_singleton] at hb
    rw [hb]; exact low_len x h
  | i, s :: ss, b, hb => by
    simp only [fromL, List.mem_cons] at hb
    rcases hb with rfl | hb
    · exact up_len _ _ _ _
    · exact fromL_small x h (i + 1) ss b hb
theorem fromL_head (x : Prf) (i : Nat) (ss : List Dig) : (fromL x i ss)[0]? = some ((fromL x i ss).headD []) := by
  cases ss <;> rfl

/-! byte strings in memory of one's own -/
def OwnBs (B : Nat) (w : World) (v : Value) (xs : List Bytes) : Prop := ∃ us, All2 (fun u x => OwnB B w u x) us xs ∧ Own B w v xs.length 1 32 us
theorem OwnBs.ext {B : Nat} {w w' : World} {v : Value} {xs : List Bytes} (h : OwnBs B w v xs) (he : Ext w w') : OwnBs B w' v xs := let ⟨us, h1, h2⟩ := h; ⟨us, h1.imp fun _ _ h => h.ext he, h2.ext he⟩
theorem OwnBs.mono {B B' : Nat} {w : World} {v : Value} {xs : List Bytes} (h : OwnBs B w v xs) (hB : B' ≤ B) : OwnBs B' w v xs := let ⟨us, h1, h2⟩ := h; ⟨us, h1.imp fun _ _ h => h.mono hB, h2.mono hB⟩
theorem OwnBs.bare (B : Nat) (w : World) (p : Option Addr) : OwnBs B w (.slice p 0 0) [] := ⟨[], .nil, Own.bare _ _ _ _ _⟩
theorem OwnBs.shape {B : Nat} {w : World} {v : Value} {xs : List Bytes} (h : OwnBs B w v xs) : ∃ p c, v = .slice p xs.length c := let ⟨us, h1, h2⟩ := h; h2.shape
theorem singles {α : Type} (us : List α) : (us.map fun u => [u]).flatten = us := by
  induction us with
  | nil => rfl
  | cons u us ih => simp [ih]
theorem OwnBs.rd {B : Nat} {w : World} {v : Value} {xs : List Bytes} (h : OwnBs B w v xs) : RdBs (fresh B) w v xs := by
  obtain ⟨us, h1, h2⟩ := h
  refine ⟨us.map fun u => [u], ?_, by rw [singles]; exact h2.fresh⟩
  clear h2
  induction h1 with
  | nil => exact .nil
  | cons h _ ih => exact .cons ⟨_, rfl, h.fresh⟩ ih
theorem OwnBs.one {B : Nat} {w : World} {us : List Value} {xs : List Bytes} (h : All2 (fun u x => OwnB B w u x) us xs) : ∀ u ∈ us, u.cells = #[u] ∧ u.oneCell' = true := by
  induction h with
  | nil => intro u hu; cases hu
  | cons h _ ih =>
    intro u hu
    rcases List.mem_cons.1 hu with rfl | hu
    · exact ⟨h.some, h.one⟩
    · exact ih u hu
theorem own_ne {B : Nat} {w : World} {v : Value} {n sz : Nat} {T T' : TypeId} {cs c : List Value} {b : Nat} (h : Own B w v n sz T cs) (hB : Blk w b T' c) (hne : Nat.beq T T' = false) : rowOf v ≠ some b := by
  intro e
  rcases h.2 with ⟨rfl, p, rfl⟩ | ⟨g, cap, rest, rfl, _, _, hblk, _⟩
  · simp [rowOf] at e
  · cases cap with
    | zero => simp [rowOf] at e
    | succ q =>
      simp [rowOf] at e
      subst e
      unfold Blk at hblk hB
      rw [hblk] at hB
      simp only [Option.some.injEq, Obj.cells.injEq] at hB
      rw [hB.2.1] at hne
      simp at hne
theorem own_keep {B : Nat} {w w' : World} {v : Value} {n sz : Nat} {T T' : TypeId} {cs c : List Value} {b : Nat} (h : Own B w v n sz T cs) (hB : Blk w b T' c) (hne : Nat.beq T T' = false && Nat.blt 0 sz) (hc : Chg b w w') : Own B w' v n sz T cs := by
  have h2 : Nat.beq T T' = false ∧ Nat.blt 0 sz = true := by simpa using hne
  exact h.keep (fun g hg _ => hc.block g (fun e => own_ne h hB h2.1 (by rw [hg, e]))) (by simpa [Nat.blt_eq] using h2.2)
/-- A write into the row of byte strings leaves the strings alone. -/
theorem bytesBut {B B' : Nat} {w w' : World} {us : List Value} {xs : List Bytes} {v : Value} {n sz : Nat} {cs : List Value} (h : All2 (fun u x => OwnB B w u x) us xs) (ho : Own B' w v n sz 32 cs) (hb : But (rowOf v) w w') : All2 (fun u x => OwnB B w' u x) us xs :=
  h.imp fun u x h2 => h2.keep (fun g hg hlt => hb.block g hlt (fun e => Own.sep h2 ho rfl g hg e.symm)) (by decide)
theorem All2.reverse {α β : Type} {R : α → β → Prop} {xs : List α} {ys : List β} (h : All2 R xs ys) : All2 R xs.reverse ys.reverse := by
  induction h with
  | nil => exact .nil
  | cons h _ ih => rw [List.reverse_cons, List.reverse_cons]; exact ih.append (.cons h .nil)

/-! the turning of a list -/
/-- After i exchanges. -/
def turned (us ds : List Value) (i : Nat) : Prop := ds.length = us.length ∧ ∀ k, k < us.length → ds[k]? = if k < i ∨ us.length ≤ k + i then us[us.length - 1 - k]? else us[k]?
theorem turned_zero (us : List Value) : turned us us 0 := ⟨rfl, fun k hk => by rw [if_neg (by omega)]⟩
theorem turned_step {us ds : List Value} {i j : Nat} {a b : Value} (h : turned us ds i) (hij : i < j) (hj : i + j + 1 = us.length) (ha : ds[i]? = some a) (hb : ds[j]? = some b) : turned us ((ds.set i b).set j a) (i + 1) := by
  obtain ⟨hl, h⟩ := h
  refine ⟨by simp [hl], fun k hk => ?_⟩
  have h1 := h i (by omega)
  have h2 := h j (by omega)
  rw [if_neg (by omega)] at h1 h2
  rw [h1] at ha
  rw [h2] at hb
  rw [List.getElem?_set, List.getElem?_set]
  simp only [List.length_set]
  by_cases e : j = k
  · subst e
    rw [if_pos rfl, if_pos (by omega), if_pos (by omega), show us.length - 1 - j = i by omega, ha]
  · rw [if_neg e]
    by_cases e' : i = k
    · subst e'
      rw [if_pos rfl, if_pos (by omega), if_pos (by omega), show us.length - 1 - i = j by omega, hb]
    · rw [if_neg e', h k hk]
      by_cases hc : k < i ∨ us.length ≤ k + i
      · rw [if_pos hc, if_pos (by omega)]
      · rw [if_neg hc, if_neg (by omega)]
theorem turned_end {us ds : List Value} {i : Nat} (h : turned us ds i) (hi : us.length ≤ 2 * i + 1) : ds = us.reverse := by
  obtain ⟨hl, h⟩ := h
  apply List.ext_getElem?
  intro k
  by_cases hk : k < us.length
  · rw [h k hk, List.getElem?_reverse hk]
    by_cases hc : k < i ∨ us.length ≤ k + i
    · rw [if_pos hc]
    · rw [if_neg hc, show us.length - 1 - k = k by omega]
  · rw [List.getElem?_eq_none (by omega), List.getElem?_eq_none (by simp; omega)]
theorem but_ext (r : Option Nat) {w w' : World} (h : Ext w w') : But r w w' := ⟨h.os, h.tape, h.output, h.size, fun k hk _ => h.block k hk⟩
theorem but_chg {b : Nat} {w w' : World} (h : Chg b w w') : But (some b) w w' := ⟨h.os, h.tape, h.output, Nat.le_of_eq h.size.symm, fun k _ hr => h.block k (fun e => hr (by rw [e]))⟩
theorem put_set {w : World} {g o : Nat} {T : TypeId} {ds : List Value} {v : Value} (h : Blk w g T ds) (hlt : o < ds.length) : Blk (World.put w g o [v]) g T (ds.set o v) := by
  have := blk_put (o := o) (vs := [v]) h
  have e : splice ds o [v] = ds.set o v := by simp [splice, List.set_eq_take_append_cons_drop, hlt]
  rwa [e] at this
theorem reverse_call (v : Value) (xs : List Bytes) (B : Nat) (w : World) (h : OwnBs B w v xs) (hn : xs.length ≤ 1000) :
    Does Tryd.prog 93 #[v] w fun r w' => OwnBs B w' v xs.reverse ∧ But (rowOf v) w w' := by
  refine call_walk Tryd.func93 (by kernel_rfl) rfl Tryd.ntmps93 rfl ?_
  by_cases h0 : xs.length = 0
  · obtain rfl : xs = [] := List.eq_nil_of_length_eq_zero h0
    obtain ⟨p, c, rfl⟩ := h.shape
    simp only [List.length_nil] at h ⊢
    refine St0 ?_
    refine G.loop ?_
    refine St0 ?_
    exact G.end0 rfl rfl rfl ⟨h, ⟨rfl, rfl, rfl, Nat.le_refl _, fun _ _ _ => rfl⟩⟩
  obtain ⟨us, hus, hown⟩ := id h
  obtain ⟨hl, ho⟩ := id hown
  have hul : us.length = xs.length := by omega
  rcases ho with ⟨h0', p, rfl⟩ | ⟨g, cap, rest, rfl, hBg, hc, hblk, hr⟩
  · omega
  have hone := OwnBs.one hus
  generalize hN : xs.length = N at *
  have hrow : rowOf (.slice (some ⟨g, 0, none⟩) N cap) = some g := by
    cases cap with
    | zero => omega
    | succ c => rfl
  rw [hrow]
  refine St0 ?_
  rw [show (N : Int) - 1 = (N : Int) - 1 - ((0 : Nat) : Int) by omega]
  refine G.sub (f' := [(2, iv ((0 : Nat) : Int)), (3, iv ((N : Int) - 1 - ((0 : Nat) : Int))), (0, .slice (some ⟨g, 0, none⟩) N cap)]) (by (repeat (first | exact Fr.sub_nil _ | refine Fr.sub_cons rfl ?_))) ?_
  refine G.rounds (α := Nat) (fun i f w' => i ≤ N ∧ But (some g) w w' ∧ (∃ ds, turned us ds i ∧ Blk w' g 32 (ds ++ rest)) ∧ f = [(2, iv i), (3, iv ((N : Int) - 1 - (i : Int))), (0, .slice (some ⟨g, 0, none⟩) N cap)]) (fun i => N - i) ?round 0 ⟨by omega, ⟨rfl, rfl, rfl, Nat.le_refl _, fun _ _ _ => rfl⟩, ⟨us, turned_zero us, hblk⟩, rfl⟩
  rintro i f w2 ⟨hi, hc2, ⟨ds, hds, hB⟩, rfl⟩ again
  by_cases hlt : (i : Int) < (N : Int) - 1 - i
  · obtain ⟨jn, hjn⟩ : ∃ jn : Nat, (N : Int) - 1 - i = jn := ⟨N - 1 - i, by omega⟩
    have hij : i < jn := by omega
    have hjN : i + jn + 1 = us.length := by omega
    have hdl := hds.1
    rw [hjn]
    obtain ⟨a, ha⟩ : ∃ a, ds[i]? = some a := ⟨_, List.getElem?_eq_getElem (by omega)⟩
    obtain ⟨b, hb⟩ : ∃ b, ds[jn]? = some b := ⟨_, List.getElem?_eq_getElem (by omega)⟩
    have hmem : ∀ k u, k < us.length → ds[k]? = some u → u ∈ us := fun k u hk hu => by
      rw [hds.2 k hk] at hu
      split at hu <;> exact List.mem_of_getElem? hu
    have ha1 := hone a (hmem i a (by omega) ha)
    have hb1 := hone b (hmem jn b (by omega) hb)
    have hAa : ∀ w', Blk w' g 32 (ds ++ rest) → At any w' g i [a] := fun w' h' => h'.one (by rw [List.getElem?_append_left (by omega)]; exact ha) |>.imp fun _ _ _ => trivial
    have hAb : ∀ w', Blk w' g 32 (ds ++ rest) → At any w' g jn [b] := fun w' h' => h'.one (by rw [List.getElem?_append_left (by omega)]; exact hb) |>.imp fun _ _ _ => trivial
    refine St0 ?_
    refine G.drawW 13 15 [0, 0, 2, 2, 0, 0, 0, 0, 0, 0, 0, 0, 0, 3, 1, 4] [(2, iv i), (3, iv jn), (0, .slice (some ⟨g, 0, none⟩) N cap)] (fun k v => match k with
      | 0 => Value.slice (some ⟨g, 0, none⟩) N cap = v | 1 => iv i = v | 2 => Value.slice (some ⟨g, 0, none⟩) N cap = v | 3 => iv jn = v | 4 => Value.slice (some ⟨g, 0, none⟩) N cap = v | 5 => iv jn = v | 6 => ptr g jn = v | 7 => b = v
      | 8 => Value.slice (some ⟨g, 0, none⟩) N cap = v | 9 => iv i = v | 10 => ptr g i = v | 11 => a = v | 12 => ptr g i = v | 14 => ptr g jn = v | _ => True) follows (by kernel_rfl) (by kernel_rfl) (by (repeat (first | exact Fr.sub_nil _ | refine Fr.sub_cons rfl ?_))) ?_
    intro w0 he0
    have hB0 := hB.ext he0
    have hB1 := put_set (o := i) (v := b) hB0 (by simp; omega)
    rw [List.set_append_left _ _ (by omega)] at hB1
    have hB2 := put_set (o := jn) (v := a) hB1 (by simp; omega)
    rw [List.set_append_left _ _ (by simp; omega)] at hB2
    refine ⟨World.put w0 g i [b], World.put (World.put w0 g i [b]) g jn [a], ⟨?_, ?_, fun w' => ?_, fun w' => ?_, ?_, ?_, ?_, ?_, ?_, ?_, ?_, ?_, ?_, ?_, ?_, ?_, trivial⟩, ?_⟩
    · refine St0 ?_
      exact GL.val rfl rfl
    · refine St0 ?_
      exact GL.val rfl rfl
    · refine St0 ?_
      exact GL.val rfl rfl
    · refine St0 ?_
      exact GL.val rfl rfl
    · refine St0 ?_
      exact GL.val rfl rfl
    · refine St0 ?_
      exact GL.val rfl rfl
    · rintro v rfl v rfl
      (refine GL.indexSlice (jn) 1 (jn) hT rfl rfl rfl rfl rfl rfl rfl rfl ?_ ?_ ?_ ?_; (focus omega); (focus omega); (focus omega))
      exact GL.val rfl rfl
    · rintro v rfl
      refine St1 (hAb _ hB0) ?_
      exact GL.val rfl rfl
    · refine St0 ?_
      exact GL.val rfl rfl
    · refine St0 ?_
      exact GL.val rfl rfl
    · rintro v rfl v rfl
      (refine GL.indexSlice (i) 1 (i) hT rfl rfl rfl rfl rfl rfl rfl rfl ?_ ?_ ?_ ?_; (focus omega); (focus omega); (focus omega))
      exact GL.val rfl rfl
    · rintro v rfl
      refine St1 (hAa _ hB0) ?_
      exact GL.val rfl rfl
    · rintro v rfl v rfl
      (refine GL.indexSlice (i) 1 (i) hT rfl rfl rfl rfl rfl rfl rfl rfl ?_ ?_ ?_ ?_; (focus omega); (focus omega); (focus omega))
      exact GL.val rfl rfl
    · rintro v rfl v rfl
      refine GL.storeX (vs := [b]) hT rfl rfl rfl rfl hb1.1 rfl (by simpa using hb1.2) hB0 (by simp; omega) ?_
      exact GL.stop (by (repeat (first | exact Fr.sub_nil _ | refine Fr.sub_cons rfl ?_)))
    · rintro v rfl v rfl
      (refine GL.indexSlice (jn) 1 (jn) hT rfl rfl rfl rfl rfl rfl rfl rfl ?_ ?_ ?_ ?_; (focus omega); (focus omega); (focus omega))
      exact GL.val rfl rfl
    · rintro v rfl v rfl
      refine GL.storeX (vs := [a]) hT rfl rfl rfl rfl ha1.1 rfl (by simpa using ha1.2) hB1 (by simp; omega) ?_
      exact GL.stop (by (repeat (first | exact Fr.sub_nil _ | refine Fr.sub_cons rfl ?_)))
    refine St0 ?_
    refine G.sub (f' := [(2, iv ((i + 1 : Nat) : Int)), (3, iv ((N : Int) - 1 - ((i + 1 : Nat) : Int))), (0, .slice (some ⟨g, 0, none⟩) N cap)]) ?_ (again (i + 1) _ _ (by omega) ⟨by omega, ?_, ⟨_, turned_step hds hij hjN ha hb, hB2⟩, rfl⟩)
    · rw [show (N : Int) - 1 - ((i + 1 : Nat) : Int) = (jn : Int) - 1 by omega]
      (repeat (first | exact Fr.sub_nil _ | refine Fr.sub_cons rfl ?_))
    · exact ((hc2.trans (but_ext _ he0)).trans (but_chg (chg_put _ _ _ _))).trans (but_chg (chg_put _ _ _ _))
  · refine St0 ?_
    have hrev := turned_end hds (by omega)
    rw [hrev] at hB
    have hown' : Own B w2 (.slice (some ⟨g, 0, none⟩) N cap) N 1 32 us.reverse := ⟨by rw [List.length_reverse]; omega, .inr ⟨g, cap, rest, rfl, hBg, hc, hB, hr⟩⟩
    refine G.end0 rfl rfl rfl ⟨⟨us.reverse, All2.reverse (bytesBut hus hown (by rw [hrow]; exact hc2)), ?_⟩, hc2⟩
    rw [List.length_reverse, hN]
    exact hown'
end Go.Proofs.YtefneilaongpbaaDoor
/-
  The program's list of what is digested, and a proof's root by it.
-/
set_option linter.unusedVariables false
set_option linter.unusedSimpArgs false
set_option maxRecDepth 100000
set_option maxHeartbeats 4000000
namespace Go.Proofs.YtefneilaongpbaaDoor
open Go Go.Bd Go.RowKit
attribute [local irreducible] G GL GQ

theorem vend_call (x : Prf) (u s : Value) (S : Where) (w : World) (h : PrfM S w x u s) (hl : x.val.length ≤ 1000) : Does Tryd.prog 89 #[prv x u s] w fun r w' => OwnB w.heap.size w' r (lowF x) ∧ Ext w w' := by
  refine call_walk Tryd.func89 (by kernel_rfl) rfl Tryd.ntmps89 rfl ?_
  obtain ⟨pu, cu, rfl, hcu⟩ := RdF.isSlice h.val
  refine St0 ?_
  refine GL.box rfl rfl rfl rfl fun b w1 hb hB he => ?_
  obtain ⟨hk, hen, ho, hv, hs⟩ := pat hB.all
  have s1 := he.size
  refine St1 (hen) ?_
  by_cases h1 : (x.en.toNat : Int) = 1
  · refine St0 ?_
    refine G.quietTail 4 follows (by kernel_rfl) (by kernel_rfl) (by kernel_rfl) (by kernel_rfl) ?_
    refine QSt1 (hv) ?_
    refine GQ.tail fun w2 he2 => ?_
    refine GL.buildSlice ([.slice (some ⟨b, 0, none⟩) 32 32] ++ [.slice pu x.val.length cu]) hT rfl rfl rfl rfl rfl rfl rfl (fillL_two rfl rfl rfl rfl (madeLen _ _)) fun b3 w3 hb3 hB3 he3 => ?_
    have he23 := he2.trans he3
    refine GL.call rfl rfl rfl (tagBytes_call 1 _ [x.key.1, x.val] any w3 (bs2 hB3 (rdKey (hk.ext he23)) (RdB.ext h.val (he.trans he23))) (by simp) (leaf_len _ hl)) ?_
    rintro r w4 ⟨ho4, he4⟩
    have s3 := he23.size
    refine St0 ?_
    exact G.ret1 rfl rfl rfl rfl ⟨by rw [lowF, if_pos (en1.1 h1)]; exact ho4.mono (by omega), he.trans (he23.trans he4)⟩
  have h1' := mt en1.2 h1
  refine St0 ?_
  by_cases h2 : (x.en.toNat : Int) = 2
  · refine St0 ?_
    refine G.quietTail 4 follows (by kernel_rfl) (by kernel_rfl) (by kernel_rfl) (by kernel_rfl) ?_
    refine QSt1 (hv) ?_
    refine GQ.tail fun w2 he2 => ?_
    refine GL.buildSlice ([.slice (some ⟨b, 33, none⟩) 32 32] ++ [.slice pu x.val.length cu]) hT rfl rfl rfl rfl rfl rfl rfl (fillL_two rfl rfl rfl rfl (madeLen _ _)) fun b3 w3 hb3 hB3 he3 => ?_
    have he23 := he2.trans he3
    refine GL.call rfl rfl rfl (tagBytes_call 1 _ [x.other.1, x.val] any w3 (bs2 hB3 (rdKey (ho.ext he23)) (RdB.ext h.val (he.trans he23))) (by simp) (leaf_len _ hl)) ?_
    rintro r w4 ⟨ho4, he4⟩
    have s3 := he23.size
    refine St0 ?_
    exact G.ret1 rfl rfl rfl rfl ⟨by rw [lowF, if_neg h1', if_pos (en2.1 h2)]; exact ho4.mono (by omega), he.trans (he23.trans he4)⟩
  have h2' := mt en2.2 h2
  refine St0 ?_
  refine GL.call rfl rfl rfl (tagBytes_call 0 (.slice none 0 0) [] any w1 (bs0 _ _ _) (by simp) (by decide)) ?_
  rintro r w4 ⟨ho4, he4⟩
  refine St0 ?_
  exact G.ret1 rfl rfl rfl rfl ⟨by rw [lowF, if_neg h1', if_neg h2']; exact ho4.mono (by omega), he.trans he4⟩

/-! one link up -/
theorem splice_low (a b x y : List Value) (ha : a.length = 32) (hb : b.length = 32) (hx : x.length = 32) (hy : y.length = 32) : splice (splice (a ++ b) 0 x) 32 y = x ++ y := by
  simp [splice, ha, hb, hx, hy, List.take_append, List.drop_append, List.take_of_length_le, List.drop_of_length_le]
theorem splice_high (a b x y : List Value) (ha : a.length = 32) (hb : b.length = 32) (hx : x.length = 32) (hy : y.length = 32) : splice (splice (a ++ b) 32 x) 0 y = y ++ x := by
  simp [splice, ha, hb, hx, hy, List.take_append, List.drop_append, List.take_of_length_le, List.drop_of_length_le]
theorem zero2 : ti120.zero = Dig.zero.cells ++ Dig.zero.cells := by rw [Dig.zero_cells]; rfl
theorem rev_last {x : Prf} {i : Nat} {ss : List Dig} {xs : List Bytes} (h : xs = (fromL x i ss).reverse) : xs[xs.length - 1]? = some ((fromL x i ss).headD []) ∧ xs.length = ss.length + 1 := by
  have hl : xs.length = ss.length + 1 := by rw [h, List.length_reverse, fromL_len]
  refine ⟨?_, hl⟩
  rw [h, List.length_reverse, fromL_len, List.getElem?_reverse (by rw [fromL_len]; omega), fromL_len, show ss.length + 1 - 1 - (ss.length + 1 - 1) = 0 by omega, fromL_head]
theorem up_call (x : Prf) (u s : Value) (i : Nat) (sd : Dig) (ss : List Dig) (b1 b5 : Nat) (o : Value) (U : Nat) (w : World) (hx : x.sides[i]? = some sd) (hi : i < 256) (hss : ss = x.sides.drop (i + 1)) (hm : PrfM any w x u s) (hP : At any w b1 0 (pcells x u s)) (h1 : b1 < U) (hU : U ≤ b5)
    (hB5 : Blk w b5 38 [o]) (ho : OwnBs U w o (fromL x (i + 1) ss).reverse) (hsl : ss.length ≤ 300) (hv : x.val.length ≤ 1000) (hK : Kt w) :
    Does Tryd.prog 90 #[iv i, ptr b5 0, ptr b1 0] w fun r w' => (∃ o', Blk w' b5 38 [o'] ∧ OwnBs U w' o' (fromL x i (sd :: ss)).reverse) ∧ Below U w w' := by
  refine call_walk Tryd.func90 (by kernel_rfl) rfl Tryd.ntmps90 rfl ?_
  obtain ⟨p, c, rfl⟩ := ho.shape
  obtain ⟨hlast, hlen⟩ := rev_last (x := x) (i := i + 1) (ss := ss) rfl
  have l5 := hB5.lt
  obtain ⟨hk, hen, hot, hv', hsd⟩ := pat hP
  obtain ⟨bo, oo, co, uo, hvo, huo, hAo⟩ := ho.rd.elem hlast
  have h_sides := RdD.elem hm.sides hx
  have hilt : i < x.sides.length := (List.getElem?_eq_some_iff.1 hx).1
  cases hvo
  have hsmall := fromL_small x hv (i + 1) ss
  generalize hN : (fromL x (i + 1) ss).reverse.length = N at *
  have hbl : ((fromL x (i + 1) ss).headD []).length ≤ 2000 := hsmall _ (List.mem_of_getElem? (fromL_head x (i + 1) ss))
  refine St1 (hB5.all) ?_
  (refine GL.indexSlice ((N - 1)) 1 ((oo + (N - 1))) hT rfl rfl rfl rfl rfl rfl rfl rfl ?_ ?_ ?_ ?_; (focus omega); (focus omega); (focus omega))
  refine St1 (hAo) ?_
  refine GL.buildSlice [uo] hT rfl rfl rfl rfl rfl rfl rfl (fillL_one (RdF.some huo) rfl (madeLen _ _)) fun b14 w2 hb14 hB14 he2 => ?_
  refine GL.call rfl rfl rfl (shaOf_call _ _ any w2 (bs1 hB14 (RdB.ext huo he2)) (by omega) (hK.ext he2)) ?_
  rintro r w3 ⟨rfl, he3⟩
  have he := he2.trans he3
  refine GL.alloc hT rfl rfl rfl fun b4 w4 hb4 hB4 he4 => ?_
  have l4 := hB4.lt
  refine GL.storeVar hT rfl rfl rfl rfl rfl (Dig.len _) (Dig.one _) hB4 (by rw [Dig.len]; rfl) fun w5 hc5 hB5' => ?_
  have s3 := he.size
  have s4 := he4.size
  have hw5 : Ext w w5 := hc5.below (by omega) (he.trans he4)
  refine St1 ((hk.ext hw5)) ?_
  refine GL.call rfl rfl rfl (bit_call x.key i hi w5) ?_
  rintro r w6 ⟨rfl, he6⟩
  refine St0 ?_
  refine GL.alloc hT rfl rfl rfl fun b7 w7 hb7 hB7 he7 => ?_
  have l7 := hB7.lt
  have s5 := hw5.size
  have s6 := he6.size
  have s7 := he7.size
  have hB47 := (hB5'.ext he6).ext he7
  have l47 := hB47.lt
  rw [zero2] at hB7
  have hw7 : Ext w w7 := hw5.trans (he6.trans he7)
  generalize hbel : shaD ((fromL x (i + 1) ss).headD []) = bel at *
  obtain ⟨bs, os, cs, hvs, hAs⟩ := h_sides
  subst hvs
  have hbl' := x.key.bit_lt i
  have z32 := Dig.len Dig.zero
  have be32 := Dig.len bel
  have sd32 := Dig.len sd
  rcases (show x.key.bit i = 0 ∨ x.key.bit i = 1 by omega) with hbit | hbit
  · rw [hbit]
    refine St0 ?_
    refine G.drawW 10 12 [0, 2, 2, 0, 0, 0, 0, 0, 0, 0, 3, 1, 4] [(0, iv i), (1, ptr b5 0), (2, ptr b1 0), (4, ptr b4 0), (5, .int .u8 0), (7, ptr b7 0)] (fun k v => match k with
      | 0 => Value.int .u8 0 = v | 1 => Value.int .u8 0 = v | 2 => Value.int .u8 1 = v | 3 => dv bel = v | 4 => ptr b1 66 = v | 5 => Value.slice (some ⟨bs, os, none⟩) x.sides.length cs = v | 6 => iv i = v | 7 => ptr bs (os + i * 32) = v
      | 8 => dv sd = v | 9 => ptr b7 0 = v | 11 => ptr b7 32 = v | _ => True) follows (by kernel_rfl) (by kernel_rfl) (by (repeat (first | exact Fr.sub_nil _ | refine Fr.sub_cons rfl ?_))) ?_
    intro w0 he0
    have hw0 : Ext w w0 := hw7.trans he0
    have hB0 := hB7.ext he0
    have hB1 := blk_put (o := 0) (vs := bel.cells) hB0
    have hB2 := blk_put (o := 32) (vs := sd.cells) hB1
    rw [splice_low _ _ _ _ z32 z32 be32 sd32] at hB2
    refine ⟨World.put w0 b7 0 bel.cells, World.put (World.put w0 b7 0 bel.cells) b7 32 sd.cells, ⟨?_, fun w' => ?_, fun w' => ?_, ?_, ?_, ?_, ?_, ?_, ?_, ?_, ?_, ?_, ?_, trivial⟩, ?_⟩
    · refine St0 ?_
      exact GL.val rfl rfl
    · refine St0 ?_
      exact GL.val rfl rfl
    · rintro v rfl
      refine GL.sub8 1 0 1 rfl rfl rfl rfl (by decide) (by decide) ?_
      exact GL.val rfl rfl
    · refine St1 ((hB47.ext he0).all) ?_
      exact GL.val rfl rfl
    · refine St0 ?_
      exact GL.val rfl rfl
    · rintro v rfl
      refine St1 (hsd.ext hw0) ?_
      exact GL.val rfl rfl
    · refine St0 ?_
      exact GL.val rfl rfl
    · rintro v rfl v rfl
      (refine GL.indexSlice (i) 32 ((os + i * 32)) hT rfl rfl rfl rfl rfl rfl rfl rfl ?_ ?_ ?_ ?_; (focus omega); (focus omega); (focus omega))
      exact GL.val rfl rfl
    · rintro v rfl
      refine St1 (hAs.ext hw0) ?_
      exact GL.val rfl rfl
    · rintro v rfl
      (refine GL.indexArr (0) 32 (0) hT rfl rfl rfl rfl rfl rfl rfl rfl ?_ ?_ ?_ ?_; (focus omega); (focus omega); (focus omega))
      exact GL.val rfl rfl
    · rintro v rfl v rfl
      refine GL.storeX (vs := bel.cells) hT rfl rfl rfl rfl rfl (Dig.len _) (Dig.one _) hB0 (by simp [z32, be32]) ?_
      exact GL.stop (by (repeat (first | exact Fr.sub_nil _ | refine Fr.sub_cons rfl ?_)))
    · rintro v rfl
      (refine GL.indexArr (1) 32 (32) hT rfl rfl rfl rfl rfl rfl rfl rfl ?_ ?_ ?_ ?_; (focus omega); (focus omega); (focus omega))
      exact GL.val rfl rfl
    · rintro v rfl v rfl
      refine GL.storeX (vs := sd.cells) hT rfl rfl rfl rfl rfl (Dig.len _) (Dig.one _) hB1 (by simp [z32, be32, sd32, splice]) ?_
      exact GL.stop (by (repeat (first | exact Fr.sub_nil _ | refine Fr.sub_cons rfl ?_)))
    have hw2 : Ext w (World.put (World.put w0 b7 0 bel.cells) b7 32 sd.cells) := below_put (below_put hw0 (by omega)) (by omega)
    generalize World.put (World.put w0 b7 0 bel.cells) b7 32 sd.cells = w8 at *
    have s8 := hw2.size
    have l78 := hB2.lt
    have htext : upB x i bel sd = tagB 2 [bel.1, sd.1] := by simp [upB, hbit]
    have hBx : At any w8 b7 0 bel.cells := hB2.all.sub [] bel.cells (q := sd.cells) rfl rfl
    have hBy : At any w8 b7 32 sd.cells := hB2.all.sub bel.cells sd.cells (q := []) (by simp) (by rw [Dig.len])
    refine St0 ?_
    refine G.draw 8 [(1, ptr b5 0), (7, ptr b7 0)] (fun k v w' => match k with
      | 0 => Value.slice (some ⟨bo, oo, none⟩) N c = v | 1 => ptr b7 0 = v | 2 => Value.slice (some ⟨b7, 0, none⟩) 32 32 = v | 3 => ptr b7 32 = v | 4 => Value.slice (some ⟨b7, 32, none⟩) 32 32 = v
      | 5 => ∃ b, Value.slice (some ⟨b, 0, none⟩) 2 2 = v ∧ Blk w' b 32 [.slice (some ⟨b7, 0, none⟩) 32 32, .slice (some ⟨b7, 32, none⟩) 32 32]
      | 6 => OwnB w8.heap.size w' v (upB x i bel sd)
      | _ => ∃ b r, Value.slice (some ⟨b, 0, none⟩) 1 1 = v ∧ Blk w' b 32 [r] ∧ OwnB w8.heap.size w' r (upB x i bel sd)) follows (by kernel_rfl) (by kernel_rfl) (by kernel_rfl) (by kernel_rfl) (by (repeat (first | exact Fr.sub_nil _ | refine Fr.sub_cons rfl ?_))) ?_ ?_ ?_
    · intro k v w1 w2 he h
      rcases k with _ | _ | _ | _ | _ | _ | _ | k
      · exact h
      · exact h
      · exact h
      · exact h
      · exact h
      · obtain ⟨b, h1, h2⟩ := h; exact ⟨b, h1, h2.ext he⟩
      · exact Own.ext h he
      · obtain ⟨b, r, h1, h2, h3⟩ := h; exact ⟨b, r, h1, h2.ext he, Own.ext h3 he⟩
    · intro w9 he9
      have hs9 := he9.size
      refine ⟨fun w' he' => ?_, fun w' he' => ?_, fun w' he' => ?_, fun w' he' => ?_, fun w' he' => ?_, fun w' he' => ?_, fun w' he' => ?_, fun w' he' => ?_, trivial⟩
      · refine St1 ((hB5.ext (hw2.trans (he9.trans he'))).all) ?_
        exact GL.fact rfl (Ext.refl _) (by rfl)
      · (refine GL.indexArr (0) 32 (0) hT rfl rfl rfl rfl rfl rfl rfl rfl ?_ ?_ ?_ ?_; (focus omega); (focus omega); (focus omega))
        exact GL.fact rfl (Ext.refl _) (by rfl)
      · rintro v rfl
        refine St0 ?_
        exact GL.fact rfl (Ext.refl _) (by rfl)
      · (refine GL.indexArr (1) 32 (32) hT rfl rfl rfl rfl rfl rfl rfl rfl ?_ ?_ ?_ ?_; (focus omega); (focus omega); (focus omega))
        exact GL.fact rfl (Ext.refl _) (by rfl)
      · rintro v rfl
        refine St0 ?_
        exact GL.fact rfl (Ext.refl _) (by rfl)
      · rintro v rfl v rfl
        refine GL.buildSlice ([.slice (some ⟨b7, 0, none⟩) 32 32] ++ [.slice (some ⟨b7, 32, none⟩) 32 32]) hT rfl rfl rfl rfl rfl rfl rfl (fillL_two rfl rfl rfl rfl (madeLen _ _)) fun b9 w10 hb9 hB9 he10 => ?_
        exact GL.fact rfl he10 ⟨b9, rfl, hB9⟩
      · rintro v ⟨b9, rfl, hB9⟩
        refine GL.call rfl rfl rfl (tagBytes_call 2 _ [bel.1, sd.1] any w' (bs2 hB9 (rdKey (hBx.ext (he9.trans he'))) (rdKey (hBy.ext (he9.trans he')))) (by simp) (two_len _ _)) ?_
        rintro r w10 ⟨hr, he10⟩
        have := he'.size
        exact GL.fact rfl he10 (by rw [htext]; exact hr.mono (by omega))
      · rintro v hv6
        refine GL.buildSlice [v] hT rfl rfl rfl rfl rfl rfl rfl (fillL_one hv6.some rfl (madeLen _ _)) fun b9 w10 hb9 hB9 he10 => ?_
        exact GL.fact rfl he10 ⟨b9, v, rfl, hB9, Own.ext hv6 he10⟩
    · rintro w9 he9 v0 rfl v1 rfl v2 rfl v3 rfl v4 rfl v5 - v6 - v7 ⟨b9, r, rfl, hB9, hr⟩
      have hw9 : Ext w w9 := hw2.trans he9
      have s9 := hw9.size
      obtain ⟨us, hus, hown⟩ := ho.ext hw9
      rw [hN] at hown
      have hB5' := hB5.ext hw9
      refine GL.append hT rfl rfl rfl rfl rfl rfl rfl rfl rfl rfl hown (S := any) (news := [r]) ⟨_, 1, rfl, Nat.le_refl _, .inr ⟨b9, 0, rfl, hB9.all⟩⟩ rfl (by simpa using hr.one) (by show (N + 1) * 24 ≤ _; omega) (by omega) (by omega) fun r' w10 ho10 hb10 hr10 => ?_
      have hne := own_ne hown hB5' (by decide)
      have hB5'' := hB5'.keep (hb10.block b5 hB5'.lt (fun e => hne e.symm))
      have hus' := (All2.append hus (.cons (hr.mono (show U ≤ w8.heap.size by omega)) .nil)).imp (fun u y h => h)
      have hall := bytesBut hus' hown hb10
      obtain ⟨p', c', rfl⟩ := ho10.shape
      refine GL.store1 hT rfl rfl rfl rfl rfl rfl rfl hB5'' (by simp) fun w11 hc11 hB11 => ?_
      refine St0 ?_
      refine G.end0 rfl rfl rfl ⟨⟨_, hB11, us ++ [r], ?_, ?_⟩, ?_⟩
      · rw [fromL, List.reverse_cons, hbel]
        exact hall.imp fun u y h => own_keep h hB5'' (by decide) hc11
      · rw [fromL, List.reverse_cons, List.length_append, hN]
        exact own_keep ho10 hB5'' (by decide) hc11
      · exact hc11.below (by omega) (hb10.below (fun q hq => (hown.row hq).1) (by omega) (hw9.mono (by omega)))
  · rw [hbit]
    refine St0 ?_
    refine G.drawW 10 12 [0, 2, 2, 0, 0, 0, 0, 0, 0, 0, 3, 1, 4] [(0, iv i), (1, ptr b5 0), (2, ptr b1 0), (4, ptr b4 0), (5, .int .u8 1), (7, ptr b7 0)] (fun k v => match k with
      | 0 => Value.int .u8 1 = v | 1 => Value.int .u8 1 = v | 2 => Value.int .u8 0 = v | 3 => dv bel = v | 4 => ptr b1 66 = v | 5 => Value.slice (some ⟨bs, os, none⟩) x.sides.length cs = v | 6 => iv i = v | 7 => ptr bs (os + i * 32) = v
      | 8 => dv sd = v | 9 => ptr b7 32 = v | 11 => ptr b7 0 = v | _ => True) follows (by kernel_rfl) (by kernel_rfl) (by (repeat (first | exact Fr.sub_nil _ | refine Fr.sub_cons rfl ?_))) ?_
    intro w0 he0
    have hw0 : Ext w w0 := hw7.trans he0
    have hB0 := hB7.ext he0
    have hB1 := blk_put (o := 32) (vs := bel.cells) hB0
    have hB2 := blk_put (o := 0) (vs := sd.cells) hB1
    rw [splice_high _ _ _ _ z32 z32 be32 sd32] at hB2
    refine ⟨World.put w0 b7 32 bel.cells, World.put (World.put w0 b7 32 bel.cells) b7 0 sd.cells, ⟨?_, fun w' => ?_, fun w' => ?_, ?_, ?_, ?_, ?_, ?_, ?_, ?_, ?_, ?_, ?_, trivial⟩, ?_⟩
    · refine St0 ?_
      exact GL.val rfl rfl
    · refine St0 ?_
      exact GL.val rfl rfl
    · rintro v rfl
      refine GL.sub8 1 1 0 rfl rfl rfl rfl (by decide) (by decide) ?_
      exact GL.val rfl rfl
    · refine St1 ((hB47.ext he0).all) ?_
      exact GL.val rfl rfl
    · refine St0 ?_
      exact GL.val rfl rfl
    · rintro v rfl
      refine St1 (hsd.ext hw0) ?_
      exact GL.val rfl rfl
    · refine St0 ?_
      exact GL.val rfl rfl
    · rintro v rfl v rfl
      (refine GL.indexSlice (i) 32 ((os + i * 32)) hT rfl rfl rfl rfl rfl rfl rfl rfl ?_ ?_ ?_ ?_; (focus omega); (focus omega); (focus omega))
      exact GL.val rfl rfl
    · rintro v rfl
      refine St1 (hAs.ext hw0) ?_
      exact GL.val rfl rfl
    · rintro v rfl
      (refine GL.indexArr (1) 32 (32) hT rfl rfl rfl rfl rfl rfl rfl rfl ?_ ?_ ?_ ?_; (focus omega); (focus omega); (focus omega))
      exact GL.val rfl rfl
    · rintro v rfl v rfl
      refine GL.storeX (vs := bel.cells) hT rfl rfl rfl rfl rfl (Dig.len _) (Dig.one _) hB0 (by simp [z32, be32]) ?_
      exact GL.stop (by (repeat (first | exact Fr.sub_nil _ | refine Fr.sub_cons rfl ?_)))
    · rintro v rfl
      (refine GL.indexArr (0) 32 (0) hT rfl rfl rfl rfl rfl rfl rfl rfl ?_ ?_ ?_ ?_; (focus omega); (focus omega); (focus omega))
      exact GL.val rfl rfl
    · rintro v rfl v rfl
      refine GL.storeX (vs := sd.cells) hT rfl rfl rfl rfl rfl (Dig.len _) (Dig.one _) hB1 (by simp [z32, be32, sd32, splice]) ?_
      exact GL.stop (by (repeat (first | exact Fr.sub_nil _ | refine Fr.sub_cons rfl ?_)))
    have hw2 : Ext w (World.put (World.put w0 b7 32 bel.cells) b7 0 sd.cells) := below_put (below_put hw0 (by omega)) (by omega)
    generalize World.put (World.put w0 b7 32 bel.cells) b7 0 sd.cells = w8 at *
    have s8 := hw2.size
    have l78 := hB2.lt
    have htext : upB x i bel sd = tagB 2 [sd.1, bel.1] := by simp [upB, hbit]
    have hBx : At any w8 b7 0 sd.cells := hB2.all.sub [] sd.cells (q := bel.cells) rfl rfl
    have hBy : At any w8 b7 32 bel.cells := hB2.all.sub sd.cells bel.cells (q := []) (by simp) (by rw [Dig.len])
    refine St0 ?_
    refine G.draw 8 [(1, ptr b5 0), (7, ptr b7 0)] (fun k v w' => match k with
      | 0 => Value.slice (some ⟨bo, oo, none⟩) N c = v | 1 => ptr b7 0 = v | 2 => Value.slice (some ⟨b7, 0, none⟩) 32 32 = v | 3 => ptr b7 32 = v | 4 => Value.slice (some ⟨b7, 32, none⟩) 32 32 = v
      | 5 => ∃ b, Value.slice (some ⟨b, 0, none⟩) 2 2 = v ∧ Blk w' b 32 [.slice (some ⟨b7, 0, none⟩) 32 32, .slice (some ⟨b7, 32, none⟩) 32 32]
      | 6 => OwnB w8.heap.size w' v (upB x i bel sd)
      | _ => ∃ b r, Value.slice (some ⟨b, 0, none⟩) 1 1 = v ∧ Blk w' b 32 [r] ∧ OwnB w8.heap.size w' r (upB x i bel sd)) follows (by kernel_rfl) (by kernel_rfl) (by kernel_rfl) (by kernel_rfl) (by (repeat (first | exact Fr.sub_nil _ | refine Fr.sub_cons rfl ?_))) ?_ ?_ ?_
    · intro k v w1 w2 he h
      rcases k with _ | _ | _ | _ | _ | _ | _ | k
      · exact h
      · exact h
      · exact h
      · exact h
      · exact h
      · obtain ⟨b, h1, h2⟩ := h; exact ⟨b, h1, h2.ext he⟩
      · exact Own.ext h he
      · obtain ⟨b, r, h1, h2, h3⟩ := h; exact ⟨b, r, h1, h2.ext he, Own.ext h3 he⟩
    · intro w9 he9
      have hs9 := he9.size
      refine ⟨fun w' he' => ?_, fun w' he' => ?_, fun w' he' => ?_, fun w' he' => ?_, fun w' he' => ?_, fun w' he' => ?_, fun w' he' => ?_, fun w' he' => ?_, trivial⟩
      · refine St1 ((hB5.ext (hw2.trans (he9.trans he'))).all) ?_
        exact GL.fact rfl (Ext.refl _) (by rfl)
      · (refine GL.indexArr (0) 32 (0) hT rfl rfl rfl rfl rfl rfl rfl rfl ?_ ?_ ?_ ?_; (focus omega); (focus omega); (focus omega))
        exact GL.fact rfl (Ext.refl _) (by rfl)
      · rintro v rfl
        refine St0 ?_
        exact GL.fact rfl (Ext.refl _) (by rfl)
      · (refine GL.indexArr (1) 32 (32) hT rfl rfl rfl rfl rfl rfl rfl rfl ?_ ?_ ?_ ?_; (focus omega); (focus omega); (focus omega))
        exact GL.fact rfl (Ext.refl _) (by rfl)
      · rintro v rfl
        refine St0 ?_
        exact GL.fact rfl (Ext.refl _) (by rfl)
      · rintro v rfl v rfl
        refine GL.buildSlice ([.slice (some ⟨b7, 0, none⟩) 32 32] ++ [.slice (some ⟨b7, 32, none⟩) 32 32]) hT rfl rfl rfl rfl rfl rfl rfl (fillL_two rfl rfl rfl rfl (madeLen _ _)) fun b9 w10 hb9 hB9 he10 => ?_
        exact GL.fact rfl he10 ⟨b9, rfl, hB9⟩
      · rintro v ⟨b9, rfl, hB9⟩
        refine GL.call rfl rfl rfl (tagBytes_call 2 _ [sd.1, bel.1] any w' (bs2 hB9 (rdKey (hBx.ext (he9.trans he'))) (rdKey (hBy.ext (he9.trans he')))) (by simp) (two_len _ _)) ?_
        rintro r w10 ⟨hr, he10⟩
        have := he'.size
        exact GL.fact rfl he10 (by rw [htext]; exact hr.mono (by omega))
      · rintro v hv6
        refine GL.buildSlice [v] hT rfl rfl rfl rfl rfl rfl rfl (fillL_one hv6.some rfl (madeLen _ _)) fun b9 w10 hb9 hB9 he10 => ?_
        exact GL.fact rfl he10 ⟨b9, v, rfl, hB9, Own.ext hv6 he10⟩
    · rintro w9 he9 v0 rfl v1 rfl v2 rfl v3 rfl v4 rfl v5 - v6 - v7 ⟨b9, r, rfl, hB9, hr⟩
      have hw9 : Ext w w9 := hw2.trans he9
      have s9 := hw9.size
      obtain ⟨us, hus, hown⟩ := ho.ext hw9
      rw [hN] at hown
      have hB5' := hB5.ext hw9
      refine GL.append hT rfl rfl rfl rfl rfl rfl rfl rfl rfl rfl hown (S := any) (news := [r]) ⟨_, 1, rfl, Nat.le_refl _, .inr ⟨b9, 0, rfl, hB9.all⟩⟩ rfl (by simpa using hr.one) (by show (N + 1) * 24 ≤ _; omega) (by omega) (by omega) fun r' w10 ho10 hb10 hr10 => ?_
      have hne := own_ne hown hB5' (by decide)
      have hB5'' := hB5'.keep (hb10.block b5 hB5'.lt (fun e => hne e.symm))
      have hus' := (All2.append hus (.cons (hr.mono (show U ≤ w8.heap.size by omega)) .nil)).imp (fun u y h => h)
      have hall := bytesBut hus' hown hb10
      obtain ⟨p', c', rfl⟩ := ho10.shape
      refine GL.store1 hT rfl rfl rfl rfl rfl rfl rfl hB5'' (by simp) fun w11 hc11 hB11 => ?_
      refine St0 ?_
      refine G.end0 rfl rfl rfl ⟨⟨_, hB11, us ++ [r], ?_, ?_⟩, ?_⟩
      · rw [fromL, List.reverse_cons, hbel]
        exact hall.imp fun u y h => own_keep h hB5'' (by decide) hc11
      · rw [fromL, List.reverse_cons, List.length_append, hN]
        exact own_keep ho10 hB5'' (by decide) hc11
      · exact hc11.below (by omega) (hb10.below (fun q hq => (hown.row hq).1) (by omega) (hw9.mono (by omega)))

/-! the list -/
noncomputable def inputsP (x : Prf) : List Bytes := if mayB x then fromP x else []
theorem inputs_call (x : Prf) (u s : Value) (S : Where) (w : World) (h : PrfM S w x u s) (hv : x.val.length ≤ 1000) (hsl : x.sides.length ≤ 300) (hK : Kt w) :
    Does Tryd.prog 28 #[prv x u s] w fun r w' => ∃ v, r = .tuple #[v, iv (badE (mayB x))] ∧ OwnBs w.heap.size w' v (inputsP x) ∧ Ext w w' := by
  refine call_walk Tryd.func28 (by kernel_rfl) rfl Tryd.ntmps28 rfl ?_
  refine St0 ?_
  refine GL.box rfl rfl rfl rfl fun b1 w1 hb1 hB1 he1 => ?_
  have l1 := hB1.lt
  refine St0 ?_
  refine GL.loadN hT rfl rfl rfl rfl rfl hB1.all (pcells_len x u s) ?_
  refine GL.call rfl rfl rfl (check_call x u s S w1 (h.ext he1)) ?_
  rintro r w2 ⟨rfl, he2⟩
  have s1 := he1.size
  have s2 := he2.size
  cases hok : mayB x
  · have e1 : badE false = 8 := rfl
    rw [e1]
    refine St0 ?_
    exact G.ret2 rfl rfl rfl rfl rfl ⟨_, rfl, by rw [inputsP, hok]; exact OwnBs.bare _ _ none, he1.trans he2⟩
  have e1 : badE true = 0 := rfl
  rw [e1]
  replace hB1 := hB1.ext he2
  refine St0 ?_
  refine GL.loadN hT rfl rfl rfl rfl rfl hB1.all (pcells_len x u s) ?_
  refine GL.call rfl rfl rfl (vend_call x u s S w2 (h.ext (he1.trans he2)) hv) ?_
  rintro r w3 ⟨hr, he3⟩
  have s3 := he3.size
  refine GL.buildSlice [r] hT rfl rfl rfl rfl rfl rfl rfl (fillL_one hr.some rfl (madeLen _ _)) fun b16 w4 hb16 hB16 he4 => ?_
  have s4 := he4.size
  have l16 := hB16.lt
  refine GL.alloc hT rfl rfl rfl fun b5 w5 hb5 hB5 he5 => ?_
  have l5 := hB5.lt
  have s5 := he5.size
  refine GL.store1 hT rfl rfl rfl rfl rfl rfl rfl hB5 (by show 0 < 1; omega) fun w6 hc6 hB6 => ?_
  have hw3 := he1.trans (he2.trans he3)
  have hw5 := hw3.trans (he4.trans he5)
  have hw6 : Ext w w6 := hc6.below (by omega) hw5
  have hB1' : Blk w6 b1 35 (pcells x u s) := (((hB1.ext he3).ext he4).ext he5).chg hc6 (by omega)
  have hO : OwnBs (b1 + 1) w6 (.slice (some ⟨b16, 0, none⟩) 1 1) (fromL x x.sides.length []).reverse := by
    refine ⟨[r], .cons ?_ .nil, rfl, .inr ⟨b16, 1, [], rfl, by omega, Nat.le_refl _, ?_, rfl⟩⟩
    · exact Own.keep (Own.mono ((hr.ext he4).ext he5) (by omega)) (fun g hg hl => hc6.block g (fun e => by have := ((hr.ext he4).row hg).2; omega)) (by decide)
    · rw [List.append_nil]; exact (hB16.ext he5).chg hc6 (by omega)
  refine St1 ((pat hB1'.all).2.2.2.2) ?_
  obtain ⟨ps, cs, rfl, hcs⟩ := RdF.isSlice h.sides
  refine St0 ?_
  have hss : ∀ j, j ≤ x.sides.length → (x.sides.drop j).length = x.sides.length - j := fun j hj => by rw [List.length_drop]
  refine G.sub (f' := [(22, iv ((0 : Nat) : Int)), (21, iv (x.sides.length : Nat)), (7, .func (.func 90) #[] #[ptr b5 0, ptr b1 0]), (6, iv (x.sides.length : Nat)), (5, ptr b5 0), (1, ptr b1 0)]) (by (repeat (first | exact Fr.sub_nil _ | refine Fr.sub_cons rfl ?_))) ?_
  refine G.rounds (α := Nat) (fun j f w' => j ≤ x.sides.length ∧ Ext w w' ∧ Blk w' b1 35 (pcells x u (.slice ps x.sides.length cs)) ∧ (∃ o, Blk w' b5 38 [o] ∧ OwnBs (b1 + 1) w' o (fromL x (x.sides.length - j) (x.sides.drop (x.sides.length - j))).reverse) ∧
    f = [(22, iv j), (21, iv (x.sides.length : Nat)), (7, .func (.func 90) #[] #[ptr b5 0, ptr b1 0]), (6, iv (x.sides.length : Nat)), (5, ptr b5 0), (1, ptr b1 0)]) (fun j => x.sides.length - j) ?round 0 ⟨by omega, hw6, hB1', ⟨_, hB6, by rw [Nat.sub_zero, List.drop_length]; exact hO⟩, rfl⟩
  clear hB1 hB1' hO hB16 hB5 hB6 hc6
  rintro j f w7 ⟨hj, he7, hB1, ⟨o, hB5, hO⟩, rfl⟩ again
  have hs7 := he7.size
  have l57 := hB5.lt
  by_cases hlt : (j : Int) < x.sides.length
  · obtain ⟨i, hi⟩ : ∃ i : Nat, x.sides.length = i + 1 + j := ⟨x.sides.length - 1 - j, by omega⟩
    have e3 : (x.sides.length : Int) - 1 - (j : Int) = (i : Int) := by omega
    obtain ⟨sd, hsd⟩ : ∃ sd, x.sides[i]? = some sd := ⟨_, List.getElem?_eq_getElem (by omega)⟩
    have hi256 : i < 256 := by
      have : x.sides.length ≤ 256 := by simp only [mayB, Bool.and_eq_true, decide_eq_true_eq] at hok; exact hok.1
      omega
    have hd : x.sides.drop i = sd :: x.sides.drop (i + 1) := by
      obtain ⟨hlt', rfl⟩ := List.getElem?_eq_some_iff.1 hsd
      exact List.drop_eq_getElem_cons hlt'
    rw [show x.sides.length - j = i + 1 by omega] at hO
    refine St0 ?_
    rw [e3]
    refine GL.callv (first := []) (cap := [ptr b5 0, ptr b1 0]) rfl rfl rfl rfl (up_call x u _ i sd _ b1 b5 o (b1 + 1) w7 hsd hi256 rfl ((h.ext he7).imp fun _ _ _ => trivial) hB1.all (by omega) (by omega) hB5 hO (by rw [List.length_drop]; omega) hv (hK.ext he7)) ?_
    rintro r' w8 ⟨⟨o', hB8, hO8⟩, hbel⟩
    refine St0 ?_
    refine G.sub (by (repeat (first | exact Fr.sub_nil _ | refine Fr.sub_cons rfl ?_))) (again (j + 1) _ _ (by omega) ⟨by omega, Below.trans he7 (hbel.mono (by omega)), hB1.keep (hbel.block b1 (by omega)), ⟨o', hB8, ?_⟩, rfl⟩)
    rw [show x.sides.length - (j + 1) = i by omega, hd]
    exact hO8
  · obtain rfl : j = x.sides.length := by omega
    rw [Nat.sub_self, List.drop_zero] at hO
    refine St1 (hB5.all) ?_
    refine GL.call rfl rfl rfl (reverse_call o _ (b1 + 1) w7 hO (by rw [List.length_reverse, fromL_len]; omega)) ?_
    rintro r' w8 ⟨hO8, hbut⟩
    rw [List.reverse_reverse] at hO8
    obtain ⟨us, hus, hown⟩ := hO
    have hB8 := hB5.keep (hbut.block b5 hB5.lt (fun e => own_ne hown hB5 (by decide) e.symm))
    refine St1 (hB8.all) ?_
    exact G.ret2 rfl rfl rfl rfl rfl ⟨_, rfl, by rw [inputsP, hok]; exact hO8.mono (by omega), hbut.below (fun q hq => by have := (hown.row hq).1; omega) (by omega) he7⟩
theorem inputsP_head {x : Prf} (h : mayB x = true) : (inputsP x)[0]? = some ((fromP x).headD []) ∧ (inputsP x).length = x.sides.length + 1 := by
  rw [inputsP, h]
  exact ⟨fromL_head x 0 _, fromL_len x 0 _⟩
noncomputable def rootV (x : Prf) : Dig := if mayB x then shaD ((fromP x).headD []) else Dig.zero
theorem vroot_call (x : Prf) (u s : Value) (S : Where) (w : World) (h : PrfM S w x u s) (hv : x.val.length ≤ 1000) (hsl : x.sides.length ≤ 300) (hK : Kt w) :
    Does Tryd.prog 30 #[prv x u s] w fun r w' => r = .tuple #[dv (rootV x), iv (badE (mayB x))] ∧ Ext w w' := by
  refine call_walk Tryd.func30 (by kernel_rfl) rfl Tryd.ntmps30 rfl ?_
  refine St0 ?_
  refine GL.box rfl rfl rfl rfl fun b1 w1 hb1 hB1 he1 => ?_
  refine GL.alloc hT rfl rfl rfl fun b2 w2 hb2 hB2 he2 => ?_
  have l2 := hB2.lt
  have he12 := he1.trans he2
  have s12 := he12.size
  have s1 := he1.size
  replace hB1 := hB1.ext he2
  refine St0 ?_
  refine GL.loadN hT rfl rfl rfl rfl rfl hB1.all (pcells_len x u s) ?_
  refine GL.call rfl rfl rfl (inputs_call x u s S w2 (h.ext he12) hv hsl (hK.ext he12)) ?_
  rintro r w3 ⟨v, rfl, hO, he3⟩
  replace hB2 := hB2.ext he3
  have he13 := he12.trans he3
  cases hok : mayB x
  · have e1 : badE false = 8 := rfl
    rw [e1]
    refine St0 ?_
    refine GL.storeVar hT rfl rfl rfl rfl rfl (Dig.len _) (Dig.one _) hB2 (by rw [Dig.len]; rfl) fun w4 hc4 hB4 => ?_
    refine St0 ?_
    exact G.retNt rfl rfl hT rfl rfl rfl rfl rfl hB4.all (Dig.len _) ⟨by rw [rootV, hok]; rfl, hc4.below (by omega) he13⟩
  have e1 : badE true = 0 := rfl
  rw [e1]
  obtain ⟨hh, hl⟩ := inputsP_head hok
  obtain ⟨bo, oo, co, uo, hvo, huo, hAo⟩ := hO.rd.elem hh
  cases hvo
  have hsmall : ((fromP x).headD []).length ≤ 2000 := fromL_small x hv 0 x.sides _ (List.mem_of_getElem? (fromL_head x 0 _))
  refine St0 ?_
  (refine GL.indexSlice (0) 1 (oo) hT rfl rfl rfl rfl rfl rfl rfl rfl ?_ ?_ ?_ ?_; (focus omega); (focus omega); (focus omega))
  refine St1 (hAo) ?_
  refine GL.buildSlice [uo] hT rfl rfl rfl rfl rfl rfl rfl (fillL_one (RdF.some huo) rfl (madeLen _ _)) fun b4 w4 hb4 hB4 he4 => ?_
  refine GL.call rfl rfl rfl (shaOf_call _ _ any w4 (bs1 hB4 (RdB.ext huo he4)) (by omega) (hK.ext (he13.trans he4))) ?_
  rintro r w5 ⟨rfl, he5⟩
  have he15 := he13.trans (he4.trans he5)
  replace hB2 := hB2.ext he4
  replace hB2 := hB2.ext he5
  refine GL.storeVar hT rfl rfl rfl rfl rfl (Dig.len _) (Dig.one _) hB2 (by rw [Dig.len]; rfl) fun w6 hc6 hB6 => ?_
  refine St0 ?_
  exact G.retNt rfl rfl hT rfl rfl rfl rfl rfl hB6.all (Dig.len _) ⟨by rw [rootV, hok]; rfl, hc6.below (by omega) he15⟩
noncomputable def fitsB (x : Prf) (d : Dig) : Bool := mayB x && decide (rootV x = d)
theorem vfits_call (x : Prf) (d : Dig) (u s : Value) (S : Where) (w : World) (h : PrfM S w x u s) (hv : x.val.length ≤ 1000) (hsl : x.sides.length ≤ 300) (hK : Kt w) :
    Does Tryd.prog 33 #[prv x u s, dv d] w fun r w' => r = .bool (fitsB x d) ∧ Ext w w' := by
  refine call_walk Tryd.func33 (by kernel_rfl) rfl Tryd.ntmps33 rfl ?_
  refine St0 ?_
  refine GL.box rfl rfl rfl rfl fun b1 w1 hb1 hB1 he1 => ?_
  refine GL.box rfl rfl rfl rfl fun b2 w2 hb2 hB2 he2 => ?_
  have he12 := he1.trans he2
  replace hB1 := hB1.ext he2
  refine St0 ?_
  refine GL.loadN hT rfl rfl rfl rfl rfl hB1.all (pcells_len x u s) ?_
  refine GL.call rfl rfl rfl (vroot_call x u s S w2 (h.ext he12) hv hsl (hK.ext he12)) ?_
  rintro r w3 ⟨rfl, he3⟩
  refine St0 ?_
  refine GL.alloc hT rfl rfl rfl fun b5 w4 hb5 hB5 he4 => ?_
  have l5 := hB5.lt
  have l2 := hB2.lt
  have s3 := he3.size
  have he14 := he12.trans (he3.trans he4)
  have s12 := he12.size
  refine GL.storeVar hT rfl rfl rfl rfl rfl (Dig.len _) (Dig.one _) hB5 (by rw [Dig.len]; rfl) fun w5 hc5 hB5 => ?_
  replace hB2 := ((hB2.ext he3).ext he4).chg hc5 (by omega)
  have he15 : Ext w w5 := hc5.below (by omega) he14
  cases hok : mayB x
  · have e1 : badE false = 8 := rfl
    rw [e1]
    refine St2 (hB5.all) (hB2.all) ?_
    exact G.ret1 rfl rfl rfl rfl ⟨by rw [fitsB, hok]; rfl, he15⟩
  have e1 : badE true = 0 := rfl
  rw [e1]
  by_cases hd : rootV x = d
  · refine St2 (hB5.all) (hB2.all) ?_
    exact G.ret1 rfl rfl rfl rfl ⟨by simp [fitsB, hok, hd], he15⟩
  · refine St2 (hB5.all) (hB2.all) ?_
    exact G.ret1 rfl rfl rfl rfl ⟨by simp [fitsB, hok, hd], he15⟩
end Go.Proofs.YtefneilaongpbaaDoor
/-
  The document's list of what is digested and its root; the law of what a root tells.
-/
set_option linter.unusedVariables false
set_option linter.unusedSimpArgs false
set_option maxRecDepth 100000
set_option maxHeartbeats 4000000
namespace Go.Proofs.YtefneilaongpbaaDoor
open Go Go.Bd Go.RowKit
attribute [local irreducible] G GL GQ

theorem from_call (x : Prf) (u s : Value) (hen3 : x.en = 0 ∨ x.en = 1 ∨ x.en = 2) (hv : x.val.length ≤ 1000) (hsl : x.sides.length ≤ 256) : ∀ (m i : Nat) (S : Where) (w : World), x.sides.length - i = m → i ≤ x.sides.length → PrfM S w x u s →
    Does Tryd.prog 95 #[prv x u s, iv i] w fun r w' => OwnBs w.heap.size w' r (fromL x i (x.sides.drop i)) ∧ Ext w w' := by
  intro m
  induction m with
  | zero =>
    intro i S w hm hi h
    obtain rfl : i = x.sides.length := by omega
    refine call_walk Tryd.func95 (by kernel_rfl) rfl Tryd.ntmps95 rfl ?_
    obtain ⟨pu, cu, rfl, hcu⟩ := RdF.isSlice h.val
    obtain ⟨ps, cs, rfl, hcs⟩ := RdF.isSlice h.sides
    refine St0 ?_
    refine GL.box rfl rfl rfl rfl fun b w1 hb hB he => ?_
    obtain ⟨hk, hen, ho, hvv, hs⟩ := pat hB.all
    have s1 := he.size
    have l1 := hB.lt
    refine St2 (hs) (hen) ?_
    rw [List.drop_length]
    by_cases h0 : (x.en.toNat : Int) = 0
    · have h0' := en0.1 h0
      refine St0 ?_
      refine GL.call rfl rfl rfl (refBytes_call 0 (.slice none 0 0) [] any w1 (bs0 _ _ _) (by simp) (by decide)) ?_
      rintro r w2 ⟨hr, he2⟩
      refine GL.buildSlice [r] hT rfl rfl rfl rfl rfl rfl rfl (fillL_one hr.some rfl (madeLen _ _)) fun b3 w3 hb3 hB3 he3 => ?_
      have s2 := he2.size
      refine St0 ?_
      refine G.ret1 rfl rfl rfl rfl ⟨⟨[r], .cons ?_ .nil, rfl, .inr ⟨b3, 1, [], rfl, by omega, Nat.le_refl _, by rw [List.append_nil]; exact hB3, rfl⟩⟩, he.trans (he2.trans he3)⟩
      rw [lowF, if_neg (by rw [h0']; decide), if_neg (by rw [h0']; decide)]
      exact (hr.ext he3).mono (by omega)
    have h0' := mt en0.2 h0
    refine St1 (hk) ?_
    refine GL.alloc hT rfl rfl rfl fun b5 w2 hb5 hB5 he2 => ?_
    have l5 := hB5.lt
    have s2 := he2.size
    refine GL.storeVar hT rfl rfl rfl rfl rfl (Dig.len _) (Dig.one _) hB5 (by rw [Dig.len]; rfl) fun w3 hc3 hB5 => ?_
    replace hB := (hB.ext he2).chg hc3 (by omega)
    have he3 : Ext w w3 := hc3.below (by omega) (he.trans he2)
    have s3 := he3.size
    have l5' := hB5.lt
    obtain ⟨hk, hen, ho, hvv, hs⟩ := pat hB.all
    refine St1 (hen) ?_
    by_cases h2 : (x.en.toNat : Int) = 2
    · have h2' := en2.1 h2
      have hlow : lowF x = tagB 1 [x.other.1, x.val] := by rw [lowF, if_neg (by rw [h2']; decide), if_pos h2']
      refine St1 (ho) ?_
      refine GL.storeVar hT rfl rfl rfl rfl rfl (Dig.len _) (Dig.one _) hB5 (by rw [Dig.len, Dig.len]) fun w3' hc3' hB5 => ?_
      replace hB := hB.chg hc3' (by omega)
      replace he3 : Ext w w3' := hc3'.below (by omega) he3
      replace s3 := he3.size
      obtain ⟨hk, hen, ho, hvv, hs⟩ := pat hB.all
      refine St0 ?_
      refine G.quietTail 3 follows (by kernel_rfl) (by kernel_rfl) (by kernel_rfl) (by kernel_rfl) ?_
      refine QSt1 (hvv) ?_
      refine GQ.tail fun w4 he4 => ?_
      refine GL.buildSlice ([.slice (some ⟨b5, 0, none⟩) 32 32] ++ [.slice pu x.val.length cu]) hT rfl rfl rfl rfl rfl rfl rfl (fillL_two rfl rfl rfl rfl (madeLen _ _)) fun b6 w6 hb6 hB6 he6 => ?_
      have he46 := he4.trans he6
      refine GL.call rfl rfl rfl (refBytes_call 1 _ [x.other.1, x.val] any w6 (bs2 hB6 (rdKey (hB5.all.ext he46)) (RdB.ext h.val (he3.trans he46))) (by simp) (leaf_len _ hv)) ?_
      rintro r w7 ⟨hr, he7⟩
      refine GL.buildSlice [r] hT rfl rfl rfl rfl rfl rfl rfl (fillL_one hr.some rfl (madeLen _ _)) fun b8 w8 hb8 hB8 he8 => ?_
      have s4 := he46.size
      have s7 := he7.size
      refine St0 ?_
      refine G.ret1 rfl rfl rfl rfl ⟨⟨[r], .cons ?_ .nil, rfl, .inr ⟨b8, 1, [], rfl, by omega, Nat.le_refl _, by rw [List.append_nil]; exact hB8, rfl⟩⟩, he3.trans (he46.trans (he7.trans he8))⟩
      rw [hlow]
      exact (hr.ext he8).mono (by omega)
    · have h1' : x.en = 1 := by
        rcases hen3 with h | h | h
        · exact absurd h h0'
        · exact h
        · exact absurd h (mt en2.2 h2)
      have hlow : lowF x = tagB 1 [x.key.1, x.val] := by rw [lowF, if_pos h1']
      refine St0 ?_
      refine G.quietTail 3 follows (by kernel_rfl) (by kernel_rfl) (by kernel_rfl) (by kernel_rfl) ?_
      refine QSt1 (hvv) ?_
      refine GQ.tail fun w4 he4 => ?_
      refine GL.buildSlice ([.slice (some ⟨b5, 0, none⟩) 32 32] ++ [.slice pu x.val.length cu]) hT rfl rfl rfl rfl rfl rfl rfl (fillL_two rfl rfl rfl rfl (madeLen _ _)) fun b6 w6 hb6 hB6 he6 => ?_
      have he46 := he4.trans he6
      refine GL.call rfl rfl rfl (refBytes_call 1 _ [x.key.1, x.val] any w6 (bs2 hB6 (rdKey (hB5.all.ext he46)) (RdB.ext h.val (he3.trans he46))) (by simp) (leaf_len _ hv)) ?_
      rintro r w7 ⟨hr, he7⟩
      refine GL.buildSlice [r] hT rfl rfl rfl rfl rfl rfl rfl (fillL_one hr.some rfl (madeLen _ _)) fun b8 w8 hb8 hB8 he8 => ?_
      have s4 := he46.size
      have s7 := he7.size
      refine St0 ?_
      refine G.ret1 rfl rfl rfl rfl ⟨⟨[r], .cons ?_ .nil, rfl, .inr ⟨b8, 1, [], rfl, by omega, Nat.le_refl _, by rw [List.append_nil]; exact hB8, rfl⟩⟩, he3.trans (he46.trans (he7.trans he8))⟩
      rw [hlow]
      exact (hr.ext he8).mono (by omega)
  | succ m ih =>
    intro i S w hm hi h
    have hilt : i < x.sides.length := by omega
    obtain ⟨sd, hsd⟩ : ∃ sd, x.sides[i]? = some sd := ⟨_, List.getElem?_eq_getElem hilt⟩
    have hd : x.sides.drop i = sd :: x.sides.drop (i + 1) := by
      obtain ⟨hlt', rfl⟩ := List.getElem?_eq_some_iff.1 hsd
      exact List.drop_eq_getElem_cons hlt'
    refine call_walk Tryd.func95 (by kernel_rfl) rfl Tryd.ntmps95 rfl ?_
    obtain ⟨bs, os, cs, rfl, hAs⟩ := RdD.elem h.sides hsd
    have hne : ¬ (i : Int) = x.sides.length := by omega
    refine St0 ?_
    refine GL.box rfl rfl rfl rfl fun b w1 hb hB he => ?_
    obtain ⟨hk, hen, ho, hvv, hs⟩ := pat hB.all
    have s1 := he.size
    refine St1 (hs) ?_
    refine GL.loadN hT rfl rfl rfl rfl rfl hB.all (pcells_len x u _) ?_
    refine St0 ?_
    rw [show (i : Int) + 1 = ((i + 1 : Nat) : Int) by omega]
    refine GL.call rfl rfl rfl (ih (i + 1) S w1 (by omega) (by omega) (h.ext he)) ?_
    rintro r w2 ⟨hO, he2⟩
    have s2 := he2.size
    have hl := fromL_len x (i + 1) (x.sides.drop (i + 1))
    have hsmall := fromL_small x hv (i + 1) (x.sides.drop (i + 1))
    have hhead := fromL_head x (i + 1) (x.sides.drop (i + 1))
    have hbl := hsmall _ (List.mem_of_getElem? hhead)
    rw [hd]
    have hfr : fromL x i (sd :: x.sides.drop (i + 1)) = upB x i (shaD ((fromL x (i + 1) (x.sides.drop (i + 1))).headD [])) sd :: fromL x (i + 1) (x.sides.drop (i + 1)) := rfl
    rw [hfr]
    have hdl : (x.sides.drop (i + 1)).length ≤ 256 := by rw [List.length_drop]; omega
    generalize fromL x (i + 1) (x.sides.drop (i + 1)) = L at *
    obtain ⟨bo, oo, co, uo, hvo, huo, hAo⟩ := hO.rd.elem hhead
    subst hvo
    refine St0 ?_
    (refine GL.indexSlice (0) 1 (oo) hT rfl rfl rfl rfl rfl rfl rfl rfl ?_ ?_ ?_ ?_; (focus omega); (focus omega); (focus omega))
    refine St1 (hAo) ?_
    refine GL.call rfl rfl rfl (refSum_call uo _ _ w2 huo (by omega)) ?_
    rintro r w3 ⟨rfl, he3⟩
    have s3 := he3.size
    generalize shaD (L.headD []) = bel at *
    refine GL.alloc hT rfl rfl rfl fun b7 w4 hb7 hB7 he4 => ?_
    have l7 := hB7.lt
    have s4 := he4.size
    refine GL.storeVar hT rfl rfl rfl rfl rfl (Dig.len _) (Dig.one _) hB7 (by rw [Dig.len]; rfl) fun w5 hc5 hB7 => ?_
    have e5 : Ext w1 w5 := hc5.below (by omega) (he2.trans (he3.trans he4))
    have l7' := hB7.lt
    refine St1 (hs.ext e5) ?_
    (refine GL.indexSlice (i) 32 ((os + i * 32)) hT rfl rfl rfl rfl rfl rfl rfl rfl ?_ ?_ ?_ ?_; (focus omega); (focus omega); (focus omega))
    refine St1 (hAs.ext (he.trans e5)) ?_
    refine GL.alloc hT rfl rfl rfl fun b8 w6 hb8 hB8 he6 => ?_
    have l8 := hB8.lt
    replace hB7 := hB7.ext he6
    refine GL.storeVar hT rfl rfl rfl rfl rfl (Dig.len _) (Dig.one _) hB8 (by rw [Dig.len]; rfl) fun w7 hc7 hB8 => ?_
    replace hB7 := hB7.chg hc7 (by omega)
    have e7 : Ext w1 w7 := hc7.below (by omega) (e5.trans he6)
    have e27 : Ext w2 w7 := hc7.below (by omega) ((show Ext w2 w5 from hc5.below (by omega) (he3.trans he4)).trans he6)
    have l77 := hB7.lt
    have l87 := hB8.lt
    have n78 : b7 ≠ b8 := by omega
    refine St1 (hk.ext e7) ?_
    refine GL.call rfl rfl rfl (refAt_call x.key i (by omega) w7) ?_
    rintro r w8 ⟨rfl, he8⟩
    replace hB7 := hB7.ext he8
    replace hB8 := hB8.ext he8
    have e28 : Ext w2 w8 := e27.trans he8
    have hbl' := x.key.bit_lt i
    by_cases hbit : x.key.bit i = 1
    · have : ((x.key.bit i : Nat) : Int) = 1 := by omega
      have htext : upB x i bel sd = tagB 2 [sd.1, bel.1] := by simp [upB, hbit]
      refine St2 (hB7.all) (hB8.all) ?_
      refine GL.storeVar hT rfl rfl rfl rfl rfl (Dig.len _) (Dig.one _) hB7 (by rw [Dig.len, Dig.len]) fun w81 hc81 hB7 => ?_
      replace hB8 := hB8.chg hc81 (by omega)
      refine GL.storeVar hT rfl rfl rfl rfl rfl (Dig.len _) (Dig.one _) hB8 (by rw [Dig.len, Dig.len]) fun w82 hc82 hB8 => ?_
      replace hB7 := hB7.chg hc82 n78
      have e28' : Ext w2 w82 := hc82.below (by omega) (hc81.below (by omega) e28)
      have hOw := hO.ext e28'
      have s8 := e28'.size
      refine St0 ?_
      refine G.draw 6 [(6, .slice (some ⟨bo, oo, none⟩) L.length co), (7, ptr b7 0), (8, ptr b8 0)] (fun k v w' => match k with
        | 0 => Value.slice (some ⟨b7, 0, none⟩) 32 32 = v | 1 => Value.slice (some ⟨b8, 0, none⟩) 32 32 = v
        | 2 => ∃ b, Value.slice (some ⟨b, 0, none⟩) 2 2 = v ∧ Blk w' b 32 [.slice (some ⟨b7, 0, none⟩) 32 32, .slice (some ⟨b8, 0, none⟩) 32 32]
        | 3 => OwnB w2.heap.size w' v (upB x i bel sd)
        | 4 => ∃ b r, Value.slice (some ⟨b, 0, none⟩) 1 1 = v ∧ w2.heap.size ≤ b ∧ Blk w' b 32 [r] ∧ OwnB w2.heap.size w' r (upB x i bel sd)
        | _ => Value.slice (some ⟨bo, oo, none⟩) L.length co = v) follows (by kernel_rfl) (by kernel_rfl) (by kernel_rfl) (by kernel_rfl) (by (repeat (first | exact Fr.sub_nil _ | refine Fr.sub_cons rfl ?_))) ?_ ?_ ?_
      · intro k v w1 w2 he h
        rcases k with _ | _ | _ | _ | _ | k
        · exact h
        · exact h
        · obtain ⟨b, h1, h2⟩ := h; exact ⟨b, h1, h2.ext he⟩
        · exact Own.ext h he
        · obtain ⟨b, r, h1, h0, h2, h3⟩ := h; exact ⟨b, r, h1, h0, h2.ext he, Own.ext h3 he⟩
        · exact h
      · intro w9 he9
        have hs9 := he9.size
        refine ⟨fun w' he' => ?_, fun w' he' => ?_, fun w' he' => ?_, fun w' he' => ?_, fun w' he' => ?_, fun w' he' => ?_, trivial⟩
        · refine St0 ?_
          exact GL.fact rfl (Ext.refl _) (by rfl)
        · refine St0 ?_
          exact GL.fact rfl (Ext.refl _) (by rfl)
        · rintro v rfl v rfl
          refine GL.buildSlice ([.slice (some ⟨b7, 0, none⟩) 32 32] ++ [.slice (some ⟨b8, 0, none⟩) 32 32]) hT rfl rfl rfl rfl rfl rfl rfl (fillL_two rfl rfl rfl rfl (madeLen _ _)) fun b9 w10 hb9 hB9 he10 => ?_
          exact GL.fact rfl he10 ⟨b9, rfl, hB9⟩
        · rintro v ⟨b9, rfl, hB9⟩
          refine GL.call rfl rfl rfl (refBytes_call 2 _ [sd.1, bel.1] any w' (bs2 hB9 (rdKey (hB7.all.ext (he9.trans he'))) (rdKey (hB8.all.ext (he9.trans he')))) (by simp) (two_len _ _)) ?_
          rintro r w10 ⟨hr, he10⟩
          have := he'.size
          exact GL.fact rfl he10 (by rw [htext]; exact hr.mono (by omega))
        · rintro v hv6
          have := he'.size
          refine GL.buildSlice [v] hT rfl rfl rfl rfl rfl rfl rfl (fillL_one hv6.some rfl (madeLen _ _)) fun b9 w10 hb9 hB9 he10 => ?_
          exact GL.fact rfl he10 ⟨b9, v, rfl, by omega, hB9, Own.ext hv6 he10⟩
        · refine St0 ?_
          exact GL.fact rfl (Ext.refl _) (by rfl)
      · rintro w9 he9 v0 rfl v1 rfl v2 - v3 - v4 ⟨b9, r, rfl, hb9, hB9, hr⟩ v5 rfl
        obtain ⟨us, hus, hown⟩ := hOw.ext he9
        have hnew : Own w2.heap.size w9 (.slice (some ⟨b9, 0, none⟩) 1 1) 1 1 32 [r] := ⟨rfl, .inr ⟨b9, 1, [], rfl, hb9, Nat.le_refl _, by rw [List.append_nil]; exact hB9, rfl⟩⟩
        have s9 := he9.size
        refine GL.append hT rfl rfl rfl rfl rfl rfl rfl rfl rfl rfl hnew hown.fresh (by simpa using hown.1) (fun u hu => (OwnBs.one hus u hu).2) (by show (1 + L.length) * 24 ≤ _; omega) (by omega) (by omega) fun r' w10 ho10 hb10 hr10 => ?_
        have hall := bytesBut (All2.cons (hr.mono (show w1.heap.size ≤ w2.heap.size by omega)) hus) hnew hb10
        refine St0 ?_
        refine G.ret1 rfl rfl rfl rfl ⟨⟨[r] ++ us, hall.imp fun u y h => h.mono (by omega), ?_⟩, ?_⟩
        · rw [List.length_cons, Nat.add_comm L.length 1]
          exact ho10.mono (by omega)
        · exact hb10.below (fun q hq => by have := (hnew.row hq).1; omega) (by omega) (he.trans (he2.trans (e28'.trans he9)))
    · have : ¬ ((x.key.bit i : Nat) : Int) = 1 := by omega
      have htext : upB x i bel sd = tagB 2 [bel.1, sd.1] := by rw [upB, if_pos (by omega)]
      have e28' := e28
      have hOw := hO.ext e28'
      have s8 := e28'.size
      refine St0 ?_
      refine G.draw 6 [(6, .slice (some ⟨bo, oo, none⟩) L.length co), (7, ptr b7 0), (8, ptr b8 0)] (fun k v w' => match k with
        | 0 => Value.slice (some ⟨b7, 0, none⟩) 32 32 = v | 1 => Value.slice (some ⟨b8, 0, none⟩) 32 32 = v
        | 2 => ∃ b, Value.slice (some ⟨b, 0, none⟩) 2 2 = v ∧ Blk w' b 32 [.slice (some ⟨b7, 0, none⟩) 32 32, .slice (some ⟨b8, 0, none⟩) 32 32]
        | 3 => OwnB w2.heap.size w' v (upB x i bel sd)
        | 4 => ∃ b r, Value.slice (some ⟨b, 0, none⟩) 1 1 = v ∧ w2.heap.size ≤ b ∧ Blk w' b 32 [r] ∧ OwnB w2.heap.size w' r (upB x i bel sd)
        | _ => Value.slice (some ⟨bo, oo, none⟩) L.length co = v) follows (by kernel_rfl) (by kernel_rfl) (by kernel_rfl) (by kernel_rfl) (by (repeat (first | exact Fr.sub_nil _ | refine Fr.sub_cons rfl ?_))) ?_ ?_ ?_
      · intro k v w1 w2 he h
        rcases k with _ | _ | _ | _ | _ | k
        · exact h
        · exact h
        · obtain ⟨b, h1, h2⟩ := h; exact ⟨b, h1, h2.ext he⟩
        · exact Own.ext h he
        · obtain ⟨b, r, h1, h0, h2, h3⟩ := h; exact ⟨b, r, h1, h0, h2.ext he, Own.ext h3 he⟩
        · exact h
      · intro w9 he9
        have hs9 := he9.size
        refine ⟨fun w' he' => ?_, fun w' he' => ?_, fun w' he' => ?_, fun w' he' => ?_, fun w' he' => ?_, fun w' he' => ?_, trivial⟩
        · refine St0 ?_
          exact GL.fact rfl (Ext.refl _) (by rfl)
        · refine St0 ?_
          exact GL.fact rfl (Ext.refl _) (by rfl)
        · rintro v rfl v rfl
          refine GL.buildSlice ([.slice (some ⟨b7, 0, none⟩) 32 32] ++ [.slice (some ⟨b8, 0, none⟩) 32 32]) hT rfl rfl rfl rfl rfl rfl rfl (fillL_two rfl rfl rfl rfl (madeLen _ _)) fun b9 w10 hb9 hB9 he10 => ?_
          exact GL.fact rfl he10 ⟨b9, rfl, hB9⟩
        · rintro v ⟨b9, rfl, hB9⟩
          refine GL.call rfl rfl rfl (refBytes_call 2 _ [bel.1, sd.1] any w' (bs2 hB9 (rdKey (hB7.all.ext (he9.trans he'))) (rdKey (hB8.all.ext (he9.trans he')))) (by simp) (two_len _ _)) ?_
          rintro r w10 ⟨hr, he10⟩
          have := he'.size
          exact GL.fact rfl he10 (by rw [htext]; exact hr.mono (by omega))
        · rintro v hv6
          have := he'.size
          refine GL.buildSlice [v] hT rfl rfl rfl rfl rfl rfl rfl (fillL_one hv6.some rfl (madeLen _ _)) fun b9 w10 hb9 hB9 he10 => ?_
          exact GL.fact rfl he10 ⟨b9, v, rfl, by omega, hB9, Own.ext hv6 he10⟩
        · refine St0 ?_
          exact GL.fact rfl (Ext.refl _) (by rfl)
      · rintro w9 he9 v0 rfl v1 rfl v2 - v3 - v4 ⟨b9, r, rfl, hb9, hB9, hr⟩ v5 rfl
        obtain ⟨us, hus, hown⟩ := hOw.ext he9
        have hnew : Own w2.heap.size w9 (.slice (some ⟨b9, 0, none⟩) 1 1) 1 1 32 [r] := ⟨rfl, .inr ⟨b9, 1, [], rfl, hb9, Nat.le_refl _, by rw [List.append_nil]; exact hB9, rfl⟩⟩
        have s9 := he9.size
        refine GL.append hT rfl rfl rfl rfl rfl rfl rfl rfl rfl rfl hnew hown.fresh (by simpa using hown.1) (fun u hu => (OwnBs.one hus u hu).2) (by show (1 + L.length) * 24 ≤ _; omega) (by omega) (by omega) fun r' w10 ho10 hb10 hr10 => ?_
        have hall := bytesBut (All2.cons (hr.mono (show w1.heap.size ≤ w2.heap.size by omega)) hus) hnew hb10
        refine St0 ?_
        refine G.ret1 rfl rfl rfl rfl ⟨⟨[r] ++ us, hall.imp fun u y h => h.mono (by omega), ?_⟩, ?_⟩
        · rw [List.length_cons, Nat.add_comm L.length 1]
          exact ho10.mono (by omega)
        · exact hb10.below (fun q hq => by have := (hnew.row hq).1; omega) (by omega) (he.trans (he2.trans (e28'.trans he9)))

theorem may_en {x : Prf} (h : mayB x = true) : (x.en = 0 ∨ x.en = 1 ∨ x.en = 2) ∧ x.sides.length ≤ 256 := by
  simp only [mayB, Bool.and_eq_true, decide_eq_true_eq] at h
  refine ⟨?_, h.1⟩
  have h2 := h.2
  unfold endB at h2
  by_cases h0 : x.en = 0
  · exact .inl h0
  by_cases h1 : x.en = 1
  · exact .inr (.inl h1)
  by_cases h2' : x.en = 2
  · exact .inr (.inr h2')
  · rw [if_neg h0, if_neg h1, if_neg h2'] at h2; cases h2
theorem from0_call (x : Prf) (u s : Value) (hm : mayB x = true) (hv : x.val.length ≤ 1000) (S : Where) (w : World) (h : PrfM S w x u s) :
    Does Tryd.prog 95 #[prv x u s, iv 0] w fun r w' => OwnBs w.heap.size w' r (fromP x) ∧ Ext w w' := by
  obtain ⟨h1, h2⟩ := may_en hm
  have := from_call x u s h1 hv h2 x.sides.length 0 S w (by omega) (by omega) h
  exact this
theorem refInputs_call (x : Prf) (u s : Value) (S : Where) (w : World) (h : PrfM S w x u s) (hv : x.val.length ≤ 1000) :
    Does Tryd.prog 29 #[prv x u s] w fun r w' => ∃ v, r = .tuple #[v, iv (badE (mayB x))] ∧ OwnBs w.heap.size w' v (inputsP x) ∧ Ext w w' := by
  refine call_walk Tryd.func29 (by kernel_rfl) rfl Tryd.ntmps29 rfl ?_
  refine St0 ?_
  refine GL.box rfl rfl rfl rfl fun b1 w1 hb1 hB1 he1 => ?_
  refine St0 ?_
  refine GL.loadN hT rfl rfl rfl rfl rfl hB1.all (pcells_len x u s) ?_
  refine GL.call rfl rfl rfl (refMay_call x u s S w1 (h.ext he1)) ?_
  rintro r w2 ⟨rfl, he2⟩
  replace hB1 := hB1.ext he2
  have s1 := he1.size
  have s2 := he2.size
  cases hok : mayB x
  · refine St0 ?_
    exact G.ret2 rfl rfl rfl rfl rfl ⟨_, rfl, by rw [inputsP, hok]; exact OwnBs.bare _ _ none, he1.trans he2⟩
  refine St0 ?_
  refine GL.loadN hT rfl rfl rfl rfl rfl hB1.all (pcells_len x u s) ?_
  refine GL.call rfl rfl rfl (from0_call x u s hok hv S w2 (h.ext (he1.trans he2))) ?_
  rintro r w3 ⟨hO, he3⟩
  refine St0 ?_
  exact G.ret2 rfl rfl rfl rfl rfl ⟨_, rfl, by rw [inputsP, hok]; exact hO.mono (by omega), he1.trans (he2.trans he3)⟩
theorem refRoot8_call (x : Prf) (u s : Value) (S : Where) (w : World) (h : PrfM S w x u s) (hv : x.val.length ≤ 1000) :
    Does Tryd.prog 31 #[prv x u s] w fun r w' => r = .tuple #[dv (rootV x), iv (badE (mayB x))] ∧ Ext w w' := by
  refine call_walk Tryd.func31 (by kernel_rfl) rfl Tryd.ntmps31 rfl ?_
  refine St0 ?_
  refine GL.box rfl rfl rfl rfl fun b1 w1 hb1 hB1 he1 => ?_
  refine GL.alloc hT rfl rfl rfl fun b2 w2 hb2 hB2 he2 => ?_
  have l2 := hB2.lt
  have he12 := he1.trans he2
  have s12 := he12.size
  have s1 := he1.size
  replace hB1 := hB1.ext he2
  refine St0 ?_
  refine GL.loadN hT rfl rfl rfl rfl rfl hB1.all (pcells_len x u s) ?_
  refine GL.call rfl rfl rfl (refMay_call x u s S w2 (h.ext he12)) ?_
  rintro r w3 ⟨rfl, he3⟩
  replace hB1 := hB1.ext he3
  replace hB2 := hB2.ext he3
  have he13 := he12.trans he3
  cases hok : mayB x
  · refine St0 ?_
    refine GL.storeVar hT rfl rfl rfl rfl rfl (Dig.len _) (Dig.one _) hB2 (by rw [Dig.len]; rfl) fun w4 hc4 hB4 => ?_
    refine St0 ?_
    exact G.retNt rfl rfl hT rfl rfl rfl rfl rfl hB4.all (Dig.len _) ⟨by rw [rootV, hok]; rfl, hc4.below (by omega) he13⟩
  refine St0 ?_
  refine GL.loadN hT rfl rfl rfl rfl rfl hB1.all (pcells_len x u s) ?_
  refine GL.call rfl rfl rfl (from0_call x u s hok hv S w3 (h.ext he13)) ?_
  rintro r w4 ⟨hO, he4⟩
  replace hB2 := hB2.ext he4
  obtain ⟨bo, oo, co, uo, hvo, huo, hAo⟩ := hO.rd.elem (fromL_head x 0 _)
  subst hvo
  have hsmall : ((fromP x).headD []).length ≤ 2000 := fromL_small x hv 0 x.sides _ (List.mem_of_getElem? (fromL_head x 0 _))
  have hl : (fromP x).length = x.sides.length + 1 := fromL_len x 0 _
  refine St0 ?_
  (refine GL.indexSlice (0) 1 (oo) hT rfl rfl rfl rfl rfl rfl rfl rfl ?_ ?_ ?_ ?_; (focus omega); (focus omega); (focus omega))
  refine St1 (hAo) ?_
  refine GL.call rfl rfl rfl (refSum_call uo _ _ w4 huo (by show ((fromP x).headD []).length ≤ _; omega)) ?_
  rintro r w5 ⟨rfl, he5⟩
  replace hB2 := hB2.ext he5
  refine GL.storeVar hT rfl rfl rfl rfl rfl (Dig.len _) (Dig.one _) hB2 (by rw [Dig.len]; rfl) fun w6 hc6 hB6 => ?_
  refine St0 ?_
  exact G.retNt rfl rfl hT rfl rfl rfl rfl rfl hB6.all (Dig.len _) ⟨by rw [rootV, hok]; rfl, hc6.below (by omega) (he13.trans (he4.trans he5))⟩
theorem refFits_call (x : Prf) (d : Dig) (u s : Value) (S : Where) (w : World) (h : PrfM S w x u s) (hv : x.val.length ≤ 1000) :
    Does Tryd.prog 34 #[prv x u s, dv d] w fun r w' => r = .bool (fitsB x d) ∧ Ext w w' := by
  refine call_walk Tryd.func34 (by kernel_rfl) rfl Tryd.ntmps34 rfl ?_
  refine St0 ?_
  refine GL.box rfl rfl rfl rfl fun b1 w1 hb1 hB1 he1 => ?_
  refine GL.box rfl rfl rfl rfl fun b2 w2 hb2 hB2 he2 => ?_
  have he12 := he1.trans he2
  replace hB1 := hB1.ext he2
  refine St0 ?_
  refine GL.loadN hT rfl rfl rfl rfl rfl hB1.all (pcells_len x u s) ?_
  refine GL.call rfl rfl rfl (refRoot8_call x u s S w2 (h.ext he12) hv) ?_
  rintro r w3 ⟨rfl, he3⟩
  refine St0 ?_
  refine GL.alloc hT rfl rfl rfl fun b5 w4 hb5 hB5 he4 => ?_
  have l5 := hB5.lt
  have l2 := hB2.lt
  have s3 := he3.size
  have he14 := he12.trans (he3.trans he4)
  have s12 := he12.size
  refine GL.storeVar hT rfl rfl rfl rfl rfl (Dig.len _) (Dig.one _) hB5 (by rw [Dig.len]; rfl) fun w5 hc5 hB5 => ?_
  replace hB2 := ((hB2.ext he3).ext he4).chg hc5 (by omega)
  have he15 : Ext w w5 := hc5.below (by omega) he14
  cases hok : mayB x
  · have e1 : badE false = 8 := rfl
    rw [e1]
    refine St2 (hB5.all) (hB2.all) ?_
    exact G.ret1 rfl rfl rfl rfl ⟨by rw [fitsB, hok]; rfl, he15⟩
  have e1 : badE true = 0 := rfl
  rw [e1]
  by_cases hd : rootV x = d
  · refine St2 (hB5.all) (hB2.all) ?_
    exact G.ret1 rfl rfl rfl rfl ⟨by simp [fitsB, hok, hd], he15⟩
  · refine St2 (hB5.all) (hB2.all) ?_
    exact G.ret1 rfl rfl rfl rfl ⟨by simp [fitsB, hok, hd], he15⟩
theorem same3_call (v u : Value) (xs ys : List Bytes) (S S' : Where) (w : World) (h : RdBs S w v xs) (h' : RdBs S' w u ys) (hmax : xs.length ≤ 4294967296) (hx1 : ∀ x ∈ xs, x.length ≤ 4294967296) :
    Does Tryd.prog 32 #[v, u] w fun r w' => r = .bool (decide (xs = ys)) ∧ Ext w w' := by
  refine call_walk Tryd.func32 (by kernel_rfl) rfl Tryd.ntmps32 rfl ?_
  obtain ⟨p, c, rfl, hc⟩ := h.isSlice
  obtain ⟨p', c', rfl, hc'⟩ := h'.isSlice
  refine St0 ?_
  by_cases hl : (xs.length : Int) = ys.length
  · have hl' : xs.length = ys.length := by omega
    refine St0 ?_
    refine G.sub (f' := [(5, iv ((0 : Nat) : Int)), (0, .slice p xs.length c), (1, .slice p' ys.length c')]) (by (repeat (first | exact Fr.sub_nil _ | refine Fr.sub_cons rfl ?_))) ?_
    refine G.rounds (α := Nat) (fun j f w' => j ≤ xs.length ∧ Ext w w' ∧ (∀ i, i < j → xs[i]? = ys[i]?) ∧ f = [(5, iv j), (0, .slice p xs.length c), (1, .slice p' ys.length c')]) (fun j => xs.length - j) ?round 0 ⟨by omega, Ext.refl w, fun i hi => by omega, rfl⟩
    rintro j f w1 ⟨hj, he1, heq, rfl⟩ again
    by_cases hlt : (j : Int) < xs.length
    · obtain ⟨x, hx⟩ : ∃ x, xs[j]? = some x := ⟨_, List.getElem?_eq_getElem (by omega)⟩
      obtain ⟨y, hy⟩ : ∃ y, ys[j]? = some y := ⟨_, List.getElem?_eq_getElem (by omega)⟩
      obtain ⟨b, o, c2, ux, hv, hu, hA⟩ := (h.ext he1).elem hx
      obtain ⟨b', o', c2', uy, hv', hu', hA'⟩ := (h'.ext he1).elem hy
      cases hv
      cases hv'
      have hxl := hx1 x (List.mem_of_getElem? hx)
      refine St0 ?_
      refine G.quiet follows (by kernel_rfl) ?_
      refine QSt0 ?_
      (refine GQ.indexSlice (j) 1 ((o + j)) hT rfl rfl rfl rfl rfl rfl rfl rfl ?_ ?_ ?_ ?_; (focus omega); (focus omega); (focus omega))
      refine QSt1 (hA) ?_
      (refine GQ.indexSlice (j) 1 ((o' + j)) hT rfl rfl rfl rfl rfl rfl rfl rfl ?_ ?_ ?_ ?_; (focus omega); (focus omega); (focus omega))
      refine QSt1 (hA') ?_
      refine GQ.call (v := .bool (decide (x = y))) rfl rfl rfl (fun w' he' => (same_call ux uy x y _ _ w' (RdB.ext hu he') (RdB.ext hu' he')).mono fun r w'' ⟨h1, h2⟩ => ⟨h1, by rw [h2]; exact Ext.refl _⟩) ?_
      by_cases hb : x = y
      · rw [show decide (x = y) = true by simpa using hb]
        refine QSt0 ?_
        refine GQ.nil fun w2 he2 => ?_
        refine St0 ?_
        refine G.sub (by (repeat (first | exact Fr.sub_nil _ | refine Fr.sub_cons rfl ?_))) (again (j + 1) _ _ (by omega) ⟨by omega, he1.trans he2, ?_, rfl⟩)
        intro i hi
        rcases Nat.lt_or_eq_of_le (Nat.lt_succ_iff.1 hi) with h1 | h1
        · exact heq i h1
        · subst h1
          rw [hx, hy, hb]
      · rw [show decide (x = y) = false by simpa using hb]
        refine QSt0 ?_
        refine GQ.nil fun w2 he2 => ?_
        refine St0 ?_
        refine G.ret1 rfl rfl rfl rfl ⟨?_, he1.trans he2⟩
        rw [not_eq_at (i := j)]
        rw [hx, hy]
        simpa using hb
    · refine St0 ?_
      refine G.ret1 rfl rfl rfl rfl ⟨?_, he1⟩
      rw [all_eq hl' fun i hi => heq i (by omega)]
  · refine St0 ?_
    refine G.ret1 rfl rfl rfl rfl ⟨?_, Ext.refl w⟩
    rw [not_eq_len (by omega)]

theorem lawTells8_call (x : Prf) (d : Dig) (u s : Value) (w : World) (hx : PrfM any w x u s) (hK : Kt w) :
    Does Tryd.prog 4 #[prv x u s, dv d] w fun r w' => r = .bool true ∧ Ext w w' := by
  refine call_walk Tryd.func4 (by kernel_rfl) rfl Tryd.ntmps4 rfl ?_
  refine St0 ?_
  refine GL.box rfl rfl rfl rfl fun b2 w1 hb2 hB2 he1 => ?_
  have l2 := hB2.lt
  refine GL.box rfl rfl rfl rfl fun b3 w2 hb3 hB3 he2 => ?_
  have l3 := hB3.lt
  replace hB2 := hB2.ext he2
  have he := he1.trans he2
  have s1 := he1.size
  have s2 := he2.size
  refine St0 ?_
  refine GL.loadN hT rfl rfl rfl rfl rfl hB2.all (pcells_len x u s) ?_
  refine GL.call rfl rfl rfl (great7_call x u s _ w2 (hx.ext he)) ?_
  rintro r w3 ⟨rfl, he3⟩
  replace hB2 := hB2.ext he3
  replace hB3 := hB3.ext he3
  have s3 := he3.size
  have e3 := he.trans he3
  cases hgx : decide (100 < x.val.length) || decide (300 < x.sides.length)
  case true =>
    refine St0 ?_
    exact G.ret1 rfl rfl rfl rfl ⟨rfl, e3⟩
  have hxv : x.val.length ≤ 100 ∧ x.sides.length ≤ 300 := by simpa using hgx
  refine St1 (hB2.all) ?_
  refine GL.call rfl rfl rfl (ref7Twin_call x u s _ w3 (hx.ext e3) (by omega) (by omega)) ?_
  rintro r w5 ⟨ua, sa, rfl, hown, he5⟩
  replace hB2 := hB2.ext he5
  replace hB3 := hB3.ext he5
  have s5 := he5.size
  refine GL.alloc hT rfl rfl rfl fun b5 w6 hb5 hB5 he6 => ?_
  have l5 := hB5.lt
  have s6 := he6.size
  replace hB2 := hB2.ext he6
  replace hB3 := hB3.ext he6
  refine GL.storeVar hT rfl rfl rfl rfl rfl (pcells_len x ua sa) (pcells_one x hown.val.one hown.sides.one) hB5 (by rw [pcells_len]; decide) fun w7 hc7 hB5 => ?_
  have s7 := hc7.size
  have e7 : Ext w w7 := hc7.below (by omega) (e3.trans (he5.trans he6))
  have he7 : Ext w5 w7 := hc7.below (by omega) he6
  replace hB2 := hB2.chg hc7 (by omega)
  replace hB3 := hB3.chg hc7 (by omega)
  have ho : PrfM any w7 x ua sa := (hown.m.ext he7).imp fun _ _ _ => trivial
  have hxx : PrfM any w7 x u s := hx.ext e7
  have hK7 := hK.ext e7
  refine St1 (hB5.all) ?_
  refine GL.call rfl rfl rfl (inputs_call x ua sa _ w7 ho (by omega) (by omega) hK7) ?_
  rintro r w8 ⟨va, rfl, hva, he8⟩
  replace hB2 := hB2.ext he8
  replace hB3 := hB3.ext he8
  replace hB5 := hB5.ext he8
  refine St1 (hB2.all) ?_
  refine GL.call rfl rfl rfl (refInputs_call x u s _ w8 (hxx.ext he8) (by omega)) ?_
  rintro r w9 ⟨vb, rfl, hvb, he9⟩
  replace hB2 := hB2.ext he9
  replace hB3 := hB3.ext he9
  replace hB5 := hB5.ext he9
  replace hva := hva.ext he9
  have e79 := he8.trans he9
  refine St1 (hB5.all) ?_
  refine GL.call rfl rfl rfl (vroot_call x ua sa _ w9 (ho.ext e79) (by omega) (by omega) (hK7.ext e79)) ?_
  rintro r w10 ⟨rfl, he10⟩
  replace hB2 := hB2.ext he10
  replace hB3 := hB3.ext he10
  replace hB5 := hB5.ext he10
  replace hva := hva.ext he10
  replace hvb := hvb.ext he10
  have e710 := e79.trans he10
  refine St0 ?_
  refine GL.alloc hT rfl rfl rfl fun b10 w11 hb10 hB10 he11 => ?_
  have l10 := hB10.lt
  have lx2 := hB2.lt
  have lx3 := hB3.lt
  have lx5 := hB5.lt
  replace hB2 := hB2.ext he11
  replace hB3 := hB3.ext he11
  replace hB5 := hB5.ext he11
  have e711 := e710.trans he11
  have s711 := e711.size
  have s710 := e710.size
  refine GL.storeVar hT rfl rfl rfl rfl rfl (Dig.len _) (Dig.one _) hB10 (by rw [Dig.len]; rfl) fun w12 hc12 hB10 => ?_
  replace hB2 := hB2.chg hc12 (by omega)
  replace hB3 := hB3.chg hc12 (by omega)
  replace hB5 := hB5.chg hc12 (by omega)
  have e712 : Ext w7 w12 := hc12.below (by omega) e711
  have e1012 : Ext w10 w12 := hc12.below (by omega) he11
  replace hva := hva.ext e1012
  replace hvb := hvb.ext e1012
  refine St1 (hB2.all) ?_
  refine GL.call rfl rfl rfl (refRoot8_call x u s _ w12 (hxx.ext e712) (by omega)) ?_
  rintro r w13 ⟨rfl, he13⟩
  replace hB2 := hB2.ext he13
  replace hB3 := hB3.ext he13
  replace hB5 := hB5.ext he13
  replace hB10 := hB10.ext he13
  replace hva := hva.ext he13
  replace hvb := hvb.ext he13
  have e713 := e712.trans he13
  have s713 := e713.size
  refine St0 ?_
  refine GL.alloc hT rfl rfl rfl fun b12 w14 hb12 hB12 he14 => ?_
  have l12 := hB12.lt
  have ly2 := hB2.lt
  have ly3 := hB3.lt
  have ly5 := hB5.lt
  have ly10 := hB10.lt
  replace hB2 := hB2.ext he14
  replace hB3 := hB3.ext he14
  replace hB5 := hB5.ext he14
  replace hB10 := hB10.ext he14
  refine GL.storeVar hT rfl rfl rfl rfl rfl (Dig.len _) (Dig.one _) hB12 (by rw [Dig.len]; rfl) fun w15 hc15 hB12 => ?_
  replace hB2 := hB2.chg hc15 (by omega)
  replace hB3 := hB3.chg hc15 (by omega)
  replace hB5 := hB5.chg hc15 (by omega)
  replace hB10 := hB10.chg hc15 (by omega)
  have e715 : Ext w7 w15 := hc15.below (by omega) (e713.trans he14)
  have e1315 : Ext w13 w15 := hc15.below (by omega) he14
  replace hva := hva.ext e1315
  replace hvb := hvb.ext e1315
  have hxs := fromL_small x (by omega : x.val.length ≤ 1000) 0 x.sides
  have hil : (inputsP x).length ≤ 301 ∧ ∀ y ∈ inputsP x, y.length ≤ 4294967296 := by
    unfold inputsP
    split
    · exact ⟨by rw [fromP, fromL_len]; omega, fun y hy => by have := hxs y hy; omega⟩
    · exact ⟨by simp, fun y hy => by cases hy⟩
  have eE : w.heap.size ≤ w7.heap.size := e7.size
  refine St0 ?_
  refine GL.call rfl rfl rfl (same3_call va vb _ _ _ _ w15 hva.rd hvb.rd (by omega) hil.2) ?_
  rintro r w16 ⟨rfl, he16⟩
  replace hB2 := hB2.ext he16
  replace hB3 := hB3.ext he16
  replace hB5 := hB5.ext he16
  replace hB10 := hB10.ext he16
  replace hB12 := hB12.ext he16
  have e716 := e715.trans he16
  rw [decide_eq_true (rfl : inputsP x = inputsP x)]
  have hrr : rootV x = rootV x := rfl
  refine St2 (hB10.all) (hB12.all) ?_
  have hself : (fitsB x d == fitsB x d) = true := by simp
  cases hok : mayB x
  · have e1 : badE false = 8 := rfl
    rw [e1]
    refine G.quiet follows (by kernel_rfl) ?_
    refine QSt2 (hB5.all) (hB3.all) ?_
    refine GQ.call rfl rfl rfl (fun w' he' => vfits_call x d ua sa _ w' ((ho.ext e716).ext he') (by omega) (by omega) ((hK7.ext e716).ext he')) ?_
    refine QSt2 (hB2.all) (hB3.all) ?_
    refine GQ.call rfl rfl rfl (fun w' he' => refFits_call x d u s _ w' ((hxx.ext e716).ext he') (by omega)) ?_
    refine QSt0 ?_
    rw [hself]
    refine QSt0 ?_
    refine QSt2 (hB5.all) (hB2.all) ?_
    refine GQ.call (v := .bool true) rfl rfl rfl (fun w' he' => (ref7Same_call x x ua sa u s _ _ w' ((ho.ext e716).ext he') ((hxx.ext e716).ext he') (by omega) (by omega)).mono fun r w'' ⟨h1, h2⟩ => ⟨by rw [h1]; simp, h2⟩) ?_
    refine QSt0 ?_
    refine GQ.nil fun w17 he17 => ?_
    refine St0 ?_
    exact G.ret1 rfl rfl rfl rfl ⟨rfl, e7.trans (e716.trans he17)⟩
  · have e1 : badE true = 0 := rfl
    rw [e1]
    refine G.quiet follows (by kernel_rfl) ?_
    refine QSt2 (hB5.all) (hB3.all) ?_
    refine GQ.call rfl rfl rfl (fun w' he' => vfits_call x d ua sa _ w' ((ho.ext e716).ext he') (by omega) (by omega) ((hK7.ext e716).ext he')) ?_
    refine QSt2 (hB2.all) (hB3.all) ?_
    refine GQ.call rfl rfl rfl (fun w' he' => refFits_call x d u s _ w' ((hxx.ext e716).ext he') (by omega)) ?_
    refine QSt0 ?_
    rw [hself]
    refine QSt0 ?_
    refine QSt2 (hB5.all) (hB12.all) ?_
    refine GQ.call (v := .bool true) rfl rfl rfl (fun w' he' => (vfits_call x (rootV x) ua sa _ w' ((ho.ext e716).ext he') (by omega) (by omega) ((hK7.ext e716).ext he')).mono fun r w'' ⟨h1, h2⟩ => ⟨by rw [h1, fitsB, hok]; simp, h2⟩) ?_
    refine QSt2 (hB5.all) (hB2.all) ?_
    refine GQ.call (v := .bool true) rfl rfl rfl (fun w' he' => (ref7Same_call x x ua sa u s _ _ w' ((ho.ext e716).ext he') ((hxx.ext e716).ext he') (by omega) (by omega)).mono fun r w'' ⟨h1, h2⟩ => ⟨by rw [h1]; simp, h2⟩) ?_
    refine QSt0 ?_
    refine GQ.nil fun w17 he17 => ?_
    refine St0 ?_
    exact G.ret1 rfl rfl rfl rfl ⟨rfl, e7.trans (e716.trans he17)⟩
end Go.Proofs.YtefneilaongpbaaDoor
/-
  The chapter's examples of a root: the walk.
-/
set_option linter.unusedVariables false
set_option linter.unusedSimpArgs false
set_option maxRecDepth 100000
set_option maxHeartbeats 4000000
namespace Go.Bd
section
variable {P : Program} {fn : Func} {f : Fr} {w : World} {tt : List (Nat × Ti)} {n : Sz}
/-- Three results, each in a variable of one cell. -/
theorem run_result3c {t1 t2 t3 : Tmp} {y1 y2 y3 : TypeId} {i1 i2 i3 : Ti} {b1 b2 b3 : Nat} {v1 v2 v3 : Value} {S1 S2 S3 : Nat → Nat × Nat → Prop} (hT : Tys P tt) (h1 : TT.get tt y1 = some i1) (h2 : TT.get tt y2 = some i2) (h3 : TT.get tt y3 = some i3) (g1 : i1.desc.agg = false) (g2 : i2.desc.agg = false) (g3 : i3.desc.agg = false)
    (hr : fn.results = #[.cell t1 y1, .cell t2 y2, .cell t3 y3]) (x1 : Fr.get f t1 = some (ptr b1 0)) (x2 : Fr.get f t2 = some (ptr b2 0)) (x3 : Fr.get f t3 = some (ptr b3 0)) (A1 : At S1 w b1 0 [v1]) (A2 : At S2 w b2 0 [v2]) (A3 : At S3 w b3 0 [v3]) :
    ∀ a, St n f a → (results fn a.tmps).run P w = .ok (.tuple #[v1, v2, v3]) w := fun a ha => by
  have c1 : w.cell? ⟨b1, 0, none⟩ = some v1 := by have := A1.cell (j := 0) (v := v1) rfl; simpa using this
  have c2 : w.cell? ⟨b2, 0, none⟩ = some v2 := by have := A2.cell (j := 0) (v := v2) rfl; simpa using this
  have c3 : w.cell? ⟨b3, 0, none⟩ = some v3 := by have := A3.cell (j := 0) (v := v3) rfl; simpa using this
  have r1 := run_load1 (P := P) hT h1 g1 c1
  have r2 := run_load1 (P := P) hT h2 g2 c2
  have r3 := run_load1 (P := P) hT h3 g3 c3
  have e1 : a.tmps[t1]? = some (ptr b1 0) := ha.at_ t1 _ x1
  have e2 : a.tmps[t2]? = some (ptr b2 0) := ha.at_ t2 _ x2
  have e3 : a.tmps[t3]? = some (ptr b3 0) := ha.at_ t3 _ x3
  simp [results, hr, e1, e2, e3, asAddr, r1, r2, r3]
end
end Go.Bd
namespace Go.Proofs.YtefneilaongpbaaDoor
open Go Go.Bd Go.RowKit
attribute [local irreducible] G GL GQ GS shaD

def noPrf : Prf := ⟨Dig.zero, 0, Dig.zero, [], []⟩
abbrev nil : Value := .slice none 0 0
theorem noPrf_m (w : World) : PrfM any w noPrf nil nil := ⟨RdF.nil _ _ _ _, RdF.nil _ _ _ _⟩
theorem noPrf_may : mayB noPrf = true := by decide
theorem noPrf_in : inputsP noPrf = [[0]] := by rw [inputsP, noPrf_may]; rfl
theorem noPrf_root : rootV noPrf = noneD := by rw [rootV, noPrf_may]; rfl
theorem alive8_call (w : World) (hK : Kt w) : Does Tryd.prog 37 #[] w fun r w' => r = .bool true ∧ Ext w w' := by
  refine call_walk (vs := []) Tryd.func37 (by kernel_rfl) rfl Tryd.ntmps37 rfl ?_
  refine St0 ?_
  refine GL.build (pcells noPrf nil nil) hT rfl rfl rfl rfl rfl rfl (by show _ = some (Dig.zero.cells ++ (bv 0 :: (Dig.zero.cells ++ [nil, nil]))); rw [Dig.zero_cells]; rfl) ?_
  refine GL.call rfl rfl rfl (inputs_call noPrf nil nil _ w (noPrf_m w) (by decide) (by decide) hK) ?_
  rintro r w1 ⟨v, rfl, hO, he1⟩
  rw [noPrf_may, noPrf_in] at *
  have e1 : badE true = 0 := rfl
  rw [e1]
  refine St0 ?_
  refine GL.build (pcells noPrf nil nil) hT rfl rfl rfl rfl rfl rfl (by show _ = some (Dig.zero.cells ++ (bv 0 :: (Dig.zero.cells ++ [nil, nil]))); rw [Dig.zero_cells]; rfl) ?_
  refine GL.call rfl rfl rfl (vroot_call noPrf nil nil _ w1 (noPrf_m w1) (by decide) (by decide) (hK.ext he1)) ?_
  rintro r w2 ⟨rfl, he2⟩
  rw [noPrf_may, noPrf_root] at *
  rw [e1]
  have he12 := he1.trans he2
  replace hO := hO.ext he2
  refine St0 ?_
  refine GL.alloc hT rfl rfl rfl fun b3 w3 hb3 hB3 he3 => ?_
  have l3 := hB3.lt
  have s12 := he12.size
  refine GL.storeVar hT rfl rfl rfl rfl rfl (Dig.len _) (Dig.one _) hB3 (by rw [Dig.len]; rfl) fun w4 hc4 hB3 => ?_
  have he24 : Ext w2 w4 := hc4.below (by omega) he3
  replace hO := hO.ext he24
  have he4 := he12.trans he24
  obtain ⟨bo, oo, co, uo, hvo, huo, hAo⟩ := hO.rd.elem (i := 0) rfl
  subst hvo
  rw [show ([[0]] : List Bytes).length = 1 from rfl]
  refine St0 ?_
  refine G.drawS 23 (List.range 23) [11] follows (by kernel_rfl) (by kernel_rfl) (by kernel_rfl) (by kernel_rfl) (by kernel_rfl) (by kernel_rfl) ?_
  refine SSt0 ?_
  (refine GS.indexSlice (0) 1 (oo) hT rfl rfl rfl rfl rfl rfl rfl rfl ?_ ?_ ?_ ?_; (focus omega); (focus omega); (focus omega))
  refine SSt1 (hAo) ?_
  refine GS.op rfl fun w5 he5 => ?_
  refine GL.buildSlice [bv 0] hT rfl rfl rfl rfl rfl rfl rfl (fillL_one rfl rfl (madeLen _ _)) fun b6 w6 hb6 hB6 he6 => ?_
  refine GS.done he6 ?_
  have he46 := he5.trans he6
  refine GS.call (v := .bool true) rfl rfl rfl (fun w' he' => (same_call uo _ [0] [0] _ any w' (RdB.ext huo (he46.trans he')) ⟨_, 1, rfl, Nat.le_refl _, .inr ⟨b6, 0, rfl, (hB6.ext he').all⟩⟩).mono fun r w'' ⟨h1, h2⟩ => ⟨by rw [h1]; rfl, by rw [h2]; exact Ext.refl _⟩) ?_
  refine SSt1 ((hB3.ext he46).all) ?_
  refine GS.call rfl rfl rfl (fun w' he' => tagNone_call w' (hK.ext ((he4.trans he46).trans he'))) ?_
  have hnn : noneD = noneD := rfl
  refine SSt0 ?_
  refine GS.tail fun w7 he7 => ?_
  refine St0 ?_
  exact G.ret1 rfl rfl rfl rfl ⟨rfl, he4.trans (he46.trans he7)⟩

/-! the chapter's examples -/
def k3 : Dig := key1 3
def k200 : Dig := key1 200
def nineD : Dig := shaD (tagB 9 [])
def leafA : Dig := shaD (tagB 1 [(key1 3).1, [97]])
def leafB : Dig := shaD (tagB 1 [(key1 200).1, [97]])
def exA : Prf := ⟨key1 3, 1, Dig.zero, [97], [nineD]⟩
def exB : Prf := ⟨key1 200, 1, Dig.zero, [97], [nineD]⟩
def exC : Prf := ⟨Dig.zero, 3, Dig.zero, [], []⟩
theorem exA_may : mayB exA = true := by rfl
theorem exB_may : mayB exB = true := by rfl
theorem exC_may : mayB exC = false := by rfl
theorem exA_root : rootV exA = shaD (tagB 2 [leafA.1, nineD.1]) := by
  have hb : exA.key.bit 0 = 0 := by rfl
  rw [rootV, exA_may, if_pos rfl]
  show shaD (upB exA 0 _ nineD) = _
  rw [upB, if_pos hb]
  rfl
theorem exB_root : rootV exB = shaD (tagB 2 [nineD.1, leafB.1]) := by
  have hb : exB.key.bit 0 = 1 := by rfl
  rw [rootV, exB_may, if_pos rfl]
  show shaD (upB exB 0 _ nineD) = _
  rw [upB, if_neg (by rw [hb]; decide)]
  rfl

theorem prf_fill (k : Dig) (b c : Nat) : fillL ([(0, 32), (32, 1), (33, 32), (65, 1), (66, 1)][·]?) ti35.zero [(0, dv k), (1, bv 1), (3, .slice (some ⟨b, 0, none⟩) 1 1), (4, .slice (some ⟨c, 0, none⟩) 1 1)] = some (pcells ⟨k, 1, Dig.zero, [97], [nineD]⟩ (.slice (some ⟨b, 0, none⟩) 1 1) (.slice (some ⟨c, 0, none⟩) 1 1)) := by
  obtain ⟨l, hl⟩ := k
  match l, hl with
  | [_, _, _, _, _, _, _, _, _, _, _, _, _, _, _, _, _, _, _, _, _, _, _, _, _, _, _, _, _, _, _, _], _ => rfl
theorem digs1 {w : World} {b : Nat} {T : TypeId} {d : Dig} (h : Blk w b T d.cells) : RdD any w (.slice (some ⟨b, 0, none⟩) 1 1) [d] := ⟨_, 1, rfl, Nat.le_refl _, .inr ⟨b, 0, rfl, by have := h.all; simpa [dcells] using this⟩⟩
theorem verifyNames_call (w : World) (hK : Kt w) : Does Tryd.prog 5 #[] w fun r w' => r = .bool true ∧ Ext w w' := by
  refine call_walk (vs := []) Tryd.func5 (by kernel_rfl) rfl Tryd.ntmps5 rfl ?_
  refine St0 ?_
  refine GL.buildArr (key1 3).cells hT rfl rfl rfl rfl rfl rfl (by rw [key1_cells]; rfl) ?_
  refine GL.buildArr (key1 200).cells hT rfl rfl rfl rfl rfl rfl (by rw [key1_cells]; rfl) ?_
  refine GL.alloc hT rfl rfl rfl fun b1 w1 hb1 hB1 he1 => ?_
  have l1 := hB1.lt
  refine GL.alloc hT rfl rfl rfl fun b2 w2 hb2 hB2 he2 => ?_
  have l2 := hB2.lt
  replace hB1 := hB1.ext he2
  have s1 := he1.size
  have s2 := he2.size
  refine GL.storeVar hT rfl rfl rfl rfl rfl (Dig.len (key1 3)) (Dig.one _) hB1 (by rw [Dig.len]; rfl) fun w3 hc3 hB1 => ?_
  replace hB2 := hB2.chg hc3 (by omega)
  refine GL.storeVar hT rfl rfl rfl rfl rfl (Dig.len (key1 200)) (Dig.one _) hB2 (by rw [Dig.len]; rfl) fun w4 hc4 hB2 => ?_
  replace hB1 := hB1.chg hc4 (by omega)
  have e4 : Ext w w4 := hc4.below (by omega) (hc3.below (by omega) (he1.trans he2))
  refine St0 ?_
  refine GL.call rfl rfl rfl (tagOf_call 9 (.slice none 0 0) [] any w4 (bs0 _ _ _) (by simp) (by decide) (hK.ext e4)) ?_
  rintro r w5 ⟨rfl, he5⟩
  rw [show shaD (tagB 9 []) = nineD from rfl]
  replace hB1 := hB1.ext he5
  replace hB2 := hB2.ext he5
  refine GL.alloc hT rfl rfl rfl fun b3 w6 hb3 hB3 he6 => ?_
  have l3 := hB3.lt
  have lx1 := hB1.lt
  have lx2 := hB2.lt
  replace hB1 := hB1.ext he6
  replace hB2 := hB2.ext he6
  refine GL.storeVar hT rfl rfl rfl rfl rfl (Dig.len _) (Dig.one _) hB3 (by rw [Dig.len]; rfl) fun w7 hc7 hB3 => ?_
  replace hB1 := hB1.chg hc7 (by omega)
  replace hB2 := hB2.chg hc7 (by omega)
  have s45 := (he5.trans he6).size
  have s4 := e4.size
  have e7 : Ext w w7 := hc7.below (by omega) (e4.trans (he5.trans he6))
  have ly1 := hB1.lt
  have ly2 := hB2.lt
  have ly3 := hB3.lt
  refine St0 ?_
  refine G.drawK 12 w7.heap.size [10, 11] [(1, ptr b1 0), (2, ptr b2 0), (3, ptr b3 0), (0, .bool false)] (fun i v w' => match i with
    | 0 => Value.slice (some ⟨b1, 0, none⟩) 32 32 = v
    | 1 => ∃ b, Value.slice (some ⟨b, 0, none⟩) 1 1 = v ∧ w7.heap.size ≤ b ∧ ∃ fr, w'.heap[b]? = some (Obj.cells [bv 97].toArray 5 fr)
    | 2 => RdB any w' v [97]
    | 3 => RdBs any w' v [(key1 3).1, [97]]
    | 4 => dv leafA = v
    | 5 => Value.slice (some ⟨b2, 0, none⟩) 32 32 = v
    | 6 => ∃ b, Value.slice (some ⟨b, 0, none⟩) 1 1 = v ∧ w7.heap.size ≤ b ∧ ∃ fr, w'.heap[b]? = some (Obj.cells [bv 97].toArray 5 fr)
    | 7 => RdB any w' v [97]
    | 8 => RdBs any w' v [(key1 200).1, [97]]
    | 9 => dv leafB = v
    | _ => ∃ b, ptr b 0 = v ∧ w7.heap.size ≤ b ∧ Blk w' b 25 ti25.zero) follows (by kernel_rfl) (by kernel_rfl) (by kernel_rfl) (by kernel_rfl) (by kernel_rfl) (by (repeat (first | exact Fr.sub_nil _ | refine Fr.sub_cons rfl ?_))) (Nat.le_refl _) ?mono ?old ?obs ?fin
  case mono =>
    intro i v w1 w2 he h
    have cellsK : ∀ b, (∃ fr, w1.heap[b]? = some (Obj.cells [bv 97].toArray 5 fr)) → ∃ fr, w2.heap[b]? = some (Obj.cells [bv 97].toArray 5 fr) := fun b ⟨fr, h1⟩ => let ⟨fr', h2, _⟩ := he.cells _ _ _ _ h1; ⟨fr', h2⟩
    rcases i with _ | _ | _ | _ | _ | _ | _ | _ | _ | _ | i
    · exact h
    · obtain ⟨b, h1, h2, h3⟩ := h; exact ⟨b, h1, h2, cellsK b h3⟩
    · exact he.rdF h
    · exact he.rdBs h
    · exact h
    · exact h
    · obtain ⟨b, h1, h2, h3⟩ := h; exact ⟨b, h1, h2, cellsK b h3⟩
    · exact he.rdF h
    · exact he.rdBs h
    · exact h
    · obtain ⟨b, h1, h2, h3⟩ := h; exact ⟨b, h1, h2, he.blk h3 (by decide)⟩
  case old =>
    intro i v w' hi h
    have hi' : i = 10 ∨ i = 11 := by simpa using hi
    rcases hi' with rfl | rfl
    · obtain ⟨b, h1, h2, h3⟩ := h; exact ⟨b, 0, h1.symm, h3.lt⟩
    · obtain ⟨b, h1, h2, h3⟩ := h; exact ⟨b, 0, h1.symm, h3.lt⟩
  case obs =>
    intro w0 he0
    have hs0 := he0.size
    have hE0 := e7.trans he0
    have hKs : ∀ w', Soft w7.heap.size w0 w' → Ext w w' := fun w' h' => Below.trans hE0 (h'.below.mono (by omega))
    refine ⟨fun w' he' => ?_, fun w' he' => ?_, fun w' he' => ?_, fun w' he' => ?_, fun w' he' => ?_, fun w' he' => ?_, fun w' he' => ?_, fun w' he' => ?_, fun w' he' => ?_, fun w' he' => ?_, fun w' he' => ?_, fun w' he' => ?_, trivial⟩
    · refine St0 ?_
      exact GL.factK rfl (Soft.refl _ _) ⟨rfl, fun h => absurd h (by decide)⟩
    · have := he'.size
      refine GL.buildSlice [bv 97] hT rfl rfl rfl rfl rfl rfl rfl (fillL_one rfl rfl (madeLen _ _)) fun b w'' hb hB he'' => ?_
      exact GL.factK rfl (Soft.ofExt (by omega) he'') ⟨⟨b, rfl, by omega, _, hB⟩, fun h => absurd h (by decide)⟩
    · rintro v ⟨b, rfl, hb, fr, hB⟩
      refine GL.markK (cs := [bv 97]) hT rfl rfl rfl rfl rfl rfl rfl hB fun w'' hc hfr => ?_
      obtain ⟨fr', hfr'⟩ := hfr
      exact GL.factK rfl (Soft.mark hb hB hc ⟨fr', hfr'⟩) ⟨⟨_, 1, rfl, Nat.le_refl _, .inr ⟨b, 0, rfl, _, _, fr', hfr', trivial, fun j v hj => by rw [Nat.zero_add, List.getElem?_toArray]; exact hj⟩⟩, fun h => absurd h (by decide)⟩
    · rintro v rfl v hv
      have := he'.size
      refine GL.buildSlice ([.slice (some ⟨b1, 0, none⟩) 32 32] ++ [v]) hT rfl rfl rfl rfl rfl rfl rfl (fillL_two rfl rfl (RdF.some hv) rfl (madeLen _ _)) fun b w'' hb hB he'' => ?_
      exact GL.factK rfl (Soft.ofExt (by omega) he'') ⟨bs2 hB (rdKey ((he'.at (hB1.ext he0).all).ext he'')) (RdB.ext hv he''), fun h => absurd h (by decide)⟩
    · rintro v hv
      have := he'.size
      refine GL.call rfl rfl rfl (tagOf_call 1 v _ any w' hv (by simp) (by decide) (hK.ext (hKs w' he'))) ?_
      rintro r w'' ⟨rfl, he''⟩
      exact GL.factK rfl (Soft.ofExt (by omega) he'') ⟨rfl, fun h => absurd h (by decide)⟩
    · refine St0 ?_
      exact GL.factK rfl (Soft.refl _ _) ⟨rfl, fun h => absurd h (by decide)⟩
    · have := he'.size
      refine GL.buildSlice [bv 97] hT rfl rfl rfl rfl rfl rfl rfl (fillL_one rfl rfl (madeLen _ _)) fun b w'' hb hB he'' => ?_
      exact GL.factK rfl (Soft.ofExt (by omega) he'') ⟨⟨b, rfl, by omega, _, hB⟩, fun h => absurd h (by decide)⟩
    · rintro v ⟨b, rfl, hb, fr, hB⟩
      refine GL.markK (cs := [bv 97]) hT rfl rfl rfl rfl rfl rfl rfl hB fun w'' hc hfr => ?_
      obtain ⟨fr', hfr'⟩ := hfr
      exact GL.factK rfl (Soft.mark hb hB hc ⟨fr', hfr'⟩) ⟨⟨_, 1, rfl, Nat.le_refl _, .inr ⟨b, 0, rfl, _, _, fr', hfr', trivial, fun j v hj => by rw [Nat.zero_add, List.getElem?_toArray]; exact hj⟩⟩, fun h => absurd h (by decide)⟩
    · rintro v rfl v hv
      have := he'.size
      refine GL.buildSlice ([.slice (some ⟨b2, 0, none⟩) 32 32] ++ [v]) hT rfl rfl rfl rfl rfl rfl rfl (fillL_two rfl rfl (RdF.some hv) rfl (madeLen _ _)) fun b w'' hb hB he'' => ?_
      exact GL.factK rfl (Soft.ofExt (by omega) he'') ⟨bs2 hB (rdKey ((he'.at (hB2.ext he0).all).ext he'')) (RdB.ext hv he''), fun h => absurd h (by decide)⟩
    · rintro v hv
      have := he'.size
      refine GL.call rfl rfl rfl (tagOf_call 1 v _ any w' hv (by simp) (by decide) (hK.ext (hKs w' he'))) ?_
      rintro r w'' ⟨rfl, he''⟩
      exact GL.factK rfl (Soft.ofExt (by omega) he'') ⟨rfl, fun h => absurd h (by decide)⟩
    · have := he'.size
      refine GL.alloc hT rfl rfl rfl fun b w'' hb hB he'' => ?_
      exact GL.factK rfl (Soft.ofExt (by omega) he'') ⟨⟨b, rfl, by omega, hB⟩, fun _ => ⟨b, 0, rfl, by omega⟩⟩
    · have := he'.size
      refine GL.alloc hT rfl rfl rfl fun b w'' hb hB he'' => ?_
      exact GL.factK rfl (Soft.ofExt (by omega) he'') ⟨⟨b, rfl, by omega, hB⟩, fun _ => ⟨b, 0, rfl, by omega⟩⟩
  case fin =>
    rintro w8 he8 v0 - v1 - v2 - v3 - v4 rfl v5 - v6 - v7 - v8 - v9 rfl v10 ⟨b4, rfl, hb4, hB4⟩ v11 ⟨b5, rfl, hb5, hB5⟩ hun
    have hne : b4 ≠ b5 := fun e => hun 10 11 rfl rfl (by decide) (by rw [e]; rfl)
    have hs8 := he8.size
    have hB1 := he8.blk hB1 (by decide)
    have hB2 := he8.blk hB2 (by decide)
    have hB3 := he8.blk hB3 (by decide)
    have e8 : Ext w w8 := Below.trans e7 (he8.below.mono (by omega))
    have s78 := e7.size
    refine GL.storeVar hT rfl rfl rfl rfl rfl (Dig.len _) (Dig.one _) hB4 (by rw [Dig.len]; rfl) fun w9 hc9 hB4 => ?_
    replace hB5 := hB5.chg hc9 (fun e => hne e.symm)
    replace hB1 := hB1.chg hc9 (by omega)
    replace hB2 := hB2.chg hc9 (by omega)
    replace hB3 := hB3.chg hc9 (by omega)
    refine GL.storeVar hT rfl rfl rfl rfl rfl (Dig.len _) (Dig.one _) hB5 (by rw [Dig.len]; rfl) fun w10 hc10 hB5 => ?_
    replace hB4 := hB4.chg hc10 hne
    replace hB1 := hB1.chg hc10 (by omega)
    replace hB2 := hB2.chg hc10 (by omega)
    replace hB3 := hB3.chg hc10 (by omega)
    have e10 : Ext w w10 := hc10.below (by omega) (hc9.below (by omega) e8)
    have lz1 := hB1.lt
    have lz2 := hB2.lt
    have lz3 := hB3.lt
    have lz4 := hB4.lt
    have lz5 := hB5.lt
    clear hun he8 hs8 s78 hc9 hc10 e8
    refine St1 (hB1.all) ?_
    refine GL.buildSlice [bv 97] hT rfl rfl rfl rfl rfl rfl rfl (fillL_one rfl rfl (madeLen _ _)) fun b27 w11 hb27 hB27 he11 => ?_
    refine GL.markK (cs := [bv 97]) hT rfl rfl rfl rfl rfl rfl rfl hB27 fun w12 hc12 hfr => ?_
    obtain ⟨fr', hfr'⟩ := hfr
    have he12 : Ext w10 w12 := hc12.below (by omega) he11
    have hA27 : At any w12 b27 0 (bcells [97]) := ⟨_, _, fr', hfr', trivial, fun j v hj => by rw [Nat.zero_add, List.getElem?_toArray]; exact hj⟩
    replace hB1 := hB1.ext he12
    replace hB2 := hB2.ext he12
    replace hB3 := hB3.ext he12
    replace hB4 := hB4.ext he12
    replace hB5 := hB5.ext he12
    refine St1 (hB3.all) ?_
    refine GL.buildSlice nineD.cells hT rfl rfl rfl rfl rfl rfl rfl (fillL_one rfl (Dig.len _) (madeLen _ _)) fun b30 w13 hb30 hB30 he13 => ?_
    replace hB1 := hB1.ext he13
    replace hB2 := hB2.ext he13
    replace hB3 := hB3.ext he13
    replace hB4 := hB4.ext he13
    replace hB5 := hB5.ext he13
    refine GL.build (pcells exA (.slice (some ⟨b27, 0, none⟩) 1 1) (.slice (some ⟨b30, 0, none⟩) 1 1)) hT rfl rfl rfl rfl rfl rfl (prf_fill _ _ _) ?_
    have e13 := e10.trans (he12.trans he13)
    refine GL.call rfl rfl rfl (vroot_call exA _ _ any w13 ⟨⟨_, 1, rfl, Nat.le_refl _, .inr ⟨b27, 0, rfl, hA27.ext he13⟩⟩, digs1 hB30⟩ (by decide) (by decide) (hK.ext e13)) ?_
    rintro r w14 ⟨rfl, he14⟩
    replace hB1 := hB1.ext he14
    replace hB2 := hB2.ext he14
    replace hB3 := hB3.ext he14
    replace hB4 := hB4.ext he14
    replace hB5 := hB5.ext he14
    have e14 := e13.trans he14
    rw [exA_may, exA_root]
    have e1 : badE true = 0 := rfl
    rw [e1]
    refine St0 ?_
    refine GL.alloc hT rfl rfl rfl fun b6 w15 hb6 hB6 he15 => ?_
    have l6 := hB6.lt
    have m1 := hB1.lt
    have m2 := hB2.lt
    have m3 := hB3.lt
    have m4 := hB4.lt
    have m5 := hB5.lt
    replace hB1 := hB1.ext he15
    replace hB2 := hB2.ext he15
    replace hB3 := hB3.ext he15
    replace hB4 := hB4.ext he15
    replace hB5 := hB5.ext he15
    have s14 := e14.size
    refine GL.storeVar hT rfl rfl rfl rfl rfl (Dig.len _) (Dig.one _) hB6 (by rw [Dig.len]; rfl) fun w16 hc16 hB6 => ?_
    replace hB1 := hB1.chg hc16 (by omega)
    replace hB2 := hB2.chg hc16 (by omega)
    replace hB3 := hB3.chg hc16 (by omega)
    replace hB4 := hB4.chg hc16 (by omega)
    replace hB5 := hB5.chg hc16 (by omega)
    have e16 : Ext w w16 := hc16.below (by omega) (e14.trans he15)
    clear hA27 hfr' hB27 hB30 hc12 hc16 lz1 lz2 lz3 lz4 lz5 m1 m2 m3 m4 m5
    refine St1 (hB2.all) ?_
    refine GL.buildSlice [bv 97] hT rfl rfl rfl rfl rfl rfl rfl (fillL_one rfl rfl (madeLen _ _)) fun b37 w21 hb37 hB37 he21 => ?_
    have m1 := hB1.lt
    refine GL.markK (cs := [bv 97]) hT rfl rfl rfl rfl rfl rfl rfl hB37 fun w22 hc22 hfr => ?_
    obtain ⟨fr', hfr'⟩ := hfr
    have he22 : Ext w16 w22 := hc22.below (by omega) he21
    have hA37 : At any w22 b37 0 (bcells [97]) := ⟨_, _, fr', hfr', trivial, fun j v hj => by rw [Nat.zero_add, List.getElem?_toArray]; exact hj⟩
    replace hB1 := hB1.ext he22
    replace hB2 := hB2.ext he22
    replace hB3 := hB3.ext he22
    replace hB4 := hB4.ext he22
    replace hB5 := hB5.ext he22
    replace hB6 := hB6.ext he22
    refine St1 (hB3.all) ?_
    refine GL.buildSlice nineD.cells hT rfl rfl rfl rfl rfl rfl rfl (fillL_one rfl (Dig.len _) (madeLen _ _)) fun b40 w23 hb40 hB40 he23 => ?_
    replace hB1 := hB1.ext he23
    replace hB2 := hB2.ext he23
    replace hB3 := hB3.ext he23
    replace hB4 := hB4.ext he23
    replace hB5 := hB5.ext he23
    replace hB6 := hB6.ext he23
    refine GL.build (pcells exB (.slice (some ⟨b37, 0, none⟩) 1 1) (.slice (some ⟨b40, 0, none⟩) 1 1)) hT rfl rfl rfl rfl rfl rfl (prf_fill _ _ _) ?_
    have e23 := e16.trans (he22.trans he23)
    refine GL.call rfl rfl rfl (vroot_call exB _ _ any w23 ⟨⟨_, 1, rfl, Nat.le_refl _, .inr ⟨b37, 0, rfl, hA37.ext he23⟩⟩, digs1 hB40⟩ (by decide) (by decide) (hK.ext e23)) ?_
    rintro r w24 ⟨rfl, he24⟩
    replace hB1 := hB1.ext he24
    replace hB2 := hB2.ext he24
    replace hB3 := hB3.ext he24
    replace hB4 := hB4.ext he24
    replace hB5 := hB5.ext he24
    replace hB6 := hB6.ext he24
    have e24 := e23.trans he24
    rw [exB_may, exB_root]
    rw [e1]
    refine St0 ?_
    refine GL.alloc hT rfl rfl rfl fun b8 w25 hb8 hB8 he25 => ?_
    have l8 := hB8.lt
    have n1 := hB1.lt
    have n2 := hB2.lt
    have n3 := hB3.lt
    have n4 := hB4.lt
    have n5 := hB5.lt
    have n6 := hB6.lt
    replace hB1 := hB1.ext he25
    replace hB2 := hB2.ext he25
    replace hB3 := hB3.ext he25
    replace hB4 := hB4.ext he25
    replace hB5 := hB5.ext he25
    replace hB6 := hB6.ext he25
    have s24 := e24.size
    refine GL.storeVar hT rfl rfl rfl rfl rfl (Dig.len _) (Dig.one _) hB8 (by rw [Dig.len]; rfl) fun w26 hc26 hB8 => ?_
    replace hB3 := hB3.chg hc26 (by omega)
    replace hB4 := hB4.chg hc26 (by omega)
    replace hB5 := hB5.chg hc26 (by omega)
    replace hB6 := hB6.chg hc26 (by omega)
    have e26 : Ext w w26 := hc26.below (by omega) (e24.trans he25)
    clear hA37 hfr' hB37 hB40 hc22 hc26 m1 n1 n2 n3 n4 n5 n6 hB1 hB2
    refine St0 ?_
    refine GL.build (pcells exC nil nil) hT rfl rfl rfl rfl rfl rfl (by show _ = some (Dig.zero.cells ++ (bv 3 :: (Dig.zero.cells ++ [nil, nil]))); rw [Dig.zero_cells]; rfl) ?_
    refine GL.call rfl rfl rfl (vroot_call exC nil nil any w26 ⟨RdF.nil _ _ _ _, RdF.nil _ _ _ _⟩ (by decide) (by decide) (hK.ext e26)) ?_
    rintro r w27 ⟨rfl, he27⟩
    replace hB3 := hB3.ext he27
    replace hB4 := hB4.ext he27
    replace hB5 := hB5.ext he27
    replace hB6 := hB6.ext he27
    replace hB8 := hB8.ext he27
    have e27 := e26.trans he27
    rw [exC_may]
    have e3 : badE false = 8 := rfl
    rw [e3]
    refine St0 ?_
    refine GL.alloc hT rfl rfl rfl fun b10 w28 hb10 hB10 he28 => ?_
    have l10 := hB10.lt
    have n3 := hB3.lt
    have n4 := hB4.lt
    have n5 := hB5.lt
    have n6 := hB6.lt
    have n8 := hB8.lt
    replace hB3 := hB3.ext he28
    replace hB4 := hB4.ext he28
    replace hB5 := hB5.ext he28
    replace hB6 := hB6.ext he28
    replace hB8 := hB8.ext he28
    have s27 := e27.size
    refine GL.storeVar hT rfl rfl rfl rfl rfl (Dig.len _) (Dig.one _) hB10 (by rw [Dig.len]; rfl) fun w29 hc29 hB10 => ?_
    replace hB3 := hB3.chg hc29 (by omega)
    replace hB4 := hB4.chg hc29 (by omega)
    replace hB5 := hB5.chg hc29 (by omega)
    replace hB6 := hB6.chg hc29 (by omega)
    replace hB8 := hB8.chg hc29 (by omega)
    have e29 : Ext w w29 := hc29.below (by omega) (e27.trans he28)
    clear hc29 n3 n4 n5 n6 n8 hB10 l10
    have hq1 : shaD (tagB 2 [leafA.1, nineD.1]) = shaD (tagB 2 [leafA.1, nineD.1]) := rfl
    have hq2 : shaD (tagB 2 [nineD.1, leafB.1]) = shaD (tagB 2 [nineD.1, leafB.1]) := rfl
    refine St0 ?_
    refine G.drawS 37 (List.range 37) [11, 23] follows (by kernel_rfl) (by kernel_rfl) (by kernel_rfl) (by kernel_rfl) (by kernel_rfl) (by kernel_rfl) ?_
    refine GS.call rfl rfl rfl (vs := []) (fun w' he' => alive8_call w' (hK.ext (e29.trans he'))) ?_
    refine SSt1 (hB6.all) ?_
    refine GS.op rfl fun w30 he30 => ?_
    replace hB3 := hB3.ext he30
    replace hB4 := hB4.ext he30
    replace hB5 := hB5.ext he30
    replace hB6 := hB6.ext he30
    replace hB8 := hB8.ext he30
    refine GL.buildSlice ([.slice (some ⟨b4, 0, none⟩) 32 32] ++ [.slice (some ⟨b3, 0, none⟩) 32 32]) hT rfl rfl rfl rfl rfl rfl rfl (fillL_two rfl rfl rfl rfl (madeLen _ _)) fun b61 w31 hb61 hB61 he31 => ?_
    replace hB3 := hB3.ext he31
    replace hB4 := hB4.ext he31
    replace hB5 := hB5.ext he31
    replace hB6 := hB6.ext he31
    replace hB8 := hB8.ext he31
    refine GS.done he31 ?_
    have e31 := e29.trans (he30.trans he31)
    refine GS.call rfl rfl rfl (fun w' he' => tagOf_call 2 _ [leafA.1, nineD.1] any w' (bs2 (hB61.ext he') (rdKey (hB4.all.ext he')) (rdKey (hB3.all.ext he'))) (by simp) (two_len _ _) (hK.ext (e31.trans he'))) ?_
    refine SSt1 (hB8.all) ?_
    refine GS.op rfl fun w32 he32 => ?_
    replace hB3 := hB3.ext he32
    replace hB4 := hB4.ext he32
    replace hB5 := hB5.ext he32
    replace hB6 := hB6.ext he32
    replace hB8 := hB8.ext he32
    refine GL.buildSlice ([.slice (some ⟨b3, 0, none⟩) 32 32] ++ [.slice (some ⟨b5, 0, none⟩) 32 32]) hT rfl rfl rfl rfl rfl rfl rfl (fillL_two rfl rfl rfl rfl (madeLen _ _)) fun b73 w33 hb73 hB73 he33 => ?_
    replace hB3 := hB3.ext he33
    replace hB4 := hB4.ext he33
    replace hB5 := hB5.ext he33
    replace hB6 := hB6.ext he33
    replace hB8 := hB8.ext he33
    refine GS.done he33 ?_
    have e33 := e31.trans (he32.trans he33)
    refine GS.call rfl rfl rfl (fun w' he' => tagOf_call 2 _ [nineD.1, leafB.1] any w' (bs2 (hB73.ext he') (rdKey (hB3.all.ext he')) (rdKey (hB5.all.ext he'))) (by simp) (two_len _ _) (hK.ext (e33.trans he'))) ?_
    refine SSt0 ?_
    refine GS.build (pcells exC nil nil) hT rfl rfl rfl rfl rfl rfl (by show _ = some (Dig.zero.cells ++ (bv 3 :: (Dig.zero.cells ++ [nil, nil]))); rw [Dig.zero_cells]; rfl) ?_
    refine GS.buildArr Dig.zero.cells hT rfl rfl rfl rfl rfl rfl (by rw [Dig.zero_cells]; rfl) ?_
    refine GS.call (v := .bool false) rfl rfl rfl (fun w' he' => (vfits_call exC Dig.zero nil nil any w' ⟨RdF.nil _ _ _ _, RdF.nil _ _ _ _⟩ (by decide) (by decide) (hK.ext (e33.trans he'))).mono fun r w'' ⟨h1, h2⟩ => ⟨by rw [h1, fitsB, exC_may]; rfl, h2⟩) ?_
    refine SSt0 ?_
    refine GS.tail fun w34 he34 => ?_
    refine St0 ?_
    exact G.ret1 rfl rfl rfl rfl ⟨rfl, e33.trans he34⟩
end Go.Proofs.YtefneilaongpbaaDoor
