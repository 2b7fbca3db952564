/-
  What is digested on the way to a proof's root: its document's list; the program's end of it, and the turning of a list.
-/
import Derived.Test.YtefneilaongpbaaDoorRoot5
import Derived.Test.YtefneilaongpbaaDoorDrawW
set_option linter.unusedVariables false
set_option linter.unusedSimpArgs false
set_option maxRecDepth 100000
set_option maxHeartbeats 4000000
namespace Go.Bd
section
variable {P : Program} {n : Sz} {Q : Act → World → Prop} {f : Fr} {w : World} {ops : Array Oper} {rest : List Oper} {ty : TypeId} {pos : String} {aft : Array Edge} {g : Option (Nat × Bool)} {tt : List (Nat × Ti)}
/-- A store, its world told. -/
theorem GL.storeX {t : TypeId} {x y : Operand} {i : Ti} {b o : Nat} {T : TypeId} {v : Value} {c vs : List Value} (hT : Tys P tt) (hw : want ops f g = some true) (hi : TT.get tt t = some i) (hx : ev f x = some (ptr b o)) (hy : ev f y = some v) (hv : v.cells = vs.toArray) (hl : vs.length = i.size) (h1 : ∀ u ∈ vs, u.oneCell' = true) (hB : Blk w b T c) (hle : o + vs.length ≤ c.length)
    (h : GL P n Q ops rest f (World.put w b o vs)) : GL P n Q ops (⟨none, .store t x y, ty, pos, aft, g⟩ :: rest) f w :=
  GL.writes hw rfl (fun a ha => by simp [execOp, Instr.storeAt, ha.eval hx, ha.eval hy, Instr.sureAddr, run_store hT hi hv hl h1 hB hle]) h
theorem GL.sub8 (A B C : Int) {d : Nat} {t t' : TypeId} {x y : Operand} (hw : want ops f g = some true) (hlt : Nat.blt d n.size = true) (hx : ev f x = some (.int .u8 A)) (hy : ev f y = some (.int .u8 B)) (h0 : A - B = C) (h1 : IntKind.u8.wrap C = C)
    (h : GL P n Q ops rest ((d, .int .u8 C) :: f) w) : GL P n Q ops (⟨some d, .binOp .sub t x y t', ty, pos, aft, g⟩ :: rest) f w :=
  GL.yields hw rfl hlt (fun a ha => by simp [execOp, ha.eval hx, ha.eval hy, eqGuard, binOp, Op.intArith, h0, h1]) h
end
end Go.Bd
namespace Go.Proofs.YtefneilaongpbaaDoor
open Go Go.Bd Go.RowKit
attribute [local irreducible] G GL GQ

/-! the document's list -/
def lowF (x : Prf) : Bytes := if x.en = 1 then tagB 1 [x.key.1, x.val] else if x.en = 2 then tagB 1 [x.other.1, x.val] else tagB 0 []
def upB (x : Prf) (i : Nat) (below s : Dig) : Bytes := if x.key.bit i = 0 then tagB 2 [below.1, s.1] else tagB 2 [s.1, below.1]
noncomputable def fromL (x : Prf) : Nat → List Dig → List Bytes
  | _, [] => [lowF x]
  | i, s :: ss => upB x i (shaD ((fromL x (i + 1) ss).headD [])) s :: fromL x (i + 1) ss
noncomputable def fromP (x : Prf) : List Bytes := fromL x 0 x.sides
theorem fromL_len (x : Prf) : ∀ (i : Nat) (ss : List Dig), (fromL x i ss).length = ss.length + 1
  | _, [] => rfl
  | i, s :: ss => by simp [fromL, fromL_len x (i + 1) ss]
theorem low_len (x : Prf) (h : x.val.length ≤ 1000) : (lowF x).length ≤ 2000 := by
  unfold lowF
  split
  · rw [tag2_len, x.key.2]; omega
  · split
    · rw [tag2_len, x.other.2]; omega
    · decide
theorem up_len (x : Prf) (i : Nat) (a b : Dig) : (upB x i a b).length ≤ 2000 := by
  unfold upB
  split <;> · rw [tag2_len, a.2, b.2]; omega
theorem fromL_small (x : Prf) (h : x.val.length ≤ 1000) : ∀ (i : Nat) (ss : List Dig), ∀ b ∈ fromL x i ss, b.length ≤ 2000
  | i, [], b, hb => by
    simp only [fromL, List.mem_singleton] at hb
    rw [hb]; exact low_len x h
  | i, s :: ss, b, hb => by
    simp only [fromL, List.mem_cons] at hb
    rcases hb with rfl | hb
    · exact up_len _ _ _ _
    · exact fromL_small x h (i + 1) ss b hb
theorem fromL_head (x : Prf) (i : Nat) (ss : List Dig) : (fromL x i ss)[0]? = some ((fromL x i ss).headD []) := by
  cases ss <;> rfl

/-! byte strings in memory of one's own -/
def OwnBs (B : Nat) (w : World) (v : Value) (xs : List Bytes) : Prop := ∃ us, All2 (fun u x => OwnB B w u x) us xs ∧ Own B w v xs.length 1 32 us
theorem OwnBs.ext {B : Nat} {w w' : World} {v : Value} {xs : List Bytes} (h : OwnBs B w v xs) (he : Ext w w') : OwnBs B w' v xs := let ⟨us, h1, h2⟩ := h; ⟨us, h1.imp fun _ _ h => h.ext he, h2.ext he⟩
theorem OwnBs.mono {B B' : Nat} {w : World} {v : Value} {xs : List Bytes} (h : OwnBs B w v xs) (hB : B' ≤ B) : OwnBs B' w v xs := let ⟨us, h1, h2⟩ := h; ⟨us, h1.imp fun _ _ h => h.mono hB, h2.mono hB⟩
theorem OwnBs.bare (B : Nat) (w : World) (p : Option Addr) : OwnBs B w (.slice p 0 0) [] := ⟨[], .nil, Own.bare _ _ _ _ _⟩
theorem OwnBs.shape {B : Nat} {w : World} {v : Value} {xs : List Bytes} (h : OwnBs B w v xs) : ∃ p c, v = .slice p xs.length c := let ⟨us, h1, h2⟩ := h; h2.shape
theorem singles {α : Type} (us : List α) : (us.map fun u => [u]).flatten = us := by
  induction us with
  | nil => rfl
  | cons u us ih => simp [ih]
theorem OwnBs.rd {B : Nat} {w : World} {v : Value} {xs : List Bytes} (h : OwnBs B w v xs) : RdBs (fresh B) w v xs := by
  obtain ⟨us, h1, h2⟩ := h
  refine ⟨us.map fun u => [u], ?_, by rw [singles]; exact h2.fresh⟩
  clear h2
  induction h1 with
  | nil => exact .nil
  | cons h _ ih => exact .cons ⟨_, rfl, h.fresh⟩ ih
theorem OwnBs.one {B : Nat} {w : World} {us : List Value} {xs : List Bytes} (h : All2 (fun u x => OwnB B w u x) us xs) : ∀ u ∈ us, u.cells = #[u] ∧ u.oneCell' = true := by
  induction h with
  | nil => intro u hu; cases hu
  | cons h _ ih =>
    intro u hu
    rcases List.mem_cons.1 hu with rfl | hu
    · exact ⟨h.some, h.one⟩
    · exact ih u hu
theorem own_ne {B : Nat} {w : World} {v : Value} {n sz : Nat} {T T' : TypeId} {cs c : List Value} {b : Nat} (h : Own B w v n sz T cs) (hB : Blk w b T' c) (hne : Nat.beq T T' = false) : rowOf v ≠ some b := by
  intro e
  rcases h.2 with ⟨rfl, p, rfl⟩ | ⟨g, cap, rest, rfl, _, _, hblk, _⟩
  · simp [rowOf] at e
  · cases cap with
    | zero => simp [rowOf] at e
    | succ q =>
      simp [rowOf] at e
      subst e
      unfold Blk at hblk hB
      rw [hblk] at hB
      simp only [Option.some.injEq, Obj.cells.injEq] at hB
      rw [hB.2.1] at hne
      simp at hne
theorem own_keep {B : Nat} {w w' : World} {v : Value} {n sz : Nat} {T T' : TypeId} {cs c : List Value} {b : Nat} (h : Own B w v n sz T cs) (hB : Blk w b T' c) (hne : Nat.beq T T' = false && Nat.blt 0 sz) (hc : Chg b w w') : Own B w' v n sz T cs := by
  have h2 : Nat.beq T T' = false ∧ Nat.blt 0 sz = true := by simpa using hne
  exact h.keep (fun g hg _ => hc.block g (fun e => own_ne h hB h2.1 (by rw [hg, e]))) (by simpa [Nat.blt_eq] using h2.2)
/-- A write into the row of byte strings leaves the strings alone. -/
theorem bytesBut {B B' : Nat} {w w' : World} {us : List Value} {xs : List Bytes} {v : Value} {n sz : Nat} {cs : List Value} (h : All2 (fun u x => OwnB B w u x) us xs) (ho : Own B' w v n sz 32 cs) (hb : But (rowOf v) w w') : All2 (fun u x => OwnB B w' u x) us xs :=
  h.imp fun u x h2 => h2.keep (fun g hg hlt => hb.block g hlt (fun e => Own.sep h2 ho rfl g hg e.symm)) (by decide)
theorem All2.reverse {α β : Type} {R : α → β → Prop} {xs : List α} {ys : List β} (h : All2 R xs ys) : All2 R xs.reverse ys.reverse := by
  induction h with
  | nil => exact .nil
  | cons h _ ih => rw [List.reverse_cons, List.reverse_cons]; exact ih.append (.cons h .nil)

/-! the turning of a list -/
/-- After i exchanges. -/
def turned (us ds : List Value) (i : Nat) : Prop := ds.length = us.length ∧ ∀ k, k < us.length → ds[k]? = if k < i ∨ us.length ≤ k + i then us[us.length - 1 - k]? else us[k]?
theorem turned_zero (us : List Value) : turned us us 0 := ⟨rfl, fun k hk => by rw [if_neg (by omega)]⟩
theorem turned_step {us ds : List Value} {i j : Nat} {a b : Value} (h : turned us ds i) (hij : i < j) (hj : i + j + 1 = us.length) (ha : ds[i]? = some a) (hb : ds[j]? = some b) : turned us ((ds.set i b).set j a) (i + 1) := by
  obtain ⟨hl, h⟩ := h
  refine ⟨by simp [hl], fun k hk => ?_⟩
  have h1 := h i (by omega)
  have h2 := h j (by omega)
  rw [if_neg (by omega)] at h1 h2
  rw [h1] at ha
  rw [h2] at hb
  rw [List.getElem?_set, List.getElem?_set]
  simp only [List.length_set]
  by_cases e : j = k
  · subst e
    rw [if_pos rfl, if_pos (by omega), if_pos (by omega), show us.length - 1 - j = i by omega, ha]
  · rw [if_neg e]
    by_cases e' : i = k
    · subst e'
      rw [if_pos rfl, if_pos (by omega), if_pos (by omega), show us.length - 1 - i = j by omega, hb]
    · rw [if_neg e', h k hk]
      by_cases hc : k < i ∨ us.length ≤ k + i
      · rw [if_pos hc, if_pos (by omega)]
      · rw [if_neg hc, if_neg (by omega)]
theorem turned_end {us ds : List Value} {i : Nat} (h : turned us ds i) (hi : us.length ≤ 2 * i + 1) : ds = us.reverse := by
  obtain ⟨hl, h⟩ := h
  apply List.ext_getElem?
  intro k
  by_cases hk : k < us.length
  · rw [h k hk, List.getElem?_reverse hk]
    by_cases hc : k < i ∨ us.length ≤ k + i
    · rw [if_pos hc]
    · rw [if_neg hc, show us.length - 1 - k = k by omega]
  · rw [List.getElem?_eq_none (by omega), List.getElem?_eq_none (by simp; omega)]
theorem but_ext (r : Option Nat) {w w' : World} (h : Ext w w') : But r w w' := ⟨h.os, h.tape, h.output, h.size, fun k hk _ => h.block k hk⟩
theorem but_chg {b : Nat} {w w' : World} (h : Chg b w w') : But (some b) w w' := ⟨h.os, h.tape, h.output, Nat.le_of_eq h.size.symm, fun k _ hr => h.block k (fun e => hr (by rw [e]))⟩
theorem put_set {w : World} {g o : Nat} {T : TypeId} {ds : List Value} {v : Value} (h : Blk w g T ds) (hlt : o < ds.length) : Blk (World.put w g o [v]) g T (ds.set o v) := by
  have := blk_put (o := o) (vs := [v]) h
  have e : splice ds o [v] = ds.set o v := by simp [splice, List.set_eq_take_append_cons_drop, hlt]
  rwa [e] at this
theorem reverse_call (v : Value) (xs : List Bytes) (B : Nat) (w : World) (h : OwnBs B w v xs) (hn : xs.length ≤ 1000) :
    Does Tryd.prog 93 #[v] w fun r w' => OwnBs B w' v xs.reverse ∧ But (rowOf v) w w' := by
  refine call_walk Tryd.func93 (by kernel_rfl) rfl Tryd.ntmps93 rfl ?_
  by_cases h0 : xs.length = 0
  · obtain rfl : xs = [] := List.eq_nil_of_length_eq_zero h0
    obtain ⟨p, c, rfl⟩ := h.shape
    simp only [List.length_nil] at h ⊢
    refine St0 ?_
    refine G.loop ?_
    refine St0 ?_
    exact G.end0 rfl rfl rfl ⟨h, ⟨rfl, rfl, rfl, Nat.le_refl _, fun _ _ _ => rfl⟩⟩
  obtain ⟨us, hus, hown⟩ := id h
  obtain ⟨hl, ho⟩ := id hown
  have hul : us.length = xs.length := by omega
  rcases ho with ⟨h0', p, rfl⟩ | ⟨g, cap, rest, rfl, hBg, hc, hblk, hr⟩
  · omega
  have hone := OwnBs.one hus
  generalize hN : xs.length = N at *
  have hrow : rowOf (.slice (some ⟨g, 0, none⟩) N cap) = some g := by
    cases cap with
    | zero => omega
    | succ c => rfl
  rw [hrow]
  refine St0 ?_
  rw [show (N : Int) - 1 = (N : Int) - 1 - ((0 : Nat) : Int) by omega]
  refine G.sub (f' := [(2, iv ((0 : Nat) : Int)), (3, iv ((N : Int) - 1 - ((0 : Nat) : Int))), (0, .slice (some ⟨g, 0, none⟩) N cap)]) (by (repeat (first | exact Fr.sub_nil _ | refine Fr.sub_cons rfl ?_))) ?_
  refine G.rounds (α := Nat) (fun i f w' => i ≤ N ∧ But (some g) w w' ∧ (∃ ds, turned us ds i ∧ Blk w' g 32 (ds ++ rest)) ∧ f = [(2, iv i), (3, iv ((N : Int) - 1 - (i : Int))), (0, .slice (some ⟨g, 0, none⟩) N cap)]) (fun i => N - i) ?round 0 ⟨by omega, ⟨rfl, rfl, rfl, Nat.le_refl _, fun _ _ _ => rfl⟩, ⟨us, turned_zero us, hblk⟩, rfl⟩
  rintro i f w2 ⟨hi, hc2, ⟨ds, hds, hB⟩, rfl⟩ again
  by_cases hlt : (i : Int) < (N : Int) - 1 - i
  · obtain ⟨jn, hjn⟩ : ∃ jn : Nat, (N : Int) - 1 - i = jn := ⟨N - 1 - i, by omega⟩
    have hij : i < jn := by omega
    have hjN : i + jn + 1 = us.length := by omega
    have hdl := hds.1
    rw [hjn]
    obtain ⟨a, ha⟩ : ∃ a, ds[i]? = some a := ⟨_, List.getElem?_eq_getElem (by omega)⟩
    obtain ⟨b, hb⟩ : ∃ b, ds[jn]? = some b := ⟨_, List.getElem?_eq_getElem (by omega)⟩
    have hmem : ∀ k u, k < us.length → ds[k]? = some u → u ∈ us := fun k u hk hu => by
      rw [hds.2 k hk] at hu
      split at hu <;> exact List.mem_of_getElem? hu
    have ha1 := hone a (hmem i a (by omega) ha)
    have hb1 := hone b (hmem jn b (by omega) hb)
    have hAa : ∀ w', Blk w' g 32 (ds ++ rest) → At any w' g i [a] := fun w' h' => h'.one (by rw [List.getElem?_append_left (by omega)]; exact ha) |>.imp fun _ _ _ => trivial
    have hAb : ∀ w', Blk w' g 32 (ds ++ rest) → At any w' g jn [b] := fun w' h' => h'.one (by rw [List.getElem?_append_left (by omega)]; exact hb) |>.imp fun _ _ _ => trivial
    refine St0 ?_
    refine G.drawW 13 15 [0, 0, 2, 2, 0, 0, 0, 0, 0, 0, 0, 0, 0, 3, 1, 4] [(2, iv i), (3, iv jn), (0, .slice (some ⟨g, 0, none⟩) N cap)] (fun k v => match k with
      | 0 => Value.slice (some ⟨g, 0, none⟩) N cap = v | 1 => iv i = v | 2 => Value.slice (some ⟨g, 0, none⟩) N cap = v | 3 => iv jn = v | 4 => Value.slice (some ⟨g, 0, none⟩) N cap = v | 5 => iv jn = v | 6 => ptr g jn = v | 7 => b = v
      | 8 => Value.slice (some ⟨g, 0, none⟩) N cap = v | 9 => iv i = v | 10 => ptr g i = v | 11 => a = v | 12 => ptr g i = v | 14 => ptr g jn = v | _ => True) follows (by kernel_rfl) (by kernel_rfl) (by (repeat (first | exact Fr.sub_nil _ | refine Fr.sub_cons rfl ?_))) ?_
    intro w0 he0
    have hB0 := hB.ext he0
    have hB1 := put_set (o := i) (v := b) hB0 (by simp; omega)
    rw [List.set_append_left _ _ (by omega)] at hB1
    have hB2 := put_set (o := jn) (v := a) hB1 (by simp; omega)
    rw [List.set_append_left _ _ (by simp; omega)] at hB2
    refine ⟨World.put w0 g i [b], World.put (World.put w0 g i [b]) g jn [a], ⟨?_, ?_, fun w' => ?_, fun w' => ?_, ?_, ?_, ?_, ?_, ?_, ?_, ?_, ?_, ?_, ?_, ?_, ?_, trivial⟩, ?_⟩
    · refine St0 ?_
      exact GL.val rfl rfl
    · refine St0 ?_
      exact GL.val rfl rfl
    · refine St0 ?_
      exact GL.val rfl rfl
    · refine St0 ?_
      exact GL.val rfl rfl
    · refine St0 ?_
      exact GL.val rfl rfl
    · refine St0 ?_
      exact GL.val rfl rfl
    · rintro v rfl v rfl
      (refine GL.indexSlice (jn) 1 (jn) hT rfl rfl rfl rfl rfl rfl rfl rfl ?_ ?_ ?_ ?_; (focus omega); (focus omega); (focus omega))
      exact GL.val rfl rfl
    · rintro v rfl
      refine St1 (hAb _ hB0) ?_
      exact GL.val rfl rfl
    · refine St0 ?_
      exact GL.val rfl rfl
    · refine St0 ?_
      exact GL.val rfl rfl
    · rintro v rfl v rfl
      (refine GL.indexSlice (i) 1 (i) hT rfl rfl rfl rfl rfl rfl rfl rfl ?_ ?_ ?_ ?_; (focus omega); (focus omega); (focus omega))
      exact GL.val rfl rfl
    · rintro v rfl
      refine St1 (hAa _ hB0) ?_
      exact GL.val rfl rfl
    · rintro v rfl v rfl
      (refine GL.indexSlice (i) 1 (i) hT rfl rfl rfl rfl rfl rfl rfl rfl ?_ ?_ ?_ ?_; (focus omega); (focus omega); (focus omega))
      exact GL.val rfl rfl
    · rintro v rfl v rfl
      refine GL.storeX (vs := [b]) hT rfl rfl rfl rfl hb1.1 rfl (by simpa using hb1.2) hB0 (by simp; omega) ?_
      exact GL.stop (by (repeat (first | exact Fr.sub_nil _ | refine Fr.sub_cons rfl ?_)))
    · rintro v rfl v rfl
      (refine GL.indexSlice (jn) 1 (jn) hT rfl rfl rfl rfl rfl rfl rfl rfl ?_ ?_ ?_ ?_; (focus omega); (focus omega); (focus omega))
      exact GL.val rfl rfl
    · rintro v rfl v rfl
      refine GL.storeX (vs := [a]) hT rfl rfl rfl rfl ha1.1 rfl (by simpa using ha1.2) hB1 (by simp; omega) ?_
      exact GL.stop (by (repeat (first | exact Fr.sub_nil _ | refine Fr.sub_cons rfl ?_)))
    refine St0 ?_
    refine G.sub (f' := [(2, iv ((i + 1 : Nat) : Int)), (3, iv ((N : Int) - 1 - ((i + 1 : Nat) : Int))), (0, .slice (some ⟨g, 0, none⟩) N cap)]) ?_ (again (i + 1) _ _ (by omega) ⟨by omega, ?_, ⟨_, turned_step hds hij hjN ha hb, hB2⟩, rfl⟩)
    · rw [show (N : Int) - 1 - ((i + 1 : Nat) : Int) = (jn : Int) - 1 by omega]
      (repeat (first | exact Fr.sub_nil _ | refine Fr.sub_cons rfl ?_))
    · exact ((hc2.trans (but_ext _ he0)).trans (but_chg (chg_put _ _ _ _))).trans (but_chg (chg_put _ _ _ _))
  · refine St0 ?_
    have hrev := turned_end hds (by omega)
    rw [hrev] at hB
    have hown' : Own B w2 (.slice (some ⟨g, 0, none⟩) N cap) N 1 32 us.reverse := ⟨by rw [List.length_reverse]; omega, .inr ⟨g, cap, rest, rfl, hBg, hc, hB, hr⟩⟩
    refine G.end0 rfl rfl rfl ⟨⟨us.reverse, All2.reverse (bytesBut hus hown (by rw [hrow]; exact hc2)), ?_⟩, hc2⟩
    rw [List.length_reverse, hN]
    exact hown'
end Go.Proofs.YtefneilaongpbaaDoor
