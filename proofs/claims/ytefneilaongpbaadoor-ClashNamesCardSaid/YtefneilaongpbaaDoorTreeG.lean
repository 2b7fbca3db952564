import Derived.Test.YtefneilaongpbaaDoorTreeE
import Derived.Test.YtefneilaongpbaaDoorDrawW
import Derived.Test.YtefneilaongpbaaDoorTreeA
/-
  A maker of trees: one node more; with a value for a key.
-/
set_option linter.unusedVariables false
set_option linter.unusedSimpArgs false
set_option maxRecDepth 100000
set_option maxHeartbeats 4000000
namespace Go.Proofs.YtefneilaongpbaaDoor
open Go Go.Bd Go.RowKit
attribute [local irreducible] G GL GQ GS

/-- All but the maker and one row of the old blocks are as they were. -/
structure Mk (bm : Nat) (r : Option Nat) (w w' : World) : Prop where
  os : w'.os = w.os
  tape : w'.tape = w.tape
  output : w'.output = w.output
  size : w.heap.size ≤ w'.heap.size
  block : ∀ k, k < w.heap.size → k ≠ bm → some k ≠ r → w'.heap[k]? = w.heap[k]?
def NewRow (w : World) (u u' : Value) : Prop := rowOf u' = rowOf u ∨ ∀ g, rowOf u' = some g → w.heap.size ≤ g
section
variable {bm : Nat} {r r' : Option Nat} {w w' w'' : World} {u u' u'' : Value}
theorem NewRow.refl (w : World) (u : Value) : NewRow w u u := .inl rfl
theorem NewRow.trans (h : NewRow w u u') (h' : NewRow w' u' u'') (hs : w.heap.size ≤ w'.heap.size) : NewRow w u u'' := by
  rcases h' with h' | h'
  · rcases h with h | h
    · exact .inl (h'.trans h)
    · exact .inr fun g hg => h g (by rw [← h', hg])
  · exact .inr fun g hg => Nat.le_trans hs (h' g hg)
theorem Mk.of_ext (bm : Nat) (r : Option Nat) (h : Ext w w') : Mk bm r w w' := ⟨h.os, h.tape, h.output, h.size, fun k hk _ _ => h.block k hk⟩
theorem Mk.of_but (bm : Nat) (h : But r w w') : Mk bm r w w' := ⟨h.os, h.tape, h.output, h.size, fun k hk _ hr => h.block k hk hr⟩
theorem Mk.of_chg (r : Option Nat) (h : Chg bm w w') : Mk bm r w w' := ⟨h.os, h.tape, h.output, Nat.le_of_eq h.size.symm, fun k _ hk _ => h.block k hk⟩
theorem Mk.trans (h : Mk bm r w w') (h' : Mk bm r' w' w'') (hr : r' = r ∨ ∀ g, r' = some g → w.heap.size ≤ g) : Mk bm r w w'' :=
  ⟨h'.os.trans h.os, h'.tape.trans h.tape, h'.output.trans h.output, Nat.le_trans h.size h'.size, fun k hk h1 h2 => (h'.block k (Nat.lt_of_lt_of_le hk h.size) h1 (fun e => by
    rcases hr with hr | hr
    · exact h2 (by rw [e, hr])
    · have := hr k e.symm; omega)).trans (h.block k hk h1 h2)⟩
theorem Mk.below {B : Nat} {w0 : World} (h : Mk bm r w w') (hbm : B ≤ bm) (hr : ∀ k, r = some k → B ≤ k) (hB : B ≤ w.heap.size) (h0 : Below B w0 w) : Below B w0 w' :=
  h0.trans ⟨h.os, h.tape, h.output, h.size, fun k hk => h.block k (by omega) (by omega) (fun e => by have := hr k e.symm; omega)⟩
theorem Mk.ext (h : Mk bm r w w') (h' : Ext w' w'') : Mk bm r w w'' := h.trans (Mk.of_ext bm r h') (.inl rfl)
theorem Mk.chg {b : Nat} (h : Mk bm r w w') (h' : Chg b w' w'') (hb : w.heap.size ≤ b) : Mk bm r w w'' :=
  ⟨h'.os.trans h.os, h'.tape.trans h.tape, h'.output.trans h.output, by rw [h'.size]; exact h.size, fun k hk h1 h2 => (h'.block k (by omega)).trans (h.block k hk h1 h2)⟩
theorem Mk.blk {b : Nat} {T : TypeId} {c : List Value} (h : Mk bm r w w') (hB : Blk w b T c) (h1 : b ≠ bm) (h2 : r ≠ some b) : Blk w' b T c := hB.keep (h.block b hB.lt h1 (fun e => h2 e.symm))
end
/-- Bytes of one's own stay: neither the maker nor a row of nodes. -/
theorem Mk.ownB {B B' : Nat} {w w' : World} {bm : Nat} {ux u : Value} {bs : Bytes} {n : Nat} {cs c : List Value} (h : OwnB B w ux bs) (hm : Blk w bm 172 c) (ho : Own B' w u n 36 56 cs) (hk : Mk bm (rowOf u) w w') : OwnB B w' ux bs :=
  h.keep (fun g hg hl => hk.block g hl (fun e => by subst e; exact h.ne_blk hm (by decide) hg) (fun e => Own.sep h ho (by decide) g hg e.symm)) (by decide)

theorem node_call (B bm : Nat) (u : Value) (r : Int) (ns : List Node) (x : Node) (ux : Value) (w : World) (hm : Blk w bm 172 [u, iv r]) (hn : OwnN B w u ns) (hx : OwnB B w ux x.val) (hlen : ns.length ≤ 1000000) (hBw : B ≤ w.heap.size) :
    Does Tryd.prog 164 #[ptr bm 0, ndv x ux] w fun q w' => q = iv ((ns.length + 1 : Nat) : Int) ∧ ∃ u', Blk w' bm 172 [u', iv r] ∧ OwnN B w' u' (ns ++ [x]) ∧ Mk bm (rowOf u) w w' ∧ NewRow w u u' := by
  refine call_walk Tryd.func164 (by kernel_rfl) rfl Tryd.ntmps164 rfl ?_
  refine St0 ?_
  refine GL.box (vs := ncells x ux) rfl rfl rfl rfl fun b3 w1 hb3 hB3 he1 => ?_
  refine St0 ?_
  refine G.drawZ 9 0 8 [1, 2, 3, 4, 5, 6, 7] [(0, ptr bm 0), (3, ptr b3 0)] (fun i v w' => match i with
    | 1 => v = ptr bm 0 | 2 => v = ptr bm 0 | 3 => v = ptr bm 0 | 4 => v = ptr bm 0 | 5 => v = u | 6 => v = ndv x ux | _ => ∃ b, v = .slice (some ⟨b, 0, none⟩) 1 1 ∧ Blk w' b 56 (ncells x ux))
    (fun v w' => Blk w' bm 172 [u, iv r] ∧ OwnN B w' v (ns ++ [x]) ∧ Mk bm (rowOf u) w w' ∧ NewRow w u v) (ptr bm 0) follows (by kernel_rfl) (by kernel_rfl) (by kernel_rfl) (by kernel_rfl) (by kernel_rfl) (by kernel_rfl) (by kernel_rfl) (by kernel_rfl) (by (repeat (first | exact Fr.sub_nil _ | refine Fr.sub_cons rfl ?_))) ⟨_, _, _, _, _, rfl, rfl⟩ ?mono ?obs ?act ?fin
  case mono =>
    intro i v w3 w4 he h
    rcases i with _ | _ | _ | _ | _ | _ | _ | i
    all_goals first | exact h | (obtain ⟨b, h1, h2⟩ := h; exact ⟨b, h1, h2.ext he⟩)
  case obs =>
    intro w0 he0
    refine ⟨fun w' he' => ?_, fun w' he' => ?_, fun w' he' => ?_, fun w' he' => ?_, fun w' he' => ?_, fun w' he' => ?_, fun w' he' => ?_, trivial⟩
    · refine St0 ?_
      exact GL.fact rfl (Ext.refl _) rfl
    · rintro v rfl
      refine St0 ?_
      exact GL.fact rfl (Ext.refl _) rfl
    · rintro v rfl
      refine St0 ?_
      exact GL.fact rfl (Ext.refl _) rfl
    · rintro v rfl
      refine St0 ?_
      exact GL.fact rfl (Ext.refl _) rfl
    · rintro v rfl
      refine St1 ((tvAt (hm.ext (he1.trans (he0.trans he'))).all).1) ?_
      exact GL.fact rfl (Ext.refl _) rfl
    · refine St1 ((hB3.ext (he0.trans he')).all) ?_
      exact GL.fact rfl (Ext.refl _) rfl
    · rintro v rfl
      refine GL.buildSlice (ncells x ux) hT rfl rfl rfl rfl rfl rfl rfl (fillL_one rfl (ncells_len _ _) (madeLen _ _)) fun b7 w7 hb7 hB7 he7 => ?_
      exact GL.fact rfl he7 ⟨b7, rfl, hB7⟩
  case act =>
    rintro w2 he2 v rfl v ⟨b7, rfl, hB7⟩
    have hE2 := he1.trans he2
    obtain ⟨es, hes, hown⟩ := hn.ext hE2
    have hsrc : RdF any w2 (.slice (some ⟨b7, 0, none⟩) 1 1) 1 (ncells x ux) := ⟨_, 1, rfl, Nat.le_refl _, .inr ⟨b7, 0, rfl, hB7.all⟩⟩
    have s2 := hE2.size
    refine GL.append hT rfl rfl rfl rfl rfl rfl rfl rfl rfl rfl hown hsrc (ncells_len _ _) (ncells_one _ hx.one) (by show (ns.length + 1) * 80 ≤ _; omega) (by omega) (by omega) fun r' w8 ho hb hrow => ?_
    refine GL.act rfl ⟨(hm.ext hE2).but hb (hown.ne_blk (hm.ext hE2) (by decide)), ownN_app hes hown ⟨ux, rfl, hx.ext hE2⟩ hb ho, (Mk.of_ext bm _ hE2).trans (Mk.of_but bm hb) (.inl rfl), ?_⟩
    rcases hrow with h | ⟨h, _⟩
    · exact .inl h
    · exact .inr fun g hg => by rw [h] at hg; cases hg; exact s2
  case fin =>
    rintro v w2 ⟨hm2, ho, hk, hr⟩
    obtain ⟨pv, cv, rfl, hcv⟩ := ho.rd.isSlice
    refine St0 ?_
    refine GL.store1 hT rfl rfl rfl rfl rfl rfl rfl hm2 (by simp) fun w3 hc3 hm3 => ?_
    refine St1 ((tvAt (r := r) hm3.all).1) ?_
    refine G.ret1 rfl rfl rfl rfl ⟨by rw [List.length_append]; rfl, _, hm3, ho.chg hm2 (by decide) hc3, hk.trans (Mk.of_chg (rowOf u) hc3) (.inl rfl), hr⟩
theorem bit_or (k : Dig) (d : Nat) : k.bit d = 0 ∨ k.bit d = 1 := by have := k.bit_lt d; omega
theorem with_call6 (B bm : Nat) (k : Dig) (v : Bytes) (ux : Value) (r : Int) (hvb : valB v.length = true) (m : Nat) : ∀ (n d : Nat) (b : Dig) (u : Value) (ns : List Node) (ps : List Pair) (w : World), 257 - d ≤ m → d ≤ 256 → Zb d b → Pre d k b → Stand ns n d b ps → Blk w bm 172 [u, iv r] → OwnN B w u ns → OwnB B w ux v → ns.length ≤ 600000 → B ≤ w.heap.size →
    Does Tryd.prog 129 #[ptr bm 0, iv n, iv d, ndv (leafOf k v) ux] w fun q w' => ∃ (ms : List Node) (to : Nat) (u' : Value), q = iv to ∧ Blk w' bm 172 [u', iv r] ∧ OwnN B w' u' (ns ++ ms) ∧ Stand (ns ++ ms) to d b (withL (without ps k) k v) ∧ OneAll ns.length ms ∧ ms.length + d ≤ 257 ∧ to ≠ 0 ∧ Mk bm (rowOf u) w w' ∧ NewRow w u u' := by
  induction m with
  | zero => intro n d b u ns ps w hm; omega
  | succ m ih =>
    intro n d b u ns ps w hmd hd256 hz hp hs hm hn hx hlen hBw
    refine call_walk Tryd.func129 (by kernel_rfl) rfl Tryd.ntmps129 rfl ?_
    refine St0 ?_
    refine GL.box (vs := ncells (leafOf k v) ux) rfl rfl rfl rfl fun b7 w1 hb7 hB7 he1 => ?_
    have lm := hm.lt
    have s1 := he1.size
    by_cases h0 : (n : Int) = 0
    · obtain rfl : n = 0 := by omega
      refine St1 (hB7.all) ?_
      refine GL.call rfl rfl rfl (node_call B bm _ r ns (leafOf k v) ux w1 (hm.ext he1) (hn.ext he1) (Own.ext hx he1) (by omega) (Nat.le_trans hBw he1.size)) ?_
      rintro _ w9 ⟨rfl, u', hm', hn', hk', hr'⟩
      refine St0 ?_
      refine G.ret1 rfl rfl rfl rfl ⟨[leafOf k v], ns.length + 1, u', rfl, hm', hn', ?_, OneAll.one (oneB_leaf hvb _), by simp; omega, by omega, (Mk.of_ext bm _ he1).trans hk' (.inl rfl), (NewRow.refl w _).trans hr' he1.size⟩
      have : ps = [] := (hs.empty).2 rfl
      rw [with_own (by rw [this]; simp) v]
      exact stand_leaf hp
    obtain ⟨i, rfl⟩ : ∃ i, n = i + 1 := ⟨n - 1, by omega⟩
    have hil := hs.le
    obtain ⟨x, hx0⟩ : ∃ x, ns[i]? = some x := ⟨_, List.getElem?_eq_getElem (by omega)⟩
    obtain ⟨bb, o, c', uo, hv, hu, hA⟩ := (hn.ext he1).rd.elem hx0
    subst hv
    refine St1 ((tvAt (hm.ext he1).all).1) ?_
    (refine GL.indexSlice (i) 36 ((o + i * 36)) hT rfl rfl rfl rfl rfl rfl rfl rfl ?_ ?_ ?_ ?_; (focus omega); (focus omega); (focus omega))
    refine St1 (hA) ?_
    refine GL.alloc hT rfl rfl rfl fun b9 w2 hb9 hB9 he2 => ?_
    have l7 := hB7.lt
    replace hB7 := hB7.ext he2
    refine St0 ?_
    refine GL.storeVar hT rfl rfl rfl rfl rfl (ncells_len _ _) (ncells_one _ hu.one) hB9 (by rw [ncells_len]; decide) fun w3 hc3 hB9 => ?_
    replace hB7 := hB7.chg hc3 (by omega)
    have hE3 : Ext w w3 := hc3.below (by omega) (he1.trans he2)
    have s3 := hE3.size
    have hx9 := nAt hB9.all
    have hx7 := nAt hB7.all
    cases hl : x.leaf
    · have hlf := hx9.leaf
      rw [hl] at hlf
      obtain ⟨l, rr, p0, p1, hd, e1, e2, hS, h2, rfl⟩ := hs.sides hx0 hl
      obtain ⟨y, hy, hyk⟩ := (hs.pw hz).other (by simpa using h2) k
      have h2w := two_with (v := v) hy hyk
      refine St3 (hlf) (hx9.key) (hx7.key) ?_
      refine GL.alloc hT rfl rfl rfl fun b10 w4 hb10 hB10 he4 => ?_
      have l7' := hB7.lt
      replace hB7 := hB7.ext he4
      replace hB9 := hB9.ext he4
      have hE4 := hE3.trans he4
      refine St2 (hlf.ext he4) (hB9.all) ?_
      refine GL.call rfl rfl rfl (roads_call x _ w4) ?_
      rintro _ w5 ⟨rfl, he5⟩
      rw [e1, e2]
      have l10 := hB10.lt
      have s5 := he5.size
      replace hB7 := hB7.ext he5
      replace hB10 := hB10.ext he5
      refine GL.storeVar (vs := [iv l, iv rr]) hT rfl rfl rfl rfl rfl rfl (by intro c hc; simp at hc; rcases hc with rfl | rfl <;> rfl) hB10 rfl fun w5' hc5 hB10 => ?_
      have hE5 : Ext w w5' := hc5.below (by omega) (hE4.trans he5)
      replace hB7 := hB7.chg hc5 (by omega)
      refine St1 ((nAt hB7.all).key) ?_
      refine GL.call rfl rfl rfl (bit6_call k d hd w5') ?_
      rintro _ w6 ⟨rfl, he6⟩
      replace hB7 := hB7.ext he6
      replace hB10 := hB10.ext he6
      have hE6 := hE5.trans he6
      refine St0 ?_
      rcases bit_or k d with hkb | hkb
      · refine G.quietTail 7 follows (by kernel_rfl) (by kernel_rfl) (by kernel_rfl) (by kernel_rfl) ?_
        refine QSt0 ?_
        (refine GQ.indexArr (0) 1 (0) hT rfl rfl rfl rfl rfl rfl rfl rfl ?_ ?_ ?_ ?_; (focus omega); (focus omega); (focus omega))
        refine QSt2 ((tvAt hB10.all).1) (hB7.all) ?_
        rw [show (d : Int) + 1 = ((d + 1 : Nat) : Int) by omega]
        refine GQ.tail fun w7 he7 => ?_
        have hE7 := hE6.trans he7
        replace hB10 := hB10.ext he7
        have hp' := hp.side hz hd
        rw [hkb] at hp'
        refine GL.call rfl rfl rfl (ih _ (d + 1) (sideOf b d 0) _ ns _ w7 (by omega) (by omega) (hz.side hd 0) hp' hS.left (hm.ext hE7) (hn.ext hE7) (Own.ext hx hE7) hlen (Nat.le_trans hBw hE7.size)) ?_
        rintro _ w8 ⟨ms, to, u8, rfl, hm8, hn8, hst, hone, hmsl, hto0, hk8, hr8⟩
        have hnb : rowOf (.slice (some ⟨bb, o, none⟩) ns.length c') ≠ some b10 := by
          obtain ⟨es, hes, hown⟩ := hn.ext hE7
          exact hown.ne_blk hB10 (by decide)
        replace hB10 := hk8.blk hB10 (by omega) hnb
        refine St0 ?_
        (refine GL.indexArr (0) 1 (0) hT rfl rfl rfl rfl rfl rfl rfl rfl ?_ ?_ ?_ ?_; (focus omega); (focus omega); (focus omega))
        refine GL.store1 hT rfl rfl rfl rfl rfl rfl rfl hB10 (by simp) fun w9 hc9 hB10' => ?_
        replace hB10' : Blk w9 b10 _ [iv to, iv rr] := hB10'
        have hk9 := ((Mk.of_ext bm _ hE7).trans hk8 (.inl rfl)).chg hc9 (by omega)
        have hm9 := hm8.chg hc9 (by omega)
        have hn9 := hn8.chg hB10 (by decide) hc9
        refine St1 (hB10'.all) ?_
        refine GL.call rfl rfl rfl (fork_call _ _ w9) ?_
        rintro _ wa ⟨rfl, hea⟩
        have hle := hst.le
        have hlo := hS.right.le
        rw [List.length_append] at hle
        have sz8 := hk9.size
        have sza := hea.size
        refine GL.call rfl rfl rfl (node_call B bm u8 r (ns ++ ms) _ (.slice none 0 0) wa (hm9.ext hea) (hn9.ext hea) (Own.bare B wa none 1 _) (by rw [List.length_append]; omega) (by omega)) ?_
        rintro _ wb ⟨rfl, u', hm', hn', hk', hr'⟩
        refine St0 ?_
        have hr9 := (NewRow.refl w _).trans hr8 hE7.size
        refine G.ret1 rfl rfl rfl rfl ⟨ms ++ [forkOf to rr], (ns ++ ms).length + 1, u', rfl, hm', by rw [← List.append_assoc]; exact hn', by rw [← List.append_assoc]; exact hS.with0 hz hd hkb hst h2w, hone.append (OneAll.one (oneB_fork (by omega) (by omega) (.inl hto0))), by simp; omega, by omega, (hk9.ext hea).trans hk' hr9, hr9.trans hr' (by omega)⟩
      · refine G.quietTail 7 follows (by kernel_rfl) (by kernel_rfl) (by kernel_rfl) (by kernel_rfl) ?_
        refine QSt0 ?_
        (refine GQ.indexArr (1) 1 (1) hT rfl rfl rfl rfl rfl rfl rfl rfl ?_ ?_ ?_ ?_; (focus omega); (focus omega); (focus omega))
        refine QSt2 ((tvAt hB10.all).2) (hB7.all) ?_
        rw [show (d : Int) + 1 = ((d + 1 : Nat) : Int) by omega]
        refine GQ.tail fun w7 he7 => ?_
        have hE7 := hE6.trans he7
        replace hB10 := hB10.ext he7
        have hp' := hp.side hz hd
        rw [hkb] at hp'
        refine GL.call rfl rfl rfl (ih _ (d + 1) (sideOf b d 1) _ ns _ w7 (by omega) (by omega) (hz.side hd 1) hp' hS.right (hm.ext hE7) (hn.ext hE7) (Own.ext hx hE7) hlen (Nat.le_trans hBw hE7.size)) ?_
        rintro _ w8 ⟨ms, to, u8, rfl, hm8, hn8, hst, hone, hmsl, hto0, hk8, hr8⟩
        have hnb : rowOf (.slice (some ⟨bb, o, none⟩) ns.length c') ≠ some b10 := by
          obtain ⟨es, hes, hown⟩ := hn.ext hE7
          exact hown.ne_blk hB10 (by decide)
        replace hB10 := hk8.blk hB10 (by omega) hnb
        refine St0 ?_
        (refine GL.indexArr (1) 1 (1) hT rfl rfl rfl rfl rfl rfl rfl rfl ?_ ?_ ?_ ?_; (focus omega); (focus omega); (focus omega))
        refine GL.store1 hT rfl rfl rfl rfl rfl rfl rfl hB10 (by simp) fun w9 hc9 hB10' => ?_
        replace hB10' : Blk w9 b10 _ [iv l, iv to] := hB10'
        have hk9 := ((Mk.of_ext bm _ hE7).trans hk8 (.inl rfl)).chg hc9 (by omega)
        have hm9 := hm8.chg hc9 (by omega)
        have hn9 := hn8.chg hB10 (by decide) hc9
        refine St1 (hB10'.all) ?_
        refine GL.call rfl rfl rfl (fork_call _ _ w9) ?_
        rintro _ wa ⟨rfl, hea⟩
        have hle := hst.le
        have hlo := hS.left.le
        rw [List.length_append] at hle
        have sz8 := hk9.size
        have sza := hea.size
        refine GL.call rfl rfl rfl (node_call B bm u8 r (ns ++ ms) _ (.slice none 0 0) wa (hm9.ext hea) (hn9.ext hea) (Own.bare B wa none 1 _) (by rw [List.length_append]; omega) (by omega)) ?_
        rintro _ wb ⟨rfl, u', hm', hn', hk', hr'⟩
        refine St0 ?_
        have hr9 := (NewRow.refl w _).trans hr8 hE7.size
        refine G.ret1 rfl rfl rfl rfl ⟨ms ++ [forkOf l to], (ns ++ ms).length + 1, u', rfl, hm', by rw [← List.append_assoc]; exact hn', by rw [← List.append_assoc]; exact hS.with1 hz hd hkb hst h2w, hone.append (OneAll.one (oneB_fork (by omega) (by omega) (.inr hto0))), by simp; omega, by omega, (hk9.ext hea).trans hk' hr9, hr9.trans hr' (by omega)⟩
    · have hlf := hx9.leaf
      rw [hl] at hlf
      obtain ⟨rfl, hpx⟩ := hs.one hx0 hl
      by_cases hke : x.key = k
      · refine St4 (hlf) (hx9.key) (hx7.key) (hB7.all) ?_
        refine GL.call rfl rfl rfl (node_call B bm _ r ns (leafOf k v) ux w3 (hm.ext hE3) (hn.ext hE3) (Own.ext hx hE3) (by omega) (Nat.le_trans hBw hE3.size)) ?_
        rintro _ w9 ⟨rfl, u', hm', hn', hk', hr'⟩
        refine St0 ?_
        refine G.ret1 rfl rfl rfl rfl ⟨[leafOf k v], ns.length + 1, u', rfl, hm', hn', ?_, OneAll.one (oneB_leaf hvb _), by simp; omega, by omega, (Mk.of_ext bm _ hE3).trans hk' (.inl rfl), (NewRow.refl w _).trans hr' hE3.size⟩
        rw [with_own (by simpa using hke) v]
        exact stand_leaf hp
      · have hd : d < 256 := by
          rcases Nat.lt_or_ge d 256 with h | h
          · exact h
          · obtain rfl : d = 256 := by omega
            exact absurd (hpx.full.trans hp.full.symm) hke
        have h2w := two_with (v := v) (ps := [⟨x.key, x.val⟩]) (k := k) (List.mem_singleton.2 rfl) hke
        obtain ⟨hS0, hS1⟩ := hs.sidesLeaf hx0 hl hz hd
        refine St3 (hlf) (hx9.key) (hx7.key) ?_
        refine GL.alloc hT rfl rfl rfl fun b10 w4 hb10 hB10 he4 => ?_
        have l7' := hB7.lt
        replace hB7 := hB7.ext he4
        replace hB9 := hB9.ext he4
        have hE4 := hE3.trans he4
        refine St2 (hlf.ext he4) ((nAt hB9.all).key) ?_
        refine GL.call rfl rfl rfl (bit6_call x.key d hd w4) ?_
        rintro _ w5 ⟨rfl, he5⟩
        have l10 := hB10.lt
        have s5 := he5.size
        replace hB7 := hB7.ext he5
        replace hB10 := hB10.ext he5
        refine St0 ?_
        rcases bit_or x.key d with hxb | hxb
        · have hS := hS0 hxb
          obtain ⟨l, hl'⟩ : ∃ l, l = i + 1 := ⟨_, rfl⟩
          rw [← hl'] at hS ⊢
          obtain ⟨rr, hrr⟩ : ∃ rr, rr = 0 := ⟨_, rfl⟩
          rw [← hrr] at hS
          (refine GL.indexArr (0) 1 (0) hT rfl rfl rfl rfl rfl rfl rfl rfl ?_ ?_ ?_ ?_; (focus omega); (focus omega); (focus omega))
          refine GL.store1 hT rfl rfl rfl rfl rfl rfl rfl hB10 (by decide) fun w5' hc5 hB10 => ?_
          replace hB10 : Blk w5' b10 126 [iv l, iv rr] := by rw [hrr]; exact hB10
          have hE5 : Ext w w5' := hc5.below (by omega) (hE4.trans he5)
          replace hB7 := hB7.chg hc5 (by omega)
          refine St1 ((nAt hB7.all).key) ?_
          refine GL.call rfl rfl rfl (bit6_call k d hd w5') ?_
          rintro _ w6 ⟨rfl, he6⟩
          replace hB7 := hB7.ext he6
          replace hB10 := hB10.ext he6
          have hE6 := hE5.trans he6
          refine St0 ?_
          rcases bit_or k d with hkb | hkb
          · refine G.quietTail 7 follows (by kernel_rfl) (by kernel_rfl) (by kernel_rfl) (by kernel_rfl) ?_
            refine QSt0 ?_
            (refine GQ.indexArr (0) 1 (0) hT rfl rfl rfl rfl rfl rfl rfl rfl ?_ ?_ ?_ ?_; (focus omega); (focus omega); (focus omega))
            refine QSt2 ((tvAt hB10.all).1) (hB7.all) ?_
            rw [show (d : Int) + 1 = ((d + 1 : Nat) : Int) by omega]
            refine GQ.tail fun w7 he7 => ?_
            have hE7 := hE6.trans he7
            replace hB10 := hB10.ext he7
            have hp' := hp.side hz hd
            rw [hkb] at hp'
            refine GL.call rfl rfl rfl (ih _ (d + 1) (sideOf b d 0) _ ns _ w7 (by omega) (by omega) (hz.side hd 0) hp' hS.left (hm.ext hE7) (hn.ext hE7) (Own.ext hx hE7) hlen (Nat.le_trans hBw hE7.size)) ?_
            rintro _ w8 ⟨ms, to, u8, rfl, hm8, hn8, hst, hone, hmsl, hto0, hk8, hr8⟩
            have hnb : rowOf (.slice (some ⟨bb, o, none⟩) ns.length c') ≠ some b10 := by
              obtain ⟨es, hes, hown⟩ := hn.ext hE7
              exact hown.ne_blk hB10 (by decide)
            replace hB10 := hk8.blk hB10 (by omega) hnb
            refine St0 ?_
            (refine GL.indexArr (0) 1 (0) hT rfl rfl rfl rfl rfl rfl rfl rfl ?_ ?_ ?_ ?_; (focus omega); (focus omega); (focus omega))
            refine GL.store1 hT rfl rfl rfl rfl rfl rfl rfl hB10 (by simp) fun w9 hc9 hB10' => ?_
            replace hB10' : Blk w9 b10 _ [iv to, iv rr] := hB10'
            have hk9 := ((Mk.of_ext bm _ hE7).trans hk8 (.inl rfl)).chg hc9 (by omega)
            have hm9 := hm8.chg hc9 (by omega)
            have hn9 := hn8.chg hB10 (by decide) hc9
            refine St1 (hB10'.all) ?_
            refine GL.call rfl rfl rfl (fork_call _ _ w9) ?_
            rintro _ wa ⟨rfl, hea⟩
            have hle := hst.le
            have hlo := hS.right.le
            rw [List.length_append] at hle
            have sz8 := hk9.size
            have sza := hea.size
            refine GL.call rfl rfl rfl (node_call B bm u8 r (ns ++ ms) _ (.slice none 0 0) wa (hm9.ext hea) (hn9.ext hea) (Own.bare B wa none 1 _) (by rw [List.length_append]; omega) (by omega)) ?_
            rintro _ wb ⟨rfl, u', hm', hn', hk', hr'⟩
            refine St0 ?_
            have hr9 := (NewRow.refl w _).trans hr8 hE7.size
            refine G.ret1 rfl rfl rfl rfl ⟨ms ++ [forkOf to rr], (ns ++ ms).length + 1, u', rfl, hm', by rw [← List.append_assoc]; exact hn', by rw [← List.append_assoc]; exact hS.with0 hz hd hkb hst h2w, hone.append (OneAll.one (oneB_fork (by omega) (by omega) (.inl hto0))), by simp; omega, by omega, (hk9.ext hea).trans hk' hr9, hr9.trans hr' (by omega)⟩
          · refine G.quietTail 7 follows (by kernel_rfl) (by kernel_rfl) (by kernel_rfl) (by kernel_rfl) ?_
            refine QSt0 ?_
            (refine GQ.indexArr (1) 1 (1) hT rfl rfl rfl rfl rfl rfl rfl rfl ?_ ?_ ?_ ?_; (focus omega); (focus omega); (focus omega))
            refine QSt2 ((tvAt hB10.all).2) (hB7.all) ?_
            rw [show (d : Int) + 1 = ((d + 1 : Nat) : Int) by omega]
            refine GQ.tail fun w7 he7 => ?_
            have hE7 := hE6.trans he7
            replace hB10 := hB10.ext he7
            have hp' := hp.side hz hd
            rw [hkb] at hp'
            refine GL.call rfl rfl rfl (ih _ (d + 1) (sideOf b d 1) _ ns _ w7 (by omega) (by omega) (hz.side hd 1) hp' hS.right (hm.ext hE7) (hn.ext hE7) (Own.ext hx hE7) hlen (Nat.le_trans hBw hE7.size)) ?_
            rintro _ w8 ⟨ms, to, u8, rfl, hm8, hn8, hst, hone, hmsl, hto0, hk8, hr8⟩
            have hnb : rowOf (.slice (some ⟨bb, o, none⟩) ns.length c') ≠ some b10 := by
              obtain ⟨es, hes, hown⟩ := hn.ext hE7
              exact hown.ne_blk hB10 (by decide)
            replace hB10 := hk8.blk hB10 (by omega) hnb
            refine St0 ?_
            (refine GL.indexArr (1) 1 (1) hT rfl rfl rfl rfl rfl rfl rfl rfl ?_ ?_ ?_ ?_; (focus omega); (focus omega); (focus omega))
            refine GL.store1 hT rfl rfl rfl rfl rfl rfl rfl hB10 (by simp) fun w9 hc9 hB10' => ?_
            replace hB10' : Blk w9 b10 _ [iv l, iv to] := hB10'
            have hk9 := ((Mk.of_ext bm _ hE7).trans hk8 (.inl rfl)).chg hc9 (by omega)
            have hm9 := hm8.chg hc9 (by omega)
            have hn9 := hn8.chg hB10 (by decide) hc9
            refine St1 (hB10'.all) ?_
            refine GL.call rfl rfl rfl (fork_call _ _ w9) ?_
            rintro _ wa ⟨rfl, hea⟩
            have hle := hst.le
            have hlo := hS.left.le
            rw [List.length_append] at hle
            have sz8 := hk9.size
            have sza := hea.size
            refine GL.call rfl rfl rfl (node_call B bm u8 r (ns ++ ms) _ (.slice none 0 0) wa (hm9.ext hea) (hn9.ext hea) (Own.bare B wa none 1 _) (by rw [List.length_append]; omega) (by omega)) ?_
            rintro _ wb ⟨rfl, u', hm', hn', hk', hr'⟩
            refine St0 ?_
            have hr9 := (NewRow.refl w _).trans hr8 hE7.size
            refine G.ret1 rfl rfl rfl rfl ⟨ms ++ [forkOf l to], (ns ++ ms).length + 1, u', rfl, hm', by rw [← List.append_assoc]; exact hn', by rw [← List.append_assoc]; exact hS.with1 hz hd hkb hst h2w, hone.append (OneAll.one (oneB_fork (by omega) (by omega) (.inr hto0))), by simp; omega, by omega, (hk9.ext hea).trans hk' hr9, hr9.trans hr' (by omega)⟩
        · have hS := hS1 hxb
          obtain ⟨rr, hrr⟩ : ∃ rr, rr = i + 1 := ⟨_, rfl⟩
          rw [← hrr] at hS ⊢
          obtain ⟨l, hl'⟩ : ∃ l, l = 0 := ⟨_, rfl⟩
          rw [← hl'] at hS
          (refine GL.indexArr (1) 1 (1) hT rfl rfl rfl rfl rfl rfl rfl rfl ?_ ?_ ?_ ?_; (focus omega); (focus omega); (focus omega))
          refine GL.store1 hT rfl rfl rfl rfl rfl rfl rfl hB10 (by decide) fun w5' hc5 hB10 => ?_
          replace hB10 : Blk w5' b10 126 [iv l, iv rr] := by rw [hl']; exact hB10
          have hE5 : Ext w w5' := hc5.below (by omega) (hE4.trans he5)
          replace hB7 := hB7.chg hc5 (by omega)
          refine St1 ((nAt hB7.all).key) ?_
          refine GL.call rfl rfl rfl (bit6_call k d hd w5') ?_
          rintro _ w6 ⟨rfl, he6⟩
          replace hB7 := hB7.ext he6
          replace hB10 := hB10.ext he6
          have hE6 := hE5.trans he6
          refine St0 ?_
          rcases bit_or k d with hkb | hkb
          · refine G.quietTail 7 follows (by kernel_rfl) (by kernel_rfl) (by kernel_rfl) (by kernel_rfl) ?_
            refine QSt0 ?_
            (refine GQ.indexArr (0) 1 (0) hT rfl rfl rfl rfl rfl rfl rfl rfl ?_ ?_ ?_ ?_; (focus omega); (focus omega); (focus omega))
            refine QSt2 ((tvAt hB10.all).1) (hB7.all) ?_
            rw [show (d : Int) + 1 = ((d + 1 : Nat) : Int) by omega]
            refine GQ.tail fun w7 he7 => ?_
            have hE7 := hE6.trans he7
            replace hB10 := hB10.ext he7
            have hp' := hp.side hz hd
            rw [hkb] at hp'
            refine GL.call rfl rfl rfl (ih _ (d + 1) (sideOf b d 0) _ ns _ w7 (by omega) (by omega) (hz.side hd 0) hp' hS.left (hm.ext hE7) (hn.ext hE7) (Own.ext hx hE7) hlen (Nat.le_trans hBw hE7.size)) ?_
            rintro _ w8 ⟨ms, to, u8, rfl, hm8, hn8, hst, hone, hmsl, hto0, hk8, hr8⟩
            have hnb : rowOf (.slice (some ⟨bb, o, none⟩) ns.length c') ≠ some b10 := by
              obtain ⟨es, hes, hown⟩ := hn.ext hE7
              exact hown.ne_blk hB10 (by decide)
            replace hB10 := hk8.blk hB10 (by omega) hnb
            refine St0 ?_
            (refine GL.indexArr (0) 1 (0) hT rfl rfl rfl rfl rfl rfl rfl rfl ?_ ?_ ?_ ?_; (focus omega); (focus omega); (focus omega))
            refine GL.store1 hT rfl rfl rfl rfl rfl rfl rfl hB10 (by simp) fun w9 hc9 hB10' => ?_
            replace hB10' : Blk w9 b10 _ [iv to, iv rr] := hB10'
            have hk9 := ((Mk.of_ext bm _ hE7).trans hk8 (.inl rfl)).chg hc9 (by omega)
            have hm9 := hm8.chg hc9 (by omega)
            have hn9 := hn8.chg hB10 (by decide) hc9
            refine St1 (hB10'.all) ?_
            refine GL.call rfl rfl rfl (fork_call _ _ w9) ?_
            rintro _ wa ⟨rfl, hea⟩
            have hle := hst.le
            have hlo := hS.right.le
            rw [List.length_append] at hle
            have sz8 := hk9.size
            have sza := hea.size
            refine GL.call rfl rfl rfl (node_call B bm u8 r (ns ++ ms) _ (.slice none 0 0) wa (hm9.ext hea) (hn9.ext hea) (Own.bare B wa none 1 _) (by rw [List.length_append]; omega) (by omega)) ?_
            rintro _ wb ⟨rfl, u', hm', hn', hk', hr'⟩
            refine St0 ?_
            have hr9 := (NewRow.refl w _).trans hr8 hE7.size
            refine G.ret1 rfl rfl rfl rfl ⟨ms ++ [forkOf to rr], (ns ++ ms).length + 1, u', rfl, hm', by rw [← List.append_assoc]; exact hn', by rw [← List.append_assoc]; exact hS.with0 hz hd hkb hst h2w, hone.append (OneAll.one (oneB_fork (by omega) (by omega) (.inl hto0))), by simp; omega, by omega, (hk9.ext hea).trans hk' hr9, hr9.trans hr' (by omega)⟩
          · refine G.quietTail 7 follows (by kernel_rfl) (by kernel_rfl) (by kernel_rfl) (by kernel_rfl) ?_
            refine QSt0 ?_
            (refine GQ.indexArr (1) 1 (1) hT rfl rfl rfl rfl rfl rfl rfl rfl ?_ ?_ ?_ ?_; (focus omega); (focus omega); (focus omega))
            refine QSt2 ((tvAt hB10.all).2) (hB7.all) ?_
            rw [show (d : Int) + 1 = ((d + 1 : Nat) : Int) by omega]
            refine GQ.tail fun w7 he7 => ?_
            have hE7 := hE6.trans he7
            replace hB10 := hB10.ext he7
            have hp' := hp.side hz hd
            rw [hkb] at hp'
            refine GL.call rfl rfl rfl (ih _ (d + 1) (sideOf b d 1) _ ns _ w7 (by omega) (by omega) (hz.side hd 1) hp' hS.right (hm.ext hE7) (hn.ext hE7) (Own.ext hx hE7) hlen (Nat.le_trans hBw hE7.size)) ?_
            rintro _ w8 ⟨ms, to, u8, rfl, hm8, hn8, hst, hone, hmsl, hto0, hk8, hr8⟩
            have hnb : rowOf (.slice (some ⟨bb, o, none⟩) ns.length c') ≠ some b10 := by
              obtain ⟨es, hes, hown⟩ := hn.ext hE7
              exact hown.ne_blk hB10 (by decide)
            replace hB10 := hk8.blk hB10 (by omega) hnb
            refine St0 ?_
            (refine GL.indexArr (1) 1 (1) hT rfl rfl rfl rfl rfl rfl rfl rfl ?_ ?_ ?_ ?_; (focus omega); (focus omega); (focus omega))
            refine GL.store1 hT rfl rfl rfl rfl rfl rfl rfl hB10 (by simp) fun w9 hc9 hB10' => ?_
            replace hB10' : Blk w9 b10 _ [iv l, iv to] := hB10'
            have hk9 := ((Mk.of_ext bm _ hE7).trans hk8 (.inl rfl)).chg hc9 (by omega)
            have hm9 := hm8.chg hc9 (by omega)
            have hn9 := hn8.chg hB10 (by decide) hc9
            refine St1 (hB10'.all) ?_
            refine GL.call rfl rfl rfl (fork_call _ _ w9) ?_
            rintro _ wa ⟨rfl, hea⟩
            have hle := hst.le
            have hlo := hS.left.le
            rw [List.length_append] at hle
            have sz8 := hk9.size
            have sza := hea.size
            refine GL.call rfl rfl rfl (node_call B bm u8 r (ns ++ ms) _ (.slice none 0 0) wa (hm9.ext hea) (hn9.ext hea) (Own.bare B wa none 1 _) (by rw [List.length_append]; omega) (by omega)) ?_
            rintro _ wb ⟨rfl, u', hm', hn', hk', hr'⟩
            refine St0 ?_
            have hr9 := (NewRow.refl w _).trans hr8 hE7.size
            refine G.ret1 rfl rfl rfl rfl ⟨ms ++ [forkOf l to], (ns ++ ms).length + 1, u', rfl, hm', by rw [← List.append_assoc]; exact hn', by rw [← List.append_assoc]; exact hS.with1 hz hd hkb hst h2w, hone.append (OneAll.one (oneB_fork (by omega) (by omega) (.inr hto0))), by simp; omega, by omega, (hk9.ext hea).trans hk' hr9, hr9.trans hr' (by omega)⟩
end Go.Proofs.YtefneilaongpbaaDoor
/-
  A maker of trees: without a key.
-/
set_option linter.unusedVariables false
set_option linter.unusedSimpArgs false
set_option maxRecDepth 100000
set_option maxHeartbeats 4000000
namespace Go.Proofs.YtefneilaongpbaaDoor
open Go Go.Bd Go.RowKit
attribute [local irreducible] G GL GQ GS

theorem without_call6 (B bm : Nat) (k : Dig) (r : Int) (m : Nat) : ∀ (n d : Nat) (b : Dig) (u : Value) (ns : List Node) (ps : List Pair) (w : World), 257 - d ≤ m → d ≤ 256 → Zb d b → (∃ z ∈ ps, z.key = k) → Stand ns n d b ps → Blk w bm 172 [u, iv r] → OwnN B w u ns → ns.length ≤ 600000 → B ≤ w.heap.size →
    Does Tryd.prog 130 #[ptr bm 0, iv n, iv d, dv k] w fun q w' => ∃ (ms : List Node) (to : Nat) (u' : Value), q = iv to ∧ Blk w' bm 172 [u', iv r] ∧ OwnN B w' u' (ns ++ ms) ∧ Stand (ns ++ ms) to d b (without ps k) ∧ OneAll ns.length ms ∧ ms.length + d ≤ 256 ∧ Mk bm (rowOf u) w w' ∧ NewRow w u u' := by
  induction m with
  | zero => intro n d b u ns ps w hm; omega
  | succ m ih =>
    intro n d b u ns ps w hmd hd256 hz hkz hs hm hn hlen hBw
    refine call_walk Tryd.func130 (by kernel_rfl) rfl Tryd.ntmps130 rfl ?_
    refine St0 ?_
    refine GL.box (vs := k.cells) rfl rfl rfl rfl fun b7 w1 hb7 hB7 he1 => ?_
    have lm := hm.lt
    have s1 := he1.size
    obtain ⟨i, rfl⟩ : ∃ i, n = i + 1 := by
      cases n with
      | zero => obtain ⟨z, hzm, _⟩ := hkz; rw [(hs.empty).2 rfl] at hzm; cases hzm
      | succ i => exact ⟨i, rfl⟩
    have hil := hs.le
    obtain ⟨x, hx0⟩ : ∃ x, ns[i]? = some x := ⟨_, List.getElem?_eq_getElem (by omega)⟩
    obtain ⟨bb, o, c', uo, hv, hu, hA⟩ := (hn.ext he1).rd.elem hx0
    subst hv
    refine St1 ((tvAt (hm.ext he1).all).1) ?_
    (refine GL.indexSlice (i) 36 ((o + i * 36)) hT rfl rfl rfl rfl rfl rfl rfl rfl ?_ ?_ ?_ ?_; (focus omega); (focus omega); (focus omega))
    refine St1 (hA) ?_
    refine GL.alloc hT rfl rfl rfl fun b9 w2 hb9 hB9 he2 => ?_
    have l7 := hB7.lt
    replace hB7 := hB7.ext he2
    refine St0 ?_
    refine GL.storeVar hT rfl rfl rfl rfl rfl (ncells_len _ _) (ncells_one _ hu.one) hB9 (by rw [ncells_len]; decide) fun w3 hc3 hB9 => ?_
    replace hB7 := hB7.chg hc3 (by omega)
    have hE3 : Ext w w3 := hc3.below (by omega) (he1.trans he2)
    have s3 := hE3.size
    have hx9 := nAt hB9.all
    cases hl : x.leaf
    case true =>
      have hlf := hx9.leaf
      rw [hl] at hlf
      obtain ⟨rfl, hpx⟩ := hs.one hx0 hl
      refine St1 (hlf) ?_
      refine G.ret1 rfl rfl rfl rfl ⟨[], 0, _, rfl, hm.ext hE3, by rw [List.append_nil]; exact hn.ext hE3, ?_, OneAll.nil _, by simpa using hd256, Mk.of_ext bm _ hE3, NewRow.refl w _⟩
      have hzk : x.key = k := by obtain ⟨z, hzm, hzk⟩ := hkz; simp at hzm; subst hzm; exact hzk
      have : without [(⟨x.key, x.val⟩ : Pair)] k = [] := List.filter_eq_nil_iff.2 fun y hy => by simp at hy; subst hy; simp [hzk]
      rw [this]
      exact .none _ _
    have hlf := hx9.leaf
    rw [hl] at hlf
    obtain ⟨l, rr, p0, p1, hd, e1, e2, hS, h2, rfl⟩ := hs.sides hx0 hl
    refine St2 (hlf) (hB9.all) ?_
    refine GL.call rfl rfl rfl (roads_call x _ w3) ?_
    rintro _ w4 ⟨rfl, he4⟩
    rw [e1, e2]
    have l7' := hB7.lt
    replace hB7 := hB7.ext he4
    refine St0 ?_
    refine GL.alloc hT rfl rfl rfl fun b10 w5 hb10 hB10 he5 => ?_
    have l10 := hB10.lt
    have s4 := he4.size
    replace hB7 := hB7.ext he5
    refine St0 ?_
    refine GL.storeVar (vs := [iv l, iv rr]) hT rfl rfl rfl rfl rfl rfl (by intro c hc; simp at hc; rcases hc with rfl | rfl <;> rfl) hB10 rfl fun w5' hc5 hB10 => ?_
    have hE5 : Ext w w5' := hc5.below (by omega) (hE3.trans (he4.trans he5))
    replace hB7 := hB7.chg hc5 (by omega)
    refine St1 (hB7.all) ?_
    refine GL.call rfl rfl rfl (bit6_call k d hd w5') ?_
    rintro _ w6 ⟨rfl, he6⟩
    replace hB7 := hB7.ext he6
    replace hB10 := hB10.ext he6
    have hE6 := hE5.trans he6
    refine St0 ?_
    rcases bit_or k d with hkb | hkb
    · obtain ⟨hwo, hkz'⟩ : without (p0 ++ p1) k = without p0 k ++ p1 ∧ ∃ z ∈ p0, z.key = k := by
        refine ⟨hS.wo0 hz hd hkb, ?_⟩
        obtain ⟨z, hzm, hzk⟩ := hkz
        refine ⟨z, ?_, hzk⟩
        rcases List.mem_append.1 hzm with h | h
        · first | exact h | (have := (hS.bits hz hd).1 z h; rw [hzk, hkb] at this; cases this)
        · first | exact h | (have := (hS.bits hz hd).2 z h; rw [hzk, hkb] at this; cases this)
      rw [hwo]
      refine G.quietTail 7 follows (by kernel_rfl) (by kernel_rfl) (by kernel_rfl) (by kernel_rfl) ?_
      refine QSt0 ?_
      (refine GQ.indexArr (0) 1 (0) hT rfl rfl rfl rfl rfl rfl rfl rfl ?_ ?_ ?_ ?_; (focus omega); (focus omega); (focus omega))
      refine QSt2 ((tvAt hB10.all).1) (hB7.all) ?_
      rw [show (d : Int) + 1 = ((d + 1 : Nat) : Int) by omega]
      refine GQ.tail fun w7 he7 => ?_
      have hE7 := hE6.trans he7
      replace hB10 := hB10.ext he7
      refine GL.call rfl rfl rfl (ih _ (d + 1) (sideOf b d 0) _ ns _ w7 (by omega) (by omega) (hz.side hd 0) hkz' hS.left (hm.ext hE7) (hn.ext hE7) hlen (Nat.le_trans hBw hE7.size)) ?_
      rintro _ w8 ⟨ms, to, u8, rfl, hm8, hn8, hst, hone, hmsl, hk8, hr8⟩
      have hnb : rowOf (.slice (some ⟨bb, o, none⟩) ns.length c') ≠ some b10 := by
        obtain ⟨es, hes, hown⟩ := hn.ext hE7
        exact hown.ne_blk hB10 (by decide)
      replace hB10 := hk8.blk hB10 (by omega) hnb
      refine St0 ?_
      (refine GL.indexArr (0) 1 (0) hT rfl rfl rfl rfl rfl rfl rfl rfl ?_ ?_ ?_ ?_; (focus omega); (focus omega); (focus omega))
      refine GL.store1 hT rfl rfl rfl rfl rfl rfl rfl hB10 (by simp) fun w9 hc9 hB10' => ?_
      replace hB10' : Blk w9 b10 126 [iv to, iv rr] := hB10'
      have hk9 := ((Mk.of_ext bm _ hE7).trans hk8 (.inl rfl)).chg hc9 (by omega)
      have hm9 := hm8.chg hc9 (by omega)
      have hn9 := hn8.chg hB10 (by decide) hc9
      have hr9 := (NewRow.refl w _).trans hr8 hE7.size
      have hs' : Sides (ns ++ ms) d b to rr (without p0 k) p1 := ⟨hst,hS.right.more _⟩
      have hle := hst.le
      have hlo := hS.right.le
      rw [List.length_append] at hle
      have sz8 := hk9.size
      refine St0 ?_
      (refine GL.indexArr (0) 1 (0) hT rfl rfl rfl rfl rfl rfl rfl rfl ?_ ?_ ?_ ?_; (focus omega); (focus omega); (focus omega))
      refine St1 ((tvAt hB10'.all).1) ?_
      (refine GL.indexArr (1) 1 (1) hT rfl rfl rfl rfl rfl rfl rfl rfl ?_ ?_ ?_ ?_; (focus omega); (focus omega); (focus omega))
      refine St2 ((tvAt hB10'.all).1) ((tvAt hB10'.all).2) ?_
      (refine GL.indexArr (0) 1 (0) hT rfl rfl rfl rfl rfl rfl rfl rfl ?_ ?_ ?_ ?_; (focus omega); (focus omega); (focus omega))
      refine St1 ((tvAt hB10'.all).1) ?_
      (refine GL.indexArr (1) 1 (1) hT rfl rfl rfl rfl rfl rfl rfl rfl ?_ ?_ ?_ ?_; (focus omega); (focus omega); (focus omega))
      refine St2 ((tvAt hB10'.all).1) ((tvAt hB10'.all).2) ?_
      refine GL.min rfl rfl rfl rfl ?_
      by_cases hmin : to = 0 ∨ rr = 0
      · by_cases hsum : to + rr = 0
        · refine St0 ?_
          refine G.ret1 rfl rfl rfl rfl ⟨ms, to + rr, _, by first | rfl | (show iv _ = iv _; congr 1; omega), hm9, hn9, hs'.alone hd (by omega) (.inl hsum), hone, by omega, hk9, hr9⟩
        · have hnot : ¬ (∃ x, (ns ++ ms)[to + rr - 1]? = some x ∧ x.leaf = true) → ¬ (to + rr = 0 ∨ ∃ x, (ns ++ ms)[to + rr - 1]? = some x ∧ x.leaf = true) := fun h1 h2 => h2.elim hsum h1
          obtain ⟨y, hy⟩ : ∃ y, (ns ++ ms)[to + rr - 1]? = some y := ⟨_, List.getElem?_eq_getElem (by rw [List.length_append]; omega)⟩
          have hlt' := (List.getElem?_eq_some_iff.1 hy).1
          obtain ⟨by', oy, cy, uy, hvy, huy, hAy⟩ := hn9.rd.elem hy
          subst hvy
          refine St1 ((tvAt (r := r) hm9.all).1) ?_
          (refine GL.indexSlice ((to + rr - 1)) 36 ((oy + (to + rr - 1) * 36)) hT rfl rfl rfl rfl rfl rfl rfl rfl ?_ ?_ ?_ ?_; (focus omega); (focus omega); (focus omega))
          cases hly : y.leaf
          · have hyf := (nAt hAy).leaf
            rw [hly] at hyf
            refine St1 (hyf) ?_
            refine St1 (hB10'.all) ?_
            refine GL.call rfl rfl rfl (fork_call _ _ w9) ?_
            rintro _ wa ⟨rfl, hea⟩
            have sza := hea.size
            refine GL.call rfl rfl rfl (node_call B bm _ r (ns ++ ms) _ (.slice none 0 0) wa (hm9.ext hea) (hn9.ext hea) (Own.bare B wa none 1 _) (by rw [List.length_append]; omega) (by omega)) ?_
            rintro _ wb ⟨rfl, u', hm', hn', hk', hr'⟩
            have h3 := hs'.two (by rintro ⟨hq1, hq2⟩; exact hnot (by rintro ⟨y', hy', hly'⟩; rw [hy] at hy'; cases hy'; rw [hly] at hly'; cases hly') hq2)
            refine St0 ?_
            refine G.ret1 rfl rfl rfl rfl ⟨ms ++ [forkOf to rr], (ns ++ ms).length + 1, u', rfl, hm', by rw [← List.append_assoc]; exact hn', by rw [← List.append_assoc]; exact Stand.push (x := forkOf to rr) rfl hd rfl rfl hs'.left hs'.right h3, hone.append (OneAll.one (oneB_fork (by omega) (by omega) (by omega))), by simp; omega, (hk9.ext hea).trans hk' hr9, hr9.trans hr' (by omega)⟩
          · have hyf := (nAt hAy).leaf
            rw [hly] at hyf
            refine St1 (hyf) ?_
            refine G.ret1 rfl rfl rfl rfl ⟨ms, to + rr, _, by first | rfl | (show iv _ = iv _; congr 1; omega), hm9, hn9, hs'.alone hd (by omega) (.inr ⟨y,hy,hly⟩), hone, by omega, hk9, hr9⟩
      · refine St0 ?_
        refine St1 (hB10'.all) ?_
        refine GL.call rfl rfl rfl (fork_call _ _ w9) ?_
        rintro _ wa ⟨rfl, hea⟩
        have sza := hea.size
        refine GL.call rfl rfl rfl (node_call B bm _ r (ns ++ ms) _ (.slice none 0 0) wa (hm9.ext hea) (hn9.ext hea) (Own.bare B wa none 1 _) (by rw [List.length_append]; omega) (by omega)) ?_
        rintro _ wb ⟨rfl, u', hm', hn', hk', hr'⟩
        have h3 := hs'.two (by rintro ⟨hq1, hq2⟩; exact hmin hq1)
        refine St0 ?_
        refine G.ret1 rfl rfl rfl rfl ⟨ms ++ [forkOf to rr], (ns ++ ms).length + 1, u', rfl, hm', by rw [← List.append_assoc]; exact hn', by rw [← List.append_assoc]; exact Stand.push (x := forkOf to rr) rfl hd rfl rfl hs'.left hs'.right h3, hone.append (OneAll.one (oneB_fork (by omega) (by omega) (by omega))), by simp; omega, (hk9.ext hea).trans hk' hr9, hr9.trans hr' (by omega)⟩
    · obtain ⟨hwo, hkz'⟩ : without (p0 ++ p1) k = p0 ++ without p1 k ∧ ∃ z ∈ p1, z.key = k := by
        refine ⟨hS.wo1 hz hd hkb, ?_⟩
        obtain ⟨z, hzm, hzk⟩ := hkz
        refine ⟨z, ?_, hzk⟩
        rcases List.mem_append.1 hzm with h | h
        · first | exact h | (have := (hS.bits hz hd).1 z h; rw [hzk, hkb] at this; cases this)
        · first | exact h | (have := (hS.bits hz hd).2 z h; rw [hzk, hkb] at this; cases this)
      rw [hwo]
      refine G.quietTail 7 follows (by kernel_rfl) (by kernel_rfl) (by kernel_rfl) (by kernel_rfl) ?_
      refine QSt0 ?_
      (refine GQ.indexArr (1) 1 (1) hT rfl rfl rfl rfl rfl rfl rfl rfl ?_ ?_ ?_ ?_; (focus omega); (focus omega); (focus omega))
      refine QSt2 ((tvAt hB10.all).2) (hB7.all) ?_
      rw [show (d : Int) + 1 = ((d + 1 : Nat) : Int) by omega]
      refine GQ.tail fun w7 he7 => ?_
      have hE7 := hE6.trans he7
      replace hB10 := hB10.ext he7
      refine GL.call rfl rfl rfl (ih _ (d + 1) (sideOf b d 1) _ ns _ w7 (by omega) (by omega) (hz.side hd 1) hkz' hS.right (hm.ext hE7) (hn.ext hE7) hlen (Nat.le_trans hBw hE7.size)) ?_
      rintro _ w8 ⟨ms, to, u8, rfl, hm8, hn8, hst, hone, hmsl, hk8, hr8⟩
      have hnb : rowOf (.slice (some ⟨bb, o, none⟩) ns.length c') ≠ some b10 := by
        obtain ⟨es, hes, hown⟩ := hn.ext hE7
        exact hown.ne_blk hB10 (by decide)
      replace hB10 := hk8.blk hB10 (by omega) hnb
      refine St0 ?_
      (refine GL.indexArr (1) 1 (1) hT rfl rfl rfl rfl rfl rfl rfl rfl ?_ ?_ ?_ ?_; (focus omega); (focus omega); (focus omega))
      refine GL.store1 hT rfl rfl rfl rfl rfl rfl rfl hB10 (by simp) fun w9 hc9 hB10' => ?_
      replace hB10' : Blk w9 b10 126 [iv l, iv to] := hB10'
      have hk9 := ((Mk.of_ext bm _ hE7).trans hk8 (.inl rfl)).chg hc9 (by omega)
      have hm9 := hm8.chg hc9 (by omega)
      have hn9 := hn8.chg hB10 (by decide) hc9
      have hr9 := (NewRow.refl w _).trans hr8 hE7.size
      have hs' : Sides (ns ++ ms) d b l to p0 (without p1 k) := ⟨hS.left.more _,hst⟩
      have hle := hst.le
      have hlo := hS.left.le
      rw [List.length_append] at hle
      have sz8 := hk9.size
      refine St0 ?_
      (refine GL.indexArr (0) 1 (0) hT rfl rfl rfl rfl rfl rfl rfl rfl ?_ ?_ ?_ ?_; (focus omega); (focus omega); (focus omega))
      refine St1 ((tvAt hB10'.all).1) ?_
      (refine GL.indexArr (1) 1 (1) hT rfl rfl rfl rfl rfl rfl rfl rfl ?_ ?_ ?_ ?_; (focus omega); (focus omega); (focus omega))
      refine St2 ((tvAt hB10'.all).1) ((tvAt hB10'.all).2) ?_
      (refine GL.indexArr (0) 1 (0) hT rfl rfl rfl rfl rfl rfl rfl rfl ?_ ?_ ?_ ?_; (focus omega); (focus omega); (focus omega))
      refine St1 ((tvAt hB10'.all).1) ?_
      (refine GL.indexArr (1) 1 (1) hT rfl rfl rfl rfl rfl rfl rfl rfl ?_ ?_ ?_ ?_; (focus omega); (focus omega); (focus omega))
      refine St2 ((tvAt hB10'.all).1) ((tvAt hB10'.all).2) ?_
      refine GL.min rfl rfl rfl rfl ?_
      by_cases hmin : l = 0 ∨ to = 0
      · by_cases hsum : l + to = 0
        · refine St0 ?_
          refine G.ret1 rfl rfl rfl rfl ⟨ms, l + to, _, by first | rfl | (show iv _ = iv _; congr 1; omega), hm9, hn9, hs'.alone hd (by omega) (.inl hsum), hone, by omega, hk9, hr9⟩
        · have hnot : ¬ (∃ x, (ns ++ ms)[l + to - 1]? = some x ∧ x.leaf = true) → ¬ (l + to = 0 ∨ ∃ x, (ns ++ ms)[l + to - 1]? = some x ∧ x.leaf = true) := fun h1 h2 => h2.elim hsum h1
          obtain ⟨y, hy⟩ : ∃ y, (ns ++ ms)[l + to - 1]? = some y := ⟨_, List.getElem?_eq_getElem (by rw [List.length_append]; omega)⟩
          have hlt' := (List.getElem?_eq_some_iff.1 hy).1
          obtain ⟨by', oy, cy, uy, hvy, huy, hAy⟩ := hn9.rd.elem hy
          subst hvy
          refine St1 ((tvAt (r := r) hm9.all).1) ?_
          (refine GL.indexSlice ((l + to - 1)) 36 ((oy + (l + to - 1) * 36)) hT rfl rfl rfl rfl rfl rfl rfl rfl ?_ ?_ ?_ ?_; (focus omega); (focus omega); (focus omega))
          cases hly : y.leaf
          · have hyf := (nAt hAy).leaf
            rw [hly] at hyf
            refine St1 (hyf) ?_
            refine St1 (hB10'.all) ?_
            refine GL.call rfl rfl rfl (fork_call _ _ w9) ?_
            rintro _ wa ⟨rfl, hea⟩
            have sza := hea.size
            refine GL.call rfl rfl rfl (node_call B bm _ r (ns ++ ms) _ (.slice none 0 0) wa (hm9.ext hea) (hn9.ext hea) (Own.bare B wa none 1 _) (by rw [List.length_append]; omega) (by omega)) ?_
            rintro _ wb ⟨rfl, u', hm', hn', hk', hr'⟩
            have h3 := hs'.two (by rintro ⟨hq1, hq2⟩; exact hnot (by rintro ⟨y', hy', hly'⟩; rw [hy] at hy'; cases hy'; rw [hly] at hly'; cases hly') hq2)
            refine St0 ?_
            refine G.ret1 rfl rfl rfl rfl ⟨ms ++ [forkOf l to], (ns ++ ms).length + 1, u', rfl, hm', by rw [← List.append_assoc]; exact hn', by rw [← List.append_assoc]; exact Stand.push (x := forkOf l to) rfl hd rfl rfl hs'.left hs'.right h3, hone.append (OneAll.one (oneB_fork (by omega) (by omega) (by omega))), by simp; omega, (hk9.ext hea).trans hk' hr9, hr9.trans hr' (by omega)⟩
          · have hyf := (nAt hAy).leaf
            rw [hly] at hyf
            refine St1 (hyf) ?_
            refine G.ret1 rfl rfl rfl rfl ⟨ms, l + to, _, by first | rfl | (show iv _ = iv _; congr 1; omega), hm9, hn9, hs'.alone hd (by omega) (.inr ⟨y,hy,hly⟩), hone, by omega, hk9, hr9⟩
      · refine St0 ?_
        refine St1 (hB10'.all) ?_
        refine GL.call rfl rfl rfl (fork_call _ _ w9) ?_
        rintro _ wa ⟨rfl, hea⟩
        have sza := hea.size
        refine GL.call rfl rfl rfl (node_call B bm _ r (ns ++ ms) _ (.slice none 0 0) wa (hm9.ext hea) (hn9.ext hea) (Own.bare B wa none 1 _) (by rw [List.length_append]; omega) (by omega)) ?_
        rintro _ wb ⟨rfl, u', hm', hn', hk', hr'⟩
        have h3 := hs'.two (by rintro ⟨hq1, hq2⟩; exact hmin hq1)
        refine St0 ?_
        refine G.ret1 rfl rfl rfl rfl ⟨ms ++ [forkOf l to], (ns ++ ms).length + 1, u', rfl, hm', by rw [← List.append_assoc]; exact hn', by rw [← List.append_assoc]; exact Stand.push (x := forkOf l to) rfl hd rfl rfl hs'.left hs'.right h3, hone.append (OneAll.one (oneB_fork (by omega) (by omega) (by omega))), by simp; omega, (hk9.ext hea).trans hk' hr9, hr9.trans hr' (by omega)⟩
end Go.Proofs.YtefneilaongpbaaDoor
/-
  Finding a key's leaf; putting and dropping.
-/
set_option linter.unusedVariables false
set_option linter.unusedSimpArgs false
set_option maxRecDepth 100000
set_option maxHeartbeats 4000000
namespace Go.Proofs.YtefneilaongpbaaDoor
open Go Go.Bd Go.RowKit
attribute [local irreducible] G GL GQ GS

theorem find6_call (v : Value) (r : Int) (ns : List Node) (k : Dig) (S : Where) (w : World) (h : RdN S w v ns) (hok : TreeOk ns r) :
    Does Tryd.prog 117 #[tv v r, dv k] w fun q w' => ∃ m : Nat, q = iv m ∧ FindsL ns k (allT ns r) m ∧ m ≤ ns.length ∧ Ext w w' := by
  refine call_walk Tryd.func117 (by kernel_rfl) rfl Tryd.ntmps117 rfl ?_
  obtain ⟨p, c, rfl, hc⟩ := h.isSlice
  have hpos := hok.pos
  obtain ⟨n0, rfl⟩ : ∃ n0 : Nat, r = n0 := ⟨r.toNat, by omega⟩
  have hst0 := hok.all
  have hlen := hok.few
  refine St0 ?_
  refine GL.box (vs := [.slice p ns.length c, iv n0]) rfl rfl rfl rfl fun b2 w1 hb2 hB2 he1 => ?_
  refine GL.box rfl rfl rfl rfl fun b3 w2 hb3 hB3 he2 => ?_
  have l2 := hB2.lt
  have s1 := he1.size
  replace hB2 := hB2.ext he2
  have hE := he1.trans he2
  have s2 := he2.size
  refine St1 ((tvAt hB2.all).2) ?_
  refine G.sub (f' := [(5, iv n0), (6, iv ((0 : Nat) : Int)), (2, ptr b2 0), (3, ptr b3 0)]) (by (repeat (first | exact Fr.sub_nil _ | refine Fr.sub_cons rfl ?_))) ?_
  refine G.rounds (α := Nat) (fun n f w' => Ext w2 w' ∧ ∃ (d : Nat) (b : Dig) (ps : List Pair), Stand ns n d b ps ∧ Zb d b ∧ d ≤ 256 ∧ (∀ m, FindsL ns k ps m → FindsL ns k (allT ns n0) m) ∧ f = [(5, iv n), (6, iv d), (2, ptr b2 0), (3, ptr b3 0)]) (fun n => n) ?round n0 ⟨Ext.refl _, 0, dig0, _, hst0, zb0, by omega, fun m h => h, rfl⟩
  rintro n f w3 ⟨he3, d, b, ps, hs, hz, hd256, hF, rfl⟩ again
  replace hB2 := hB2.ext he3
  replace hB3 := hB3.ext he3
  have hE3 := hE.trans he3
  have hle := hs.le
  by_cases hn : (n : Int) > 0
  · obtain ⟨i, rfl⟩ : ∃ i, n = i + 1 := ⟨n - 1, by omega⟩
    obtain ⟨x, hx⟩ : ∃ x, ns[i]? = some x := ⟨_, List.getElem?_eq_getElem (by omega)⟩
    obtain ⟨bb, o, c', u, hv, hu, hA⟩ := (h.ext hE3).elem hx
    cases hv
    refine St1 ((tvAt hB2.all).1) ?_
    (refine GL.indexSlice (i) 36 ((o + i * 36)) hT rfl rfl rfl rfl rfl rfl rfl rfl ?_ ?_ ?_ ?_; (focus omega); (focus omega); (focus omega))
    refine St1 (hA) ?_
    refine GL.alloc hT rfl rfl rfl fun b7 w4 hb7 hB7 he4 => ?_
    refine St0 ?_
    refine GL.storeVar hT rfl rfl rfl rfl rfl (ncells_len _ _) (ncells_one _ hu.one) hB7 (by rw [ncells_len]; decide) fun w5 hc5 hB7 => ?_
    have hE35 : Ext w3 w5 := hc5.below (by omega) he4
    replace hB2 := hB2.ext hE35
    replace hB3 := hB3.ext hE35
    have hE5 := hE3.trans hE35
    have hN := nAt hB7.all
    have hlf := hN.leaf
    cases hl : x.leaf
    · rw [hl] at hlf
      obtain ⟨l, rr, p0, p1, hd, e1, e2, hS, h2, rfl⟩ := hs.sides hx hl
      obtain ⟨l', rr', e1', e2', hl1, hl2, _, _, _⟩ := hok.one.fork (n := 0) hx hl
      rw [e1] at e1'
      rw [e2] at e2'
      refine St1 (hlf) ?_
      rcases bit_or k d with hkb | hkb
      · refine G.quiet follows (by kernel_rfl) ?_
        refine QSt1 (hB7.all) ?_
        refine GQ.call rfl rfl rfl (fun w' he' => roads_call x _ w') ?_
        rw [e1, e2]
        refine QSt1 (hB3.all) ?_
        refine GQ.call rfl rfl rfl (fun w' he' => bit6_call k d hd w') ?_
        refine GQ.indexV 0 hT rfl rfl rfl rfl rfl rfl rfl rfl rfl (by omega) (by omega) rfl ?_
        refine QSt0 ?_
        refine GQ.nil fun w6 he6 => ?_
        refine St0 ?_
        refine G.sub (by (repeat (first | exact Fr.sub_nil _ | refine Fr.sub_cons rfl ?_))) (again _ _ _ ?_ ⟨he3.trans (hE35.trans he6), d + 1, sideOf b d 0, _, hS.left, hz.side hd 0, by omega, fun m hm => hF m (hS.find hz hd k (fun h => ?_) (fun h => ?_)), rfl⟩)
        · show _ < i + 1
          omega
        · first | exact hm | omega
        · first | exact hm | omega
      · refine G.quiet follows (by kernel_rfl) ?_
        refine QSt1 (hB7.all) ?_
        refine GQ.call rfl rfl rfl (fun w' he' => roads_call x _ w') ?_
        rw [e1, e2]
        refine QSt1 (hB3.all) ?_
        refine GQ.call rfl rfl rfl (fun w' he' => bit6_call k d hd w') ?_
        refine GQ.indexV 1 hT rfl rfl rfl rfl rfl rfl rfl rfl rfl (by omega) (by omega) rfl ?_
        refine QSt0 ?_
        refine GQ.nil fun w6 he6 => ?_
        refine St0 ?_
        refine G.sub (by (repeat (first | exact Fr.sub_nil _ | refine Fr.sub_cons rfl ?_))) (again _ _ _ ?_ ⟨he3.trans (hE35.trans he6), d + 1, sideOf b d 1, _, hS.right, hz.side hd 1, by omega, fun m hm => hF m (hS.find hz hd k (fun h => ?_) (fun h => ?_)), rfl⟩)
        · show _ < i + 1
          omega
        · first | exact hm | omega
        · first | exact hm | omega
    · rw [hl] at hlf
      obtain ⟨rfl, hpx⟩ := hs.one hx hl
      by_cases hk : x.key = k
      · refine St3 (hlf) (hN.key) (hB3.all) ?_
        exact G.ret1 rfl rfl rfl rfl ⟨i + 1, rfl, hF _ (.inr ⟨i, x, rfl, hx, hl, hk, by rw [← hk]; exact List.mem_singleton.2 rfl⟩), hle, hE5⟩
      · refine St3 (hlf) (hN.key) (hB3.all) ?_
        exact G.ret1 rfl rfl rfl rfl ⟨0, rfl, hF _ (.inl ⟨rfl, fun y hy => by simp at hy; subst hy; exact hk⟩), by omega, hE5⟩
  · refine St0 ?_
    obtain rfl : n = 0 := by omega
    have : ps = [] := (hs.empty).2 rfl
    subst this
    exact G.ret1 rfl rfl rfl rfl ⟨0, rfl, hF _ (.inl ⟨rfl, fun y hy => by cases hy⟩), by omega, hE3⟩
theorem node_fill (k : Dig) (bs : Bytes) {u : Value} (hu : u.cells = #[u]) : fillL ([(0, 1), (1, 32), (33, 1), (34, 1), (35, 1)][·]?) ti56.zero [(0, .bool true), (1, dv k), (2, u)] = some (ncells (leafOf k bs) u) := by
  have h1 : (dv k).cells.size = 32 := by simp [Value.cells, Dig.len]
  have h2 : u.cells.size = 1 := by rw [hu]; rfl
  have ez : ti56.zero = [] ++ ([.bool false] ++ (List.replicate 32 (.int .u8 0) ++ [.slice none 0 0, iv 0, iv 0])) := rfl
  have e1 : splice ti56.zero 0 [.bool true] = [.bool true] ++ (List.replicate 32 (.int .u8 0) ++ [.slice none 0 0, iv 0, iv 0]) := by rw [ez]; exact splice_at (A := []) rfl rfl
  have e2 : splice ([Value.bool true] ++ (List.replicate 32 (Value.int .u8 0) ++ [Value.slice none 0 0, iv 0, iv 0])) 1 (dv k).cells.toList = [.bool true] ++ (k.cells ++ [.slice none 0 0, iv 0, iv 0]) := splice_at (A := [.bool true]) rfl (by simp [Value.cells, Dig.len])
  have e3 : splice ([.bool true] ++ (k.cells ++ [.slice none 0 0, iv 0, iv 0])) 33 u.cells.toList = ncells (leafOf k bs) u := by
    have := splice_at (A := .bool true :: k.cells) (B := [.slice none 0 0]) (C := [iv 0, iv 0]) (ys := u.cells.toList) (o := 33) (by simp [Dig.len]) (by rw [hu]; rfl)
    rw [hu] at this
    rw [hu]
    simpa [ncells, leafOf] using this
  have l1 : ti56.zero.length = 36 := by decide
  have l2 : ([Value.bool true] ++ (List.replicate 32 (Value.int .u8 0) ++ [Value.slice none 0 0, iv 0, iv 0])).length = 36 := by decide
  have l3 : ([Value.bool true] ++ (k.cells ++ [Value.slice none 0 0, iv 0, iv 0])).length = 36 := by simp [Dig.len]
  have c0 : (Value.bool true).cells.size = 1 := rfl
  have c1 : (Value.bool true).cells.toList = [.bool true] := rfl
  simp only [fillL, List.getElem?_cons_zero, List.getElem?_cons_succ]
  rw [if_neg (by rw [c0, l1]; decide), c1, e1, if_neg (by rw [h1, l2]; decide), e2, if_neg (by rw [h2, l3]; decide), e3]
theorem oneB_leafOf (k : Dig) (bs : Bytes) (n : Nat) : oneB (leafOf k bs) n = valB bs.length := by simp [oneB, leafOf]
def hasT (ps : List Pair) (k : Dig) : Bool := ps.any fun x => decide (x.key = k)
noncomputable def putE6 (ns : List Node) (r : Int) (bs : Bytes) : Int := if treeB ns r && valB bs.length then (if ns.length > 261844 then 9 else 0) else 8
noncomputable def dropE6 (ns : List Node) (r : Int) (k : Dig) : Int := if treeB ns r then (if hasT (allT ns r) k then (if ns.length > 261844 then 9 else 0) else 6) else 8
/-- A tree that goes on with another one's nodes. -/
structure Grows (ns ns' : List Node) (to : Int) (ps : List Pair) : Prop where
  more : ∃ ms, ns' = ns ++ ms ∧ OneAll ns.length ms ∧ ms.length ≤ 257
  stand : Stand ns' to.toNat 0 dig0 ps
  pos : 0 ≤ to
theorem Grows.ok {ns ns' : List Node} {r to : Int} {ps : List Pair} (h : Grows ns ns' to ps) (hok : TreeOk ns r) (hl : ns.length ≤ 261844) : TreeOk ns' to := by
  obtain ⟨⟨ms, rfl, h1, h2⟩, h3, h4⟩ := h
  have h5 := h3.le
  refine ⟨by rw [List.length_append]; omega, h4, by omega, ?_, ⟨_, h3⟩⟩
  exact hok.one.append (by rw [Nat.zero_add]; exact h1)
theorem Grows.all {ns ns' : List Node} {to : Int} {ps : List Pair} (h : Grows ns ns' to ps) : allT ns' to = ps := allT_eq h.stand
theorem put6_call (v u : Value) (r : Int) (ns : List Node) (k : Dig) (bs : Bytes) (S S' : Where) (w : World) (h : RdN S w v ns) (hu : RdB S' w u bs) (hvals : ∀ x ∈ ns, x.val.length ≤ 140737488355328) (hbl : bs.length ≤ 140737488355328) :
    Does Tryd.prog 78 #[tv v r, dv k, u] w fun q w' => ∃ (ns' : List Node) (to : Int) (u' : Value), q = .tuple #[tv u' to, iv (putE6 ns r bs)] ∧ OwnN w.heap.size w' u' ns' ∧ (putE6 ns r bs = 0 → Grows ns ns' to (withL (without (allT ns r) k) k bs)) ∧ (putE6 ns r bs ≠ 0 → ns' = [] ∧ to = 0 ∧ u' = .slice none 0 0) ∧ Ext w w' := by
  refine call_walk Tryd.func78 (by kernel_rfl) rfl Tryd.ntmps78 rfl ?_
  obtain ⟨p, c, rfl, hc⟩ := h.isSlice
  obtain ⟨pu, cu, rfl, hcu⟩ := RdF.isSlice hu
  refine St0 ?_
  refine GL.box (vs := [.slice p ns.length c, iv r]) rfl rfl rfl rfl fun b3 w1 hb3 hB3 he1 => ?_
  refine GL.box rfl rfl rfl rfl fun b4 w2 hb4 hB4 he2 => ?_
  refine GL.alloc hT rfl rfl rfl fun b6 w3 hb6 hB6 he3 => ?_
  replace hB3 := hB3.ext he2
  replace hB3 := hB3.ext he3
  replace hB4 := hB4.ext he3
  have hE3 := (he1.trans he2).trans he3
  have s1 := he1.size
  have s2 := he2.size
  have s3 := he3.size
  refine St0 ?_
  refine G.draw 5 [(3, ptr b3 0), (4, ptr b4 0), (2, .slice pu bs.length cu), (6, ptr b6 0), (7, iv 0)] (fun i v w' => match i with
    | 0 => dv k = v | 1 => Value.slice pu bs.length cu = v | 2 => OwnB w3.heap.size w' v bs | 3 => ∃ u', v = ndv (leafOf k bs) u' ∧ OwnB w3.heap.size w' u' bs | _ => ∃ b, v = ptr b 0 ∧ w3.heap.size ≤ b ∧ Blk w' b 56 ti56.zero) follows (by kernel_rfl) (by kernel_rfl) (by kernel_rfl) (by kernel_rfl) (by (repeat (first | exact Fr.sub_nil _ | refine Fr.sub_cons rfl ?_))) ?mono ?obs ?fin
  case mono =>
    intro i v w3 w4 he h
    rcases i with _ | _ | _ | _ | i
    · exact h
    · exact h
    · exact Own.ext h he
    · obtain ⟨u', h1, h2⟩ := h; exact ⟨u', h1, h2.ext he⟩
    · obtain ⟨b, h1, h2, h3⟩ := h; exact ⟨b, h1, h2, h3.ext he⟩
  case obs =>
    intro w0 he0
    refine ⟨fun w' he' => ?_, fun w' he' => ?_, fun w' he' => ?_, fun w' he' => ?_, fun w' he' => ?_, trivial⟩
    · refine St1 ((hB4.ext (he0.trans he')).all) ?_
      exact GL.fact rfl (Ext.refl _) rfl
    · refine St0 ?_
      exact GL.fact rfl (Ext.refl _) rfl
    · rintro v rfl
      refine GL.call rfl rfl rfl (cloneB_call _ bs _ w' (hu.ext (hE3.trans (he0.trans he'))) hbl) ?_
      rintro r w'' ⟨ho, he''⟩
      exact GL.fact rfl he'' (ho.mono (Nat.le_trans he0.size he'.size))
    · rintro v rfl u' hu'
      refine GL.build (ncells (leafOf k bs) u') hT rfl rfl rfl rfl rfl rfl (node_fill k bs (RdF.some (Own.fresh hu'))) ?_
      exact GL.fact rfl (Ext.refl _) ⟨u', rfl, hu'⟩
    · refine GL.alloc hT rfl rfl rfl fun b w'' hb hB he'' => ?_
      exact GL.fact rfl he'' ⟨b, rfl, by have := he0.size; have := he'.size; omega, hB⟩
  case fin =>
    rintro w6 he6 v0 rfl v1 rfl u2 hu2 v3 ⟨u', rfl, hu'⟩ v4 ⟨b8, rfl, hb8, hB8⟩
    have l3 := hB3.lt
    have l6 := hB6.lt
    replace hB3 := hB3.ext he6
    replace hB6 := hB6.ext he6
    have s6 := he6.size
    refine GL.storeVar hT rfl rfl rfl rfl rfl (ncells_len _ _) (ncells_one _ (RdF.one (Own.fresh hu'))) hB8 (by rw [ncells_len]; decide) fun w7 hc7 hB8' => ?_
    have hE7 : Ext w w7 := hc7.below (by omega) (hE3.trans he6)
    replace hu' := hu'.keepBlk hB8 (by decide) hc7
    replace hB3 := hB3.chg hc7 (by omega)
    replace hB6 := hB6.chg hc7 (by omega)
    replace hB8 := hB8'
    have s7 := hE7.size
    refine St1 (hB3.all) ?_
    refine GL.call rfl rfl rfl (check6_call ns _ r S w7 (h.ext hE7)) ?_
    rintro _ w8 ⟨rfl, he8⟩
    replace hB3 := hB3.ext he8
    replace hB6 := hB6.ext he8
    replace hB8 := hB8.ext he8
    replace hu' := hu'.ext he8
    have hE8 := hE7.trans he8
    cases hok : treeB ns r
    · have e0 : badE false = 8 := rfl
      rw [e0]
      have hp : putE6 ns r bs = 8 := (by simp [putE6, hok])
      refine St1 (hB3.all) ?_
      refine GL.build [.slice none 0 0, iv 0] hT rfl rfl rfl rfl rfl rfl rfl ?_
      refine GL.storeVar (vs := [.slice none 0 0, iv 0]) hT rfl rfl rfl rfl rfl rfl (by intro q hq; simp at hq; rcases hq with rfl | rfl <;> rfl) hB6 rfl fun wb hcb hBb => ?_
      refine St0 ?_
      refine G.retNt (vs := [.slice none 0 0, iv 0]) rfl rfl hT rfl rfl rfl rfl rfl hBb.all rfl ⟨[], 0, .slice none 0 0, by rw [hp], OwnN.bare _ _ none, fun h => by rw [hp] at h; omega, fun _ => ⟨rfl, rfl, rfl⟩, hcb.below (by omega) hE8⟩
    have e0 : badE true = 0 := rfl
    rw [e0]
    refine St1 (hB8.all) ?_
    refine GL.call rfl rfl rfl (one6_call (leafOf k bs) u' 0 (by omega) _ w8 (Own.fresh hu')) ?_
    rintro _ w9 ⟨rfl, he9⟩
    rw [oneB_leafOf]
    replace hB3 := hB3.ext he9
    replace hB6 := hB6.ext he9
    replace hB8 := hB8.ext he9
    replace hu' := hu'.ext he9
    have hE9 := hE8.trans he9
    cases hvb : valB bs.length
    · skip
      have hp : putE6 ns r bs = 8 := (by simp [putE6, hvb])
      refine St1 (hB3.all) ?_
      refine GL.build [.slice none 0 0, iv 0] hT rfl rfl rfl rfl rfl rfl rfl ?_
      refine GL.storeVar (vs := [.slice none 0 0, iv 0]) hT rfl rfl rfl rfl rfl rfl (by intro q hq; simp at hq; rcases hq with rfl | rfl <;> rfl) hB6 rfl fun wb hcb hBb => ?_
      refine St0 ?_
      refine G.retNt (vs := [.slice none 0 0, iv 0]) rfl rfl hT rfl rfl rfl rfl rfl hBb.all rfl ⟨[], 0, .slice none 0 0, by rw [hp], OwnN.bare _ _ none, fun h => by rw [hp] at h; omega, fun _ => ⟨rfl, rfl, rfl⟩, hcb.below (by omega) hE9⟩
    have hT' := treeB_iff.1 hok
    by_cases hbig : (ns.length : Int) > 261844
    · refine St1 ((tvAt hB3.all).1) ?_
      have hp : putE6 ns r bs = 9 := (by simp [putE6, hok, hvb]; omega)
      refine St1 (hB3.all) ?_
      refine GL.build [.slice none 0 0, iv 0] hT rfl rfl rfl rfl rfl rfl rfl ?_
      refine GL.storeVar (vs := [.slice none 0 0, iv 0]) hT rfl rfl rfl rfl rfl rfl (by intro q hq; simp at hq; rcases hq with rfl | rfl <;> rfl) hB6 rfl fun wb hcb hBb => ?_
      refine St0 ?_
      refine G.retNt (vs := [.slice none 0 0, iv 0]) rfl rfl hT rfl rfl rfl rfl rfl hBb.all rfl ⟨[], 0, .slice none 0 0, by rw [hp], OwnN.bare _ _ none, fun h => by rw [hp] at h; omega, fun _ => ⟨rfl, rfl, rfl⟩, hcb.below (by omega) hE9⟩
    have hp : putE6 ns r bs = 0 := by simp [putE6, hok, hvb]; omega
    refine St2 ((tvAt hB3.all).1) (hB3.all) ?_
    refine GL.call rfl rfl rfl (twin6_call _ r ns S w9 (h.ext hE9) (by omega) hvals) ?_
    rintro _ wa ⟨ut, rfl, hn, hea⟩
    replace hB6 := hB6.ext hea
    replace hB8 := hB8.ext hea
    replace hu' := hu'.ext hea
    have hEa := hE9.trans hea
    have l6' := hB6.lt
    refine GL.build [ut, iv r] hT rfl rfl rfl rfl rfl rfl rfl ?_
    refine GL.box (vs := [ut, iv r]) rfl rfl rfl rfl fun bm wb hbm hBm heb => ?_
    replace hB6 := hB6.ext heb
    replace hB8 := hB8.ext heb
    replace hu' := hu'.ext heb
    replace hn := hn.ext heb
    have hEb := hEa.trans heb
    have sb := heb.size
    have sa := hEa.size
    have s9 := hE9.size
    have hpos := hT'.pos
    obtain ⟨n0, rfl⟩ : ∃ n0 : Nat, r = n0 := ⟨r.toNat, by omega⟩
    refine St0 ?_
    refine G.drawZ 9 0 8 [1, 2, 3, 4, 5, 6, 7] [(9, ptr bm 0), (8, ptr b8 0), (6, ptr b6 0), (7, iv 0)] (fun i v w' => match i with
      | 1 => v = ptr bm 0 | 2 => v = ptr bm 0 | 3 => v = ptr bm 0 | 4 => v = ptr bm 0 | 5 => v = ptr bm 1 | 6 => v = iv n0 | _ => v = ndv (leafOf k bs) u')
      (fun v w' => ∃ (ms : List Node) (to : Nat) (u'' : Value), v = iv to ∧ Blk w' bm 172 [u'', iv n0] ∧ OwnN w.heap.size w' u'' (ns ++ ms) ∧ Grows ns (ns ++ ms) to (withL (without (allT ns n0) k) k bs) ∧ Ext w w' ∧ Blk w' b6 52 ti52.zero) (ptr bm 0) follows (by kernel_rfl) (by kernel_rfl) (by kernel_rfl) (by kernel_rfl) (by kernel_rfl) (by kernel_rfl) (by kernel_rfl) (by kernel_rfl) (by (repeat (first | exact Fr.sub_nil _ | refine Fr.sub_cons rfl ?_))) ⟨_, _, _, _, _, rfl, rfl⟩ ?mono2 ?obs2 ?act2 ?fin2
    case mono2 =>
      intro i v w3 w4 he h
      rcases i with _ | _ | _ | _ | _ | _ | _ | i
      all_goals exact h
    case obs2 =>
      intro w0 he0
      refine ⟨fun w' he' => ?_, fun w' he' => ?_, fun w' he' => ?_, fun w' he' => ?_, fun w' he' => ?_, fun w' he' => ?_, fun w' he' => ?_, trivial⟩
      · refine St0 ?_
        exact GL.fact rfl (Ext.refl _) rfl
      · refine St0 ?_
        exact GL.fact rfl (Ext.refl _) rfl
      · rintro v rfl
        refine St0 ?_
        exact GL.fact rfl (Ext.refl _) rfl
      · rintro v rfl
        refine St0 ?_
        exact GL.fact rfl (Ext.refl _) rfl
      · rintro v rfl
        refine St0 ?_
        exact GL.fact rfl (Ext.refl _) rfl
      · rintro v rfl
        refine St1 ((tvAt (hBm.ext (he0.trans he')).all).2) ?_
        exact GL.fact rfl (Ext.refl _) rfl
      · refine St1 ((hB8.ext (he0.trans he')).all) ?_
        exact GL.fact rfl (Ext.refl _) rfl
    case act2 =>
      rintro wc hec v rfl v rfl v rfl
      have hEc := hEb.trans hec
      have sc := hec.size
      have hn2 := (hn.ext hec).mono (B' := w.heap.size) (by omega)
      have lm := hBm.lt
      refine GL.call rfl rfl rfl (with_call6 w.heap.size bm k bs u' n0 hvb 257 n0 0 dig0 ut ns (allT ns n0) wc (by omega) (by omega) zb0 (fun j hj => by omega) hT'.all (hBm.ext hec) hn2 ((Own.ext hu' hec).mono (by omega)) (by have := hT'.few; omega) (by omega)) ?_
      rintro _ wd ⟨ms, to, u'', rfl, hm', hn', hst, hone, hml, hto, hk, hr⟩
      refine GL.act rfl ⟨ms, to, u'', rfl, hm', hn', ⟨⟨ms, rfl, hone, by omega⟩, hst, by omega⟩, ?_, ?_⟩
      · obtain ⟨es, hes, hown⟩ := hn2
        exact hk.below (by omega) (fun g hg => (hown.row hg).1) (by omega) hEc
      · obtain ⟨es, hes, hown⟩ := hn2
        exact hk.blk (hB6.ext hec) (by omega) (hown.ne_blk (hB6.ext hec) (by decide))
    case fin2 =>
      rintro v w' ⟨ms, to, u'', rfl, hm', hn', hg, hE', hB6'⟩
      refine St0 ?_
      refine GL.store1 hT rfl rfl rfl rfl rfl rfl rfl hm' (by simp) fun we hce hme => ?_
      have hEe : Ext w we := hce.below (by omega) hE'
      replace hn' := hn'.chg hm' (by decide) hce
      replace hB6' := hB6'.chg hce (by omega)
      replace hme : Blk we bm _ [u'', iv to] := hme
      refine St1 (hme.all) ?_
      refine GL.storeVar (vs := [u'', iv to]) hT rfl rfl rfl rfl rfl rfl (by intro q hq; simp at hq; rcases hq with rfl | rfl; exact hn'.one; rfl) hB6' rfl fun wf hcf hBf => ?_
      refine St0 ?_
      exact G.retNt (vs := [u'', iv to]) rfl rfl hT rfl rfl rfl rfl rfl hBf.all rfl ⟨ns ++ ms, to, u'', by rw [hp], hn'.chg hB6' (by decide) hcf, fun _ => hg, fun h => absurd hp h, hcf.below (by omega) hEe⟩
theorem FindsL.has {ns : List Node} {k : Dig} {ps : List Pair} {m : Nat} (h : FindsL ns k ps m) : hasT ps k = decide (m ≠ 0) := by
  rcases h with ⟨h1, h2⟩ | ⟨i, x, h1, h2, h3, h4, h5⟩
  · rw [decide_eq_false (by omega)]
    simp only [hasT, List.any_eq_false, decide_eq_true_eq]
    exact h2
  · rw [decide_eq_true (by omega)]
    simp only [hasT, List.any_eq_true, decide_eq_true_eq]
    exact ⟨_, h5, rfl⟩
theorem drop6_call (v : Value) (r : Int) (ns : List Node) (k : Dig) (S : Where) (w : World) (h : RdN S w v ns) (hvals : ∀ x ∈ ns, x.val.length ≤ 140737488355328) :
    Does Tryd.prog 79 #[tv v r, dv k] w fun q w' => ∃ (ns' : List Node) (to : Int) (u' : Value), q = .tuple #[tv u' to, iv (dropE6 ns r k)] ∧ OwnN w.heap.size w' u' ns' ∧ (dropE6 ns r k = 0 → Grows ns ns' to (without (allT ns r) k)) ∧ (dropE6 ns r k ≠ 0 → ns' = [] ∧ to = 0 ∧ u' = .slice none 0 0) ∧ Ext w w' := by
  refine call_walk Tryd.func79 (by kernel_rfl) rfl Tryd.ntmps79 rfl ?_
  obtain ⟨p, c, rfl, hc⟩ := h.isSlice
  refine St0 ?_
  refine GL.box (vs := [.slice p ns.length c, iv r]) rfl rfl rfl rfl fun b2 w1 hb2 hB2 he1 => ?_
  refine GL.box rfl rfl rfl rfl fun b3 w2 hb3 hB3 he2 => ?_
  refine GL.alloc hT rfl rfl rfl fun b4 w3 hb4 hB4 he3 => ?_
  replace hB2 := hB2.ext he2
  replace hB2 := hB2.ext he3
  replace hB3 := hB3.ext he3
  have hE3 := (he1.trans he2).trans he3
  have s1 := he1.size
  have s2 := he2.size
  have s3 := he3.size
  refine St1 (hB2.all) ?_
  refine GL.call rfl rfl rfl (check6_call ns _ r S w3 (h.ext hE3)) ?_
  rintro _ w8 ⟨rfl, he8⟩
  replace hB2 := hB2.ext he8
  replace hB3 := hB3.ext he8
  replace hB4 := hB4.ext he8
  have hE8 := hE3.trans he8
  cases hok : treeB ns r
  · have e0 : badE false = 8 := rfl
    rw [e0]
    have hp : dropE6 ns r k = 8 := (by simp [dropE6, hok])
    refine St1 (hB2.all) ?_
    refine GL.build [.slice none 0 0, iv 0] hT rfl rfl rfl rfl rfl rfl rfl ?_
    refine GL.storeVar (vs := [.slice none 0 0, iv 0]) hT rfl rfl rfl rfl rfl rfl (by intro q hq; simp at hq; rcases hq with rfl | rfl <;> rfl) hB4 rfl fun wb hcb hBb => ?_
    refine St0 ?_
    refine G.retNt (vs := [.slice none 0 0, iv 0]) rfl rfl hT rfl rfl rfl rfl rfl hBb.all rfl ⟨[], 0, .slice none 0 0, by rw [hp], OwnN.bare _ _ none, fun h => by rw [hp] at h; omega, fun _ => ⟨rfl, rfl, rfl⟩, hcb.below (by omega) hE8⟩
  have e0 : badE true = 0 := rfl
  rw [e0]
  have hT' := treeB_iff.1 hok
  refine St2 (hB2.all) (hB3.all) ?_
  refine GL.call rfl rfl rfl (find6_call _ r ns k S w8 (h.ext hE8) hT') ?_
  rintro _ w9 ⟨m, rfl, hF, hml, he9⟩
  replace hB2 := hB2.ext he9
  replace hB3 := hB3.ext he9
  replace hB4 := hB4.ext he9
  have hE9 := hE8.trans he9
  have hh := hF.has
  by_cases hm0 : (m : Int) = 0
  · rw [decide_eq_false (by omega)] at hh
    refine St0 ?_
    have hp : dropE6 ns r k = 6 := (by simp [dropE6, hok, hh])
    refine St1 (hB2.all) ?_
    refine GL.build [.slice none 0 0, iv 0] hT rfl rfl rfl rfl rfl rfl rfl ?_
    refine GL.storeVar (vs := [.slice none 0 0, iv 0]) hT rfl rfl rfl rfl rfl rfl (by intro q hq; simp at hq; rcases hq with rfl | rfl <;> rfl) hB4 rfl fun wb hcb hBb => ?_
    refine St0 ?_
    refine G.retNt (vs := [.slice none 0 0, iv 0]) rfl rfl hT rfl rfl rfl rfl rfl hBb.all rfl ⟨[], 0, .slice none 0 0, by rw [hp], OwnN.bare _ _ none, fun h => by rw [hp] at h; omega, fun _ => ⟨rfl, rfl, rfl⟩, hcb.below (by omega) hE9⟩
  rw [decide_eq_true (by omega)] at hh
  by_cases hbig : (ns.length : Int) > 261844
  · refine St1 ((tvAt hB2.all).1) ?_
    have hp : dropE6 ns r k = 9 := (by simp [dropE6, hok, hh]; omega)
    refine St1 (hB2.all) ?_
    refine GL.build [.slice none 0 0, iv 0] hT rfl rfl rfl rfl rfl rfl rfl ?_
    refine GL.storeVar (vs := [.slice none 0 0, iv 0]) hT rfl rfl rfl rfl rfl rfl (by intro q hq; simp at hq; rcases hq with rfl | rfl <;> rfl) hB4 rfl fun wb hcb hBb => ?_
    refine St0 ?_
    refine G.retNt (vs := [.slice none 0 0, iv 0]) rfl rfl hT rfl rfl rfl rfl rfl hBb.all rfl ⟨[], 0, .slice none 0 0, by rw [hp], OwnN.bare _ _ none, fun h => by rw [hp] at h; omega, fun _ => ⟨rfl, rfl, rfl⟩, hcb.below (by omega) hE9⟩
  have hp : dropE6 ns r k = 0 := by simp [dropE6, hok, hh]; omega
  refine St2 ((tvAt hB2.all).1) (hB2.all) ?_
  refine GL.call rfl rfl rfl (twin6_call _ r ns S w9 (h.ext hE9) (by omega) hvals) ?_
  rintro _ wa ⟨ut, rfl, hn, hea⟩
  replace hB3 := hB3.ext hea
  replace hB4 := hB4.ext hea
  have hEa := hE9.trans hea
  have l4' := hB4.lt
  refine GL.build [ut, iv r] hT rfl rfl rfl rfl rfl rfl rfl ?_
  refine GL.box (vs := [ut, iv r]) rfl rfl rfl rfl fun bm wb hbm hBm heb => ?_
  replace hB3 := hB3.ext heb
  replace hB4 := hB4.ext heb
  replace hn := hn.ext heb
  have hEb := hEa.trans heb
  have sb := heb.size
  have sa := hEa.size
  have s9 := hE9.size
  have hpos := hT'.pos
  obtain ⟨n0, rfl⟩ : ∃ n0 : Nat, r = n0 := ⟨r.toNat, by omega⟩
  refine St0 ?_
  refine G.drawZ 9 0 8 [1, 2, 3, 4, 5, 6, 7] [(6, ptr bm 0), (3, ptr b3 0), (4, ptr b4 0), (5, iv 0)] (fun i v w' => match i with
    | 1 => v = ptr bm 0 | 2 => v = ptr bm 0 | 3 => v = ptr bm 0 | 4 => v = ptr bm 0 | 5 => v = ptr bm 1 | 6 => v = iv n0 | _ => v = dv k)
    (fun v w' => ∃ (ms : List Node) (to : Nat) (u'' : Value), v = iv to ∧ Blk w' bm 172 [u'', iv n0] ∧ OwnN w.heap.size w' u'' (ns ++ ms) ∧ Grows ns (ns ++ ms) to (without (allT ns n0) k) ∧ Ext w w' ∧ Blk w' b4 52 ti52.zero) (ptr bm 0) follows (by kernel_rfl) (by kernel_rfl) (by kernel_rfl) (by kernel_rfl) (by kernel_rfl) (by kernel_rfl) (by kernel_rfl) (by kernel_rfl) (by (repeat (first | exact Fr.sub_nil _ | refine Fr.sub_cons rfl ?_))) ⟨_, _, _, _, _, rfl, rfl⟩ ?mono2 ?obs2 ?act2 ?fin2
  case mono2 =>
    intro i v w3 w4 he h
    rcases i with _ | _ | _ | _ | _ | _ | _ | i
    all_goals exact h
  case obs2 =>
    intro w0 he0
    refine ⟨fun w' he' => ?_, fun w' he' => ?_, fun w' he' => ?_, fun w' he' => ?_, fun w' he' => ?_, fun w' he' => ?_, fun w' he' => ?_, trivial⟩
    · refine St0 ?_
      exact GL.fact rfl (Ext.refl _) rfl
    · refine St0 ?_
      exact GL.fact rfl (Ext.refl _) rfl
    · rintro v rfl
      refine St0 ?_
      exact GL.fact rfl (Ext.refl _) rfl
    · rintro v rfl
      refine St0 ?_
      exact GL.fact rfl (Ext.refl _) rfl
    · rintro v rfl
      refine St0 ?_
      exact GL.fact rfl (Ext.refl _) rfl
    · rintro v rfl
      refine St1 ((tvAt (hBm.ext (he0.trans he')).all).2) ?_
      exact GL.fact rfl (Ext.refl _) rfl
    · refine St1 ((hB3.ext (he0.trans he')).all) ?_
      exact GL.fact rfl (Ext.refl _) rfl
  case act2 =>
    rintro wc hec v rfl v rfl v rfl
    have hEc := hEb.trans hec
    have sc := hec.size
    have hn2 := (hn.ext hec).mono (B' := w.heap.size) (by omega)
    have lm := hBm.lt
    have hkz : ∃ z ∈ allT ns n0, z.key = k := by
      simp only [hasT, List.any_eq_true, decide_eq_true_eq] at hh
      exact hh
    refine GL.call rfl rfl rfl (without_call6 w.heap.size bm k n0 257 n0 0 dig0 ut ns (allT ns n0) wc (by omega) (by omega) zb0 hkz hT'.all (hBm.ext hec) hn2 (by have := hT'.few; omega) (by omega)) ?_
    rintro _ wd ⟨ms, to, u'', rfl, hm', hn', hst, hone, hml, hk, hr⟩
    refine GL.act rfl ⟨ms, to, u'', rfl, hm', hn', ⟨⟨ms, rfl, hone, by omega⟩, hst, by omega⟩, ?_, ?_⟩
    · obtain ⟨es, hes, hown⟩ := hn2
      exact hk.below (by omega) (fun g hg => (hown.row hg).1) (by omega) hEc
    · obtain ⟨es, hes, hown⟩ := hn2
      exact hk.blk (hB4.ext hec) (by omega) (hown.ne_blk (hB4.ext hec) (by decide))
  case fin2 =>
    rintro v w' ⟨ms, to, u'', rfl, hm', hn', hg, hE', hB4'⟩
    refine St0 ?_
    refine GL.store1 hT rfl rfl rfl rfl rfl rfl rfl hm' (by simp) fun we hce hme => ?_
    have hEe : Ext w we := hce.below (by omega) hE'
    replace hn' := hn'.chg hm' (by decide) hce
    replace hB4' := hB4'.chg hce (by omega)
    replace hme : Blk we bm _ [u'', iv to] := hme
    refine St1 (hme.all) ?_
    refine GL.storeVar (vs := [u'', iv to]) hT rfl rfl rfl rfl rfl rfl (by intro q hq; simp at hq; rcases hq with rfl | rfl; exact hn'.one; rfl) hB4' rfl fun wf hcf hBf => ?_
    refine St0 ?_
    exact G.retNt (vs := [u'', iv to]) rfl rfl hT rfl rfl rfl rfl rfl hBf.all rfl ⟨ns ++ ms, to, u'', by rw [hp], hn'.chg hB4' (by decide) hcf, fun _ => hg, fun h => absurd hp h, hcf.below (by omega) hEe⟩
end Go.Proofs.YtefneilaongpbaaDoor
