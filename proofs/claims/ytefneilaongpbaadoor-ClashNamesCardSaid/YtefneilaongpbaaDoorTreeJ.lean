/-
  What a tree stands for, by the reference; with and without, by the reference.
-/
import Derived.Test.YtefneilaongpbaaDoorTreeG
import Derived.Test.YtefneilaongpbaaDoorPairsE
import Derived.Test.YtefneilaongpbaaDoorPairsA
set_option linter.unusedVariables false
set_option linter.unusedSimpArgs false
set_option maxRecDepth 100000
set_option maxHeartbeats 4000000
namespace Go.Proofs.YtefneilaongpbaaDoor
open Go Go.Bd Go.RowKit
attribute [local irreducible] G GL GQ GS

theorem nodup_le {α : Type} [DecidableEq α] : ∀ {xs ys : List α}, xs.Nodup → (∀ x ∈ xs, x ∈ ys) → xs.length ≤ ys.length
  | [], ys, _, _ => by simp
  | x :: xs, ys, h, hs => by
    have hx := hs x (by simp)
    obtain ⟨h1, h2⟩ := List.nodup_cons.1 h
    have := nodup_le (xs := xs) (ys := ys.erase x) h2 fun y hy => (List.mem_erase_of_ne (fun e => h1 (by rw [← e]; exact hy))).2 (hs y (by simp [hy]))
    rw [List.length_erase_of_mem hx] at this
    have := List.length_pos_of_mem hx
    simp only [List.length_cons]
    omega
section
variable {ns : List Node} {n d : Nat} {b : Dig} {ps : List Pair}
theorem Stand.mem (h : Stand ns n d b ps) : ∀ x ∈ ps, ∃ (i : Nat) (y : Node), ns[i]? = some y ∧ y.leaf = true ∧ x = ⟨y.key, y.val⟩ := by
  induction h with
  | none d b => intro x hx; cases hx
  | leaf hx hl hp => intro y hy; simp at hy; subst hy; exact ⟨_, _, hx, hl, rfl⟩
  | fork hx hl hd h1 h2 _ _ h3 ih1 ih2 =>
    intro y hy
    rcases List.mem_append.1 hy with h | h
    · exact ih1 y h
    · exact ih2 y h
theorem PW.nodup (h : PW ps) : ps.Nodup := h.imp fun {a c} h e => by subst e; omega
theorem Stand.len (h : Stand ns n d b ps) (hz : Zb d b) : ps.length ≤ ns.length := by
  have := nodup_le (xs := ps) (ys := ns.map fun y => (⟨y.key, y.val⟩ : Pair)) (h.pw hz).nodup fun x hx => by
    obtain ⟨i, y, hy, _, rfl⟩ := h.mem x hx
    exact List.mem_map.2 ⟨y, List.mem_of_getElem? hy, rfl⟩
  simpa using this
theorem Stand.valid (h : Stand ns n d b ps) (h1 : OneAll 0 ns) : ∀ x ∈ ps, valB x.val.length = true := fun x hx => by
  obtain ⟨i, y, hy, hl, rfl⟩ := h.mem x hx
  exact (h1.leaf hy hl).1
end
theorem pcells_fill (k : Dig) {u : Value} (hu : u.cells = #[u]) : fillL (fun j => some (j * 33, 33)) (madeCells ti76.zero.toArray (1 * 33)).toList [(0, pv ⟨k, []⟩ u)] = some (k.cells ++ [u]) := fillL_one rfl (pcell_len _ _) (madeLen _ _)
theorem refFor6_call (ns : List Node) (h1 : OneAll 0 ns) (hlen : ns.length ≤ 1000000) (m : Nat) : ∀ (n d : Nat) (b : Dig) (ps : List Pair) (v : Value) (r : Int) (S : Where) (w : World), n < m → Stand ns n d b ps → Zb d b → RdN S w v ns →
    Does Tryd.prog 149 #[tv v r, iv n] w fun q w' => OwnP w.heap.size w' q ps ∧ Ext w w' := by
  induction m with
  | zero => intro n d b ps v r S w hn; omega
  | succ m ih =>
    intro n d b ps v r S w hn hs hz h
    refine call_walk Tryd.func149 (by kernel_rfl) rfl Tryd.ntmps149 rfl ?_
    obtain ⟨p, c, rfl, hc⟩ := h.isSlice
    refine St0 ?_
    refine GL.box (vs := [.slice p ns.length c, iv r]) rfl rfl rfl rfl fun b2 w1 hb2 hB2 he1 => ?_
    have s1 := he1.size
    by_cases h0 : (n : Int) = 0
    · refine St0 ?_
      obtain rfl : n = 0 := by omega
      have : ps = [] := (hs.empty).2 rfl
      subst this
      exact G.ret1 rfl rfl rfl rfl ⟨OwnP.bare _ _ none, he1⟩
    obtain ⟨i, rfl⟩ : ∃ i, n = i + 1 := ⟨n - 1, by omega⟩
    have hle := hs.le
    have hpl := hs.len hz
    obtain ⟨x, hx⟩ : ∃ x, ns[i]? = some x := ⟨_, List.getElem?_eq_getElem (by omega)⟩
    obtain ⟨bb, o, c', u, hv, hu, hA⟩ := (h.ext he1).elem hx
    cases hv
    refine St1 ((tvAt hB2.all).1) ?_
    (refine GL.indexSlice (i) 36 ((o + i * 36)) hT rfl rfl rfl rfl rfl rfl rfl rfl ?_ ?_ ?_ ?_; (focus omega); (focus omega); (focus omega))
    refine St1 (hA) ?_
    refine GL.alloc hT rfl rfl rfl fun b5 w2 hb5 hB5 he2 => ?_
    refine St0 ?_
    refine GL.storeVar hT rfl rfl rfl rfl rfl (ncells_len _ _) (ncells_one _ hu.one) hB5 (by rw [ncells_len]; decide) fun w3 hc3 hB5 => ?_
    have hE13 : Ext w1 w3 := hc3.below (by omega) he2
    replace hB2 := hB2.ext hE13
    have hE3 := he1.trans hE13
    have s3 := hE3.size
    have hN := nAt hB5.all
    have hlf := hN.leaf
    cases hl : x.leaf
    · rw [hl] at hlf
      obtain ⟨l, rr, p0, p1, hd, e1, e2, hS, h2, rfl⟩ := hs.sides hx hl
      obtain ⟨l', rr', e1', e2', hl1, hl2, _, _, _⟩ := h1.fork (n := 0) hx hl
      have hleft := hN.left
      have hright := hN.right
      rw [e1] at hleft e1'
      rw [e2] at hright e2'
      refine St1 (hlf) ?_
      refine G.drawS 8 [0, 1, 2, 4, 5, 6, 3, 7] [3, 7] follows (by kernel_rfl) (by kernel_rfl) (by kernel_rfl) (by kernel_rfl) (by kernel_rfl) (by kernel_rfl) ?_
      refine SSt3 (hB2.all) (hleft) (hright) ?_
      refine GS.op rfl fun w4 he4 => ?_
      refine GL.call rfl rfl rfl (ih l (d + 1) (sideOf b d 0) p0 _ r any w4 (by omega) hS.left (hz.side hd 0) ((h.ext (hE3.trans he4)).imp fun _ _ _ => trivial)) ?_
      rintro q0 w5 ⟨ho0, he5⟩
      refine GS.done he5 ?_
      refine GS.op rfl fun w6 he6 => ?_
      have hE6 := hE3.trans (he4.trans (he5.trans he6))
      refine GL.call rfl rfl rfl (ih rr (d + 1) (sideOf b d 1) p1 _ r any w6 (by omega) hS.right (hz.side hd 1) ((h.ext hE6).imp fun _ _ _ => trivial)) ?_
      rintro q1 w7 ⟨ho1, he7⟩
      refine GS.done he7 ?_
      refine GS.tail fun w8 he8 => ?_
      have s4 := he4.size
      have s6 := hE6.size
      have hE8 := hE6.trans (he7.trans he8)
      obtain ⟨es0, hes0, hown0⟩ := (ho0.ext (he6.trans (he7.trans he8))).mono (B' := w.heap.size) (by omega)
      obtain ⟨es1, hes1, hown1⟩ := (ho1.ext he8).mono (B' := w.heap.size) (by omega)
      have hone1 : ∀ c ∈ es1.flatten, c.oneCell' = true := pairs_one (hes1.imp fun e x ⟨u, h1, h2⟩ => (⟨u, h1, h2.fresh⟩ : PairC (fresh w.heap.size) w8 e x))
      rw [List.length_append] at hpl
      refine GL.append hT rfl rfl rfl rfl rfl rfl rfl rfl rfl rfl hown0 hown1.fresh hown1.1 hone1 (by show (p0.length + p1.length) * 56 ≤ _; omega) (by omega) (by have := hE8.size; omega) fun q w9 ho hb hrow => ?_
      refine St0 ?_
      refine G.ret1 rfl rfl rfl rfl ⟨⟨es0 ++ es1, (hes0.imp fun _ _ h => h.but hown0 hb).append (hes1.imp fun _ _ h => h.but hown0 hb), ?_⟩, hb.below (fun g hg => (hown0.row hg).1) (by have := hE8.size; omega) hE8⟩
      rw [List.length_append, List.flatten_append]
      exact ho
    · rw [hl] at hlf
      obtain ⟨rfl, hpx⟩ := hs.one hx hl
      have hvl := valB_le (h1.leaf hx hl).1
      refine St1 (hlf) ?_
      refine G.drawS 7 (List.range 7) [4, 6] follows (by kernel_rfl) (by kernel_rfl) (by kernel_rfl) (by kernel_rfl) (by kernel_rfl) (by kernel_rfl) ?_
      refine SSt2 (hN.key) (hN.val) ?_
      refine GS.op rfl fun w4 he4 => ?_
      refine GL.call rfl rfl rfl (refTwin_call u x.val _ w4 (hu.ext (hE13.trans he4)) (by omega)) ?_
      rintro u' w5 ⟨hu', he5⟩
      refine GS.done he5 ?_
      refine SSt0 ?_
      refine GS.build (x.key.cells ++ [u']) hT rfl rfl rfl rfl rfl rfl (pair_fill x.key (RdF.some (Own.fresh hu'))) ?_
      refine GS.op rfl fun w6 he6 => ?_
      refine GL.buildSlice (x.key.cells ++ [u']) hT rfl rfl rfl rfl rfl rfl rfl (fillL_one rfl (pcell_len _ _) (madeLen _ _)) fun b7 w7 hb7 hB7 he7 => ?_
      refine GS.done he7 ?_
      refine GS.tail fun w8 he8 => ?_
      refine St0 ?_
      have hE := hE3.trans (he4.trans (he5.trans (he6.trans (he7.trans he8))))
      have s4 := he4.size
      have s6 := (he4.trans (he5.trans he6)).size
      refine G.ret1 rfl rfl rfl rfl ⟨⟨[x.key.cells ++ [u']], .cons ⟨u', rfl, (Own.ext hu' (he6.trans (he7.trans he8))).mono (by omega)⟩ .nil, ?_⟩, hE⟩
      refine Own.of_blk (rest := []) (by omega) (Nat.le_refl _) (by simp [Dig.len]) ?_ rfl
      simpa using hB7.ext he8
theorem refAll6_call (ns : List Node) (v : Value) (r : Int) (S : Where) (w : World) (hok : TreeOk ns r) (h : RdN S w v ns) :
    Does Tryd.prog 118 #[tv v r] w fun q w' => OwnP w.heap.size w' q (allT ns r) ∧ Ext w w' := by
  refine call_walk Tryd.func118 (by kernel_rfl) rfl Tryd.ntmps118 rfl ?_
  obtain ⟨p, c, rfl, hc⟩ := h.isSlice
  have hpos := hok.pos
  have hfew := hok.few
  obtain ⟨n0, rfl⟩ : ∃ n0 : Nat, r = n0 := ⟨r.toNat, by omega⟩
  refine St0 ?_
  refine GL.box (vs := [.slice p ns.length c, iv n0]) rfl rfl rfl rfl fun b2 w1 hb2 hB2 he1 => ?_
  refine St2 (hB2.all) ((tvAt hB2.all).2) ?_
  refine GL.call rfl rfl rfl (refFor6_call ns hok.one (by omega) (n0 + 1) n0 0 dig0 _ _ n0 S w1 (by omega) hok.all zb0 (h.ext he1)) ?_
  rintro q w2 ⟨ho, he2⟩
  refine St0 ?_
  exact G.ret1 rfl rfl rfl rfl ⟨ho.mono he1.size, he1.trans he2⟩
theorem TreeOk.valid {ns : List Node} {r : Int} (h : TreeOk ns r) : ∀ x ∈ allT ns r, valB x.val.length = true := h.all.valid h.one
theorem TreeOk.pw {ns : List Node} {r : Int} (h : TreeOk ns r) : PW (allT ns r) := h.all.pw zb0
theorem TreeOk.len {ns : List Node} {r : Int} (h : TreeOk ns r) : (allT ns r).length ≤ ns.length := h.all.len zb0
/-- What the reference's tree with a value stands for. -/
noncomputable def putL6 (ns : List Node) (r : Int) (k : Dig) (bs : Bytes) : List Pair := @ite _ (putE6 ns r bs = 0) (Classical.propDecidable _) (withL (without (allT ns r) k) k bs) []
noncomputable def dropL6 (ns : List Node) (r : Int) (k : Dig) : List Pair := @ite _ (dropE6 ns r k = 0) (Classical.propDecidable _) (without (allT ns r) k) []
theorem putL6_ok {ns : List Node} {r : Int} {k : Dig} {bs : Bytes} (h : putE6 ns r bs = 0) : putL6 ns r k bs = withL (without (allT ns r) k) k bs := by unfold putL6; rw [if_pos h]
theorem putL6_bad {ns : List Node} {r : Int} {k : Dig} {bs : Bytes} (h : putE6 ns r bs ≠ 0) : putL6 ns r k bs = [] := by unfold putL6; rw [if_neg h]
theorem dropL6_ok {ns : List Node} {r : Int} {k : Dig} (h : dropE6 ns r k = 0) : dropL6 ns r k = without (allT ns r) k := by unfold dropL6; rw [if_pos h]
theorem dropL6_bad {ns : List Node} {r : Int} {k : Dig} (h : dropE6 ns r k ≠ 0) : dropL6 ns r k = [] := by unfold dropL6; rw [if_neg h]
theorem FindAt.has {ps : List Pair} {k : Dig} {i : Int} (h : FindAt ps k i) : (0 ≤ i ∧ hasT ps k = true) ∨ (i = -1 ∧ hasT ps k = false) := by
  rcases h with ⟨j, x, rfl, hx, hk⟩ | ⟨rfl, hno⟩
  · refine .inl ⟨by omega, ?_⟩
    simp only [hasT, List.any_eq_true, decide_eq_true_eq]
    exact ⟨x, List.mem_of_getElem? hx, hk⟩
  · refine .inr ⟨rfl, ?_⟩
    simp only [hasT, List.any_eq_false, decide_eq_true_eq]
    intro x hx
    obtain ⟨j, hj⟩ := List.mem_iff_getElem?.1 hx
    exact hno j x hj
end Go.Proofs.YtefneilaongpbaaDoor
