import Derived.Test.YtefneilaongpbaaDoorTreeA
import Derived.Test.YtefneilaongpbaaDoorOwnP
import Derived.Test.YtefneilaongpbaaDoorDrawW
/-
  Trees in memory of one's own; copies.
-/
set_option linter.unusedVariables false
set_option linter.unusedSimpArgs false
set_option maxRecDepth 100000
set_option maxHeartbeats 4000000
namespace Go.Proofs.YtefneilaongpbaaDoor
open Go Go.Bd Go.RowKit
attribute [local irreducible] G GL GQ GS

theorem _root_.Go.Bd.Blk.but {w w' : World} {b : Nat} {T : TypeId} {c : List Value} {r : Option Nat} (h : Blk w b T c) (hb : But r w w') (hne : r ≠ some b) : Blk w' b T c := h.keep (hb.block b h.lt (fun e => hne e.symm))
/-- A cell of a slice of one's own is written over. -/
theorem _root_.Go.Bd.Own.setAt {B : Nat} {w : World} {v : Value} {n sz : Nat} {T : TypeId} {cs : List Value} (h : Own B w v n sz T cs) {k : Nat} (hk : k < n * sz) :
    ∃ g cap rest, v = .slice (some ⟨g, 0, none⟩) n cap ∧ rowOf v = some g ∧ B ≤ g ∧ Blk w g T (cs ++ rest) ∧ k < (cs ++ rest).length ∧ ∀ w' u', Blk w' g T ((cs ++ rest).set k u') → Own B w' v n sz T (cs.set k u') := by
  have hn : 0 < n := by rcases Nat.eq_zero_or_pos n with h0 | h0; · subst h0; simp at hk
                        · exact h0
  obtain ⟨g, cap, rest, rfl, hrow, hB, hnc, hblk, hr, hl⟩ := h.parts hn
  refine ⟨g, cap, rest, rfl, hrow, hB, hblk, by rw [List.length_append, hl]; omega, fun w' u' hB' => ?_⟩
  rw [List.set_append_left _ _ (by rw [hl]; omega)] at hB'
  exact Own.of_blk hB hnc (by simpa using hl) hB' hr
/-- A node's cells; its value in memory of one's own. -/
def NodeN (B : Nat) (w : World) (e : List Value) (x : Node) : Prop := ∃ u, e = ncells x u ∧ OwnB B w u x.val
/-- Nodes in memory of one's own. -/
def OwnN (B : Nat) (w : World) (v : Value) (ns : List Node) : Prop := ∃ es, All2 (NodeN B w) es ns ∧ Own B w v ns.length 36 56 es.flatten
theorem NodeN.ext {B : Nat} {w w' : World} {e : List Value} {x : Node} (h : NodeN B w e x) (he : Ext w w') : NodeN B w' e x := let ⟨u, h1, h2⟩ := h; ⟨u, h1, h2.ext he⟩
theorem NodeN.mono {B B' : Nat} {w : World} {e : List Value} {x : Node} (h : NodeN B w e x) (hB : B' ≤ B) : NodeN B' w e x := let ⟨u, h1, h2⟩ := h; ⟨u, h1, h2.mono hB⟩
theorem OwnN.ext {B : Nat} {w w' : World} {v : Value} {ns : List Node} (h : OwnN B w v ns) (he : Ext w w') : OwnN B w' v ns := let ⟨es, h1, h2⟩ := h; ⟨es, h1.imp fun _ _ h => h.ext he, h2.ext he⟩
theorem OwnN.mono {B B' : Nat} {w : World} {v : Value} {ns : List Node} (h : OwnN B w v ns) (hB : B' ≤ B) : OwnN B' w v ns := let ⟨es, h1, h2⟩ := h; ⟨es, h1.imp fun _ _ h => h.mono hB, h2.mono hB⟩
theorem OwnN.bare (B : Nat) (w : World) (p : Option Addr) : OwnN B w (.slice p 0 0) [] := ⟨[], .nil, Own.bare _ _ _ _ _⟩
theorem OwnN.rd {B : Nat} {w : World} {v : Value} {ns : List Node} (h : OwnN B w v ns) : RdN (fresh B) w v ns := by
  obtain ⟨es, h1, h2⟩ := h
  exact ⟨es, h1.imp fun e x ⟨u, hu, ho⟩ => ⟨u, hu, ho.fresh⟩, h2.fresh⟩
theorem OwnN.one {B : Nat} {w : World} {v : Value} {ns : List Node} (h : OwnN B w v ns) : v.oneCell' = true := by
  obtain ⟨p, c, rfl, _⟩ := h.rd.isSlice; rfl
theorem OwnN.some {B : Nat} {w : World} {v : Value} {ns : List Node} (h : OwnN B w v ns) : v.cells = #[v] := by
  obtain ⟨p, c, rfl, _⟩ := h.rd.isSlice; rfl
/-- A write into a row of nodes leaves the values alone. -/
theorem NodeN.but {B : Nat} {w w' : World} {e : List Value} {x : Node} {v : Value} {n sz : Nat} {cs : List Value} {B' : Nat} (h : NodeN B w e x) (ho : Own B' w v n sz 56 cs) (hb : But (rowOf v) w w') : NodeN B w' e x := by
  obtain ⟨u, h1, h2⟩ := h
  refine ⟨u, h1, h2.keep (fun g hg hlt => hb.block g hlt (fun e => ?_)) (by decide)⟩
  exact Own.sep h2 ho rfl g hg e.symm
theorem NodeN.chg {B : Nat} {w w' : World} {e : List Value} {x : Node} {b : Nat} {T' : TypeId} {c : List Value} (h : NodeN B w e x) (hB : Blk w b T' c) (hne : Nat.beq 5 T' = false) (hc : Chg b w w') : NodeN B w' e x :=
  let ⟨u, h1, h2⟩ := h; ⟨u, h1, h2.keepBlk hB (by rw [hne]; rfl) hc⟩
/-- A write into a block of another kind. -/
theorem OwnN.chg {B : Nat} {w w' : World} {v : Value} {ns : List Node} {b : Nat} {T' : TypeId} {c : List Value} (h : OwnN B w v ns) (hB : Blk w b T' c) (hne : (Nat.beq 5 T' || Nat.beq 56 T') = false) (hc : Chg b w w') : OwnN B w' v ns := by
  obtain ⟨es, h1, h2⟩ := h
  simp only [Bool.or_eq_false_iff] at hne
  exact ⟨es, h1.imp fun _ _ h => h.chg hB hne.1 hc, h2.keepBlk hB (by rw [hne.2]; rfl) hc⟩
theorem nodesN_len {B : Nat} {w : World} {es : List (List Value)} {ns : List Node} (h : All2 (NodeN B w) es ns) : es.flatten.length = ns.length * 36 := by
  induction h with
  | nil => rfl
  | cons h _ ih =>
    obtain ⟨u, rfl, hu⟩ := h
    rw [List.flatten_cons, List.length_append, ih, ncells_len, List.length_cons]
    omega
theorem nodes_len {S : Where} {w : World} {es : List (List Value)} {ns : List Node} (h : All2 (NodeC S w) es ns) : es.flatten.length = ns.length * 36 := by
  induction h with
  | nil => rfl
  | cons h _ ih =>
    obtain ⟨u, rfl, hu⟩ := h
    rw [List.flatten_cons, List.length_append, ih, ncells_len, List.length_cons]
    omega
theorem nodes_one {S : Where} {w : World} {es : List (List Value)} {ns : List Node} (h : All2 (NodeC S w) es ns) : ∀ c ∈ es.flatten, c.oneCell' = true := by
  induction h with
  | nil => intro c hc; cases hc
  | cons h _ ih =>
    intro c hc
    rw [List.flatten_cons, List.mem_append] at hc
    rcases hc with h1 | h1
    · obtain ⟨u, rfl, hu⟩ := h; exact ncells_one _ (RdF.one hu) c h1
    · exact ih c h1
theorem nodesN_len36 {B : Nat} {w : World} {es : List (List Value)} {ns : List Node} (h : All2 (NodeN B w) es ns) : ∀ e ∈ es, e.length = 36 := fun e he => by
  obtain ⟨j, hj⟩ := List.mem_iff_getElem?.1 he
  have hjl : j < ns.length := by rw [← h.length]; exact (List.getElem?_eq_some_iff.1 hj).1
  obtain ⟨e', he', x, rfl, _⟩ := h.at j _ (List.getElem?_eq_getElem hjl)
  rw [hj] at he'; cases he'
  exact ncells_len _ _
/-- One more node. -/
theorem ownN_app {B : Nat} {w w' : World} {v v' : Value} {ns : List Node} {x : Node} {e : List Value} {es : List (List Value)} (hes : All2 (NodeN B w) es ns) (hown : Own B w v ns.length 36 56 es.flatten) (hx : NodeN B w e x) (hb : But (rowOf v) w w') (ho : Own B w' v' (ns.length + 1) 36 56 (es.flatten ++ e)) : OwnN B w' v' (ns ++ [x]) := by
  refine ⟨es ++ [e], (hes.imp fun _ _ h => h.but hown hb).append (.cons (hx.but hown hb) .nil), ?_⟩
  rw [List.length_append, List.flatten_append]
  simpa using ho
theorem ncells_set (x : Node) (u u' : Value) : (ncells x u).set 33 u' = ncells x u' := by
  have e : ∀ u, ncells x u = (.bool x.leaf :: x.key.cells) ++ (u :: [iv x.left, iv x.right]) := fun u => by simp [ncells]
  rw [e, e, List.set_append_right _ _ (by simp [Dig.len])]
  simp [Dig.len]
theorem mid_set {c1 c2 e : List Value} {o k : Nat} {u' : Value} (h1 : c1.length = o) (hk : k < e.length) : (c1 ++ (e ++ c2)).set (o + k) u' = c1 ++ (e.set k u' ++ c2) := by
  rw [List.set_append_right _ _ (by omega), List.set_append_left _ _ (by omega), show o + k - c1.length = k by omega]
theorem mid_at {c1 c2 e : List Value} {o k : Nat} {u : Value} (h1 : c1.length = o) (hk : e[k]? = some u) : (c1 ++ (e ++ c2))[o + k]? = some u := by
  rw [List.getElem?_append_right (by omega), List.getElem?_append_left (by have := (List.getElem?_eq_some_iff.1 hk).1; omega), show o + k - c1.length = k by omega]
  exact hk
theorem ncells_val (x : Node) (u : Value) : (ncells x u)[33]? = some u := by
  have e : ncells x u = (.bool x.leaf :: x.key.cells) ++ (u :: [iv x.left, iv x.right]) := by simp [ncells]
  rw [e, List.getElem?_append_right (by simp [Dig.len])]
  simp [Dig.len]

theorem cloneN_call (v : Value) (n : Nat) (cs : List Value) (S : Where) (w : World) (h : RdF S w v n cs) (hl : cs.length = n * 36) (h1 : ∀ c ∈ cs, c.oneCell' = true) (hm : n ≤ 4294967296) :
    Does Tryd.prog 126 #[v] w fun v' w' => Own w.heap.size w' v' n 36 56 cs ∧ Ext w w' := by
  refine call_walk Tryd.func126 (by kernel_rfl) rfl Tryd.ntmps126 rfl ?_
  obtain ⟨p, c, rfl, hc, hcs⟩ := id h
  cases p with
  | none =>
    refine St0 ?_
    obtain rfl : cs = [] := by
      rcases hcs with h | ⟨b, o, h, _⟩
      · exact h
      · cases h
    obtain rfl : n = 0 := by simp at hl; omega
    exact G.ret1 rfl rfl rfl rfl ⟨Own.bare _ _ none 36 _, Ext.refl w⟩
  | some a =>
    refine St0 ?_
    refine GL.buildSlice _ hT rfl rfl rfl rfl rfl rfl rfl rfl fun b w1 hb hB he => ?_
    refine St0 ?_
    refine GL.append (B := w.heap.size) hT rfl rfl rfl rfl rfl rfl rfl rfl rfl rfl (Own.bare w.heap.size w1 _ 36 _) (h.ext he) hl h1 (by show (0 + n) * 80 ≤ _; omega) (by omega) he.size fun v' w2 ho hb2 _ => ?_
    refine St0 ?_
    refine G.ret1 rfl rfl rfl rfl ⟨?_, he.trans hb2.ext⟩
    simpa using ho
theorem twin6_call (v : Value) (r : Int) (ns : List Node) (S : Where) (w : World) (h : RdN S w v ns) (hm : ns.length ≤ 4294967296) (hv : ∀ x ∈ ns, x.val.length ≤ 140737488355328) :
    Does Tryd.prog 71 #[tv v r] w fun q w' => ∃ u, q = tv u r ∧ OwnN w.heap.size w' u ns ∧ Ext w w' := by
  refine call_walk Tryd.func71 (by kernel_rfl) rfl Tryd.ntmps71 rfl ?_
  obtain ⟨es, hes, hrd⟩ := id h
  refine St0 ?_
  refine GL.box (vs := [v, iv r]) rfl rfl rfl rfl fun b1 wa hb1 hB1 hea => ?_
  refine GL.alloc hT rfl rfl rfl fun b2 wb hb2 hB2 heb => ?_
  have sa := hea.size
  have sb := heb.size
  have l1 := hB1.lt
  have l2 := hB2.lt
  replace hB1 := hB1.ext heb
  have heab := hea.trans heb
  refine St1 ((tvAt hB1.all).1) ?_
  refine GL.call rfl rfl rfl (cloneN_call v ns.length es.flatten S wb (hrd.ext heab) (nodes_len hes) (nodes_one hes) hm) ?_
  rintro q wc ⟨hown, hec⟩
  have hEc := heab.trans hec
  replace hB1 := hB1.ext hec
  replace hB2 := hB2.ext hec
  obtain ⟨p, c, hr⟩ := hown.shape
  subst hr
  refine St0 ?_
  refine GL.store1 hT rfl rfl rfl rfl rfl rfl rfl hB1 (by simp) fun w1 hc1 hB1 => ?_
  have hE1 : Ext w w1 := hc1.below (by omega) hEc
  replace hB2 := hB2.chg hc1 (by omega)
  replace hown := hown.keepBlk (T' := 52) (B := wb.heap.size) (w := wc) (w' := w1) (by assumption) (by decide) hc1
  replace hB1 : Blk w1 b1 _ [.slice p ns.length c, iv r] := hB1
  replace hown := hown.mono (B' := w.heap.size) (by omega)
  refine St1 ((tvAt hB1.all).1) ?_
  refine G.sub (f' := [(11, iv ((0 : Nat) : Int)), (10, iv (ns.length : Nat)), (1, ptr b1 0), (2, ptr b2 0)]) (by (repeat (first | exact Fr.sub_nil _ | refine Fr.sub_cons rfl ?_))) ?_
  refine G.rounds (α := Nat) (fun j f w' => j ≤ ns.length ∧ Ext w w' ∧ Blk w' b1 52 [.slice p ns.length c, iv r] ∧ Blk w' b2 52 ti52.zero ∧ (∃ e1 e2, All2 (NodeN w.heap.size w') e1 (ns.take j) ∧ All2 (NodeC S w) e2 (ns.drop j) ∧ Own w.heap.size w' (.slice p ns.length c) ns.length 36 56 (e1.flatten ++ e2.flatten)) ∧ f = [(11, iv j), (10, iv (ns.length : Nat)), (1, ptr b1 0), (2, ptr b2 0)]) (fun j => ns.length - j) ?round 0 ⟨by omega, hE1, hB1, hB2, ⟨[], es, .nil, hes, by simpa using hown⟩, rfl⟩
  clear hown hB1 hB2 hec hc1 hes hrd hE1
  rintro j f w2 ⟨hj, he2, hB1, hB2, ⟨e1, e2, h1, h2, ho⟩, rfl⟩ again
  by_cases hlt : (j : Int) < ns.length
  · obtain ⟨x, hx⟩ : ∃ x, ns[j]? = some x := ⟨_, List.getElem?_eq_getElem (by omega)⟩
    have hdr : ns.drop j = x :: ns.drop (j + 1) := by
      rw [List.drop_eq_getElem_cons (by omega)]
      congr 1
      have := (List.getElem?_eq_some_iff.1 hx).2
      exact this
    have htk : ns.take (j + 1) = ns.take j ++ [x] := by rw [List.take_add_one, hx]; rfl
    rw [hdr] at h2
    obtain ⟨ex, er, rfl, ⟨u, rfl, hu⟩, hrest⟩ : ∃ ex er, e2 = ex :: er ∧ NodeC S w ex x ∧ All2 (NodeC S w) er (ns.drop (j + 1)) := by
      cases h2 with
      | cons h t => exact ⟨_, _, rfl, h, t⟩
    rw [List.flatten_cons] at ho
    have hlen : e1.flatten.length = j * 36 := by rw [nodesN_len h1]; simp; omega
    have s2 := he2.size
    obtain ⟨g, cap, rest, hvv, hrow, hgB, hblk, hlen', hback⟩ := ho.setAt (k := j * 36 + 33) (by have : j + 1 ≤ ns.length := by omega
                                                                                                 omega)
    cases hvv
    have hat : At any w2 g (j * 36 + 33) [u] := (hblk.one (by rw [List.append_assoc, List.append_assoc]; exact mid_at hlen (ncells_val x u))).imp fun _ _ _ => trivial
    refine St0 ?_
    refine G.drawS 10 (List.range 10) [9] follows (by kernel_rfl) (by kernel_rfl) (by kernel_rfl) (by kernel_rfl) (by kernel_rfl) (by kernel_rfl) ?_
    refine SSt1 ((tvAt hB1.all).1) ?_
    (refine GS.indexSlice (j) 36 ((j * 36)) hT rfl rfl rfl rfl rfl rfl rfl rfl ?_ ?_ ?_ ?_; (focus omega); (focus omega); (focus omega))
    refine SSt1 (hat) ?_
    refine GS.op rfl fun w3 he3 => ?_
    refine GL.call rfl rfl rfl (cloneB_call u x.val _ w3 ((RdB.ext hu he2).ext he3) (hv x (List.mem_of_getElem? hx))) ?_
    rintro u' w4 ⟨hu', he4⟩
    refine GS.done he4 ?_
    refine GS.tail fun w5 he5 => ?_
    (refine GL.indexSlice (j) 36 ((j * 36)) hT rfl rfl rfl rfl rfl rfl rfl rfl ?_ ?_ ?_ ?_; (focus omega); (focus omega); (focus omega))
    refine St0 ?_
    have he25 := he3.trans (he4.trans he5)
    refine GL.store1 hT rfl rfl rfl rfl rfl hu'.some hu'.one (hblk.ext he25) (by simpa using hlen') fun w6 hc6 hblk6 => ?_
    have he6 : Ext w w6 := hc6.below hgB (he2.trans he25)
    refine St0 ?_
    have ho5 := ho.ext he25
    have n1 := ho5.ne_blk (hB1.ext he25) (by decide)
    have n2 := ho5.ne_blk (hB2.ext he25) (by decide)
    rw [hrow] at n1 n2
    refine G.sub (by (repeat (first | exact Fr.sub_nil _ | refine Fr.sub_cons rfl ?_))) (again (j + 1) _ _ (by omega) ⟨by omega, he6, (hB1.ext he25).chg hc6 (fun e => n1 (by rw [e])), (hB2.ext he25).chg hc6 (fun e => n2 (by rw [e])), ⟨e1 ++ [ncells x u'], er, ?_, hrest, ?_⟩, rfl⟩)
    · rw [htk]
      have hb6 := But.of_chg hc6
      rw [← hrow] at hb6
      exact (h1.imp fun _ _ h => (h.ext he25).but ho5 hb6).append (.cons (NodeN.but ⟨u', rfl, (hu'.ext he5).mono (by have := he3.size; omega)⟩ ho5 hb6) .nil)
    · have := hback w6 u' (by simpa using hblk6)
      rw [mid_set hlen (by rw [ncells_len]; decide), ncells_set] at this
      simpa using this
  · refine St1 (hB1.all) ?_
    refine GL.storeVar (vs := [.slice p ns.length c, iv r]) hT rfl rfl rfl rfl rfl rfl (by intro q hq; simp at hq; rcases hq with rfl | rfl <;> rfl) hB2 rfl fun w3 hc3 hB3 => ?_
    refine St0 ?_
    have hjl : j = ns.length := by omega
    refine G.retN (vs := [.slice p ns.length c, iv r]) rfl rfl hT rfl rfl rfl rfl hB3.all rfl ⟨.slice p ns.length c, rfl, ?_, hc3.below (by omega) he2⟩
    have hO : OwnN w.heap.size w2 (.slice p ns.length c) ns := by
      refine ⟨e1, ?_, ?_⟩
      · rw [List.take_of_length_le (by omega)] at h1
        exact h1
      · rw [List.drop_of_length_le (by omega)] at h2
        cases h2
        simpa using ho
    exact hO.chg hB2 (by decide) hc3
theorem refTwin6_call (v : Value) (r : Int) (ns : List Node) (S : Where) (w : World) (h : RdN S w v ns) (hm : ns.length ≤ 4294967296) (hv : ∀ x ∈ ns, x.val.length ≤ 140737488355328) :
    Does Tryd.prog 39 #[tv v r] w fun q w' => ∃ u, q = tv u r ∧ OwnN w.heap.size w' u ns ∧ Ext w w' := by
  refine call_walk Tryd.func39 (by kernel_rfl) rfl Tryd.ntmps39 rfl ?_
  obtain ⟨p, c, rfl, hc⟩ := h.isSlice
  refine St0 ?_
  refine GL.box (vs := [.slice p ns.length c, iv r]) rfl rfl rfl rfl fun b1 wa hb1 hB1 hea => ?_
  refine GL.alloc hT rfl rfl rfl fun b2 wb hb2 hB2 heb => ?_
  have sa := hea.size
  have sb := heb.size
  have l1 := hB1.lt
  have l2 := hB2.lt
  replace hB1 := hB1.ext heb
  have heab := hea.trans heb
  refine St1 ((tvAt hB1.all).2) ?_
  refine GL.build [.slice none 0 0, iv r] hT rfl rfl rfl rfl rfl rfl (by rfl) ?_
  refine GL.alloc hT rfl rfl rfl fun b3 wc hb3 hB3 hec => ?_
  have l3 := hB3.lt
  refine St0 ?_
  refine GL.storeVar (vs := [.slice none 0 0, iv r]) hT rfl rfl rfl rfl rfl rfl (by intro q hq; simp at hq; rcases hq with rfl | rfl <;> rfl) hB3 rfl fun w1 hc1 hB3 => ?_
  have sc := hec.size
  replace hB1 := hB1.ext hec
  replace hB2 := hB2.ext hec
  have hE1 : Ext w w1 := hc1.below (by omega) (heab.trans hec)
  replace hB1 := hB1.chg hc1 (by omega)
  replace hB2 := hB2.chg hc1 (by omega)
  refine St0 ?_
  refine G.sub (f' := [(4, iv ((0 : Nat) : Int)), (1, ptr b1 0), (2, ptr b2 0), (3, ptr b3 0)]) (by (repeat (first | exact Fr.sub_nil _ | refine Fr.sub_cons rfl ?_))) ?_
  refine G.rounds (α := Nat) (fun j f w' => j ≤ ns.length ∧ Ext w w' ∧ Blk w' b1 52 [.slice p ns.length c, iv r] ∧ Blk w' b2 52 ti52.zero ∧ (∃ u, Blk w' b3 52 [u, iv r] ∧ OwnN w.heap.size w' u (ns.take j)) ∧ f = [(4, iv j), (1, ptr b1 0), (2, ptr b2 0), (3, ptr b3 0)]) (fun j => ns.length - j) ?round 0 ⟨by omega, hE1, hB1, hB2, ⟨_, hB3, OwnN.bare _ _ none⟩, rfl⟩
  clear hB1 hB2 hB3 hE1 hc1
  rintro j f w2 ⟨hj, he2, hB1, hB2, ⟨ur, hB3, hr⟩, rfl⟩ again
  have s2 := he2.size
  by_cases hlt : (j : Int) < ns.length
  · obtain ⟨x, hx⟩ : ∃ x, ns[j]? = some x := ⟨_, List.getElem?_eq_getElem (by omega)⟩
    obtain ⟨bb, o, c', u, hv', hu, hA⟩ := (h.ext he2).elem hx
    cases hv'
    refine St1 ((tvAt hB1.all).1) ?_
    (refine GL.indexSlice (j) 36 ((o + j * 36)) hT rfl rfl rfl rfl rfl rfl rfl rfl ?_ ?_ ?_ ?_; (focus omega); (focus omega); (focus omega))
    refine St1 (hA) ?_
    refine GL.alloc hT rfl rfl rfl fun b5 w3 hb5 hB5 he3 => ?_
    refine St0 ?_
    refine GL.storeVar hT rfl rfl rfl rfl rfl (ncells_len _ _) (ncells_one _ hu.one) hB5 (by rw [ncells_len]; decide) fun w4 hc4 hB5 => ?_
    have hE24 : Ext w2 w4 := hc4.below (by omega) he3
    refine St1 ((nAt hB5.all).val) ?_
    refine GL.call rfl rfl rfl (refTwin_call u x.val _ w4 (hu.ext hE24) (hv x (List.mem_of_getElem? hx))) ?_
    rintro u' w5 ⟨hu', he5⟩
    replace hB5 := hB5.ext he5
    refine St0 ?_
    refine GL.store1 hT rfl rfl rfl rfl rfl hu'.some hu'.one hB5 (by rw [ncells_len]; decide) fun w6 hc6 hB6 => ?_
    rw [ncells_set] at hB6
    have hE26 : Ext w2 w6 := hc6.below (by omega) (hE24.trans he5)
    have s24 := hE24.size
    replace hB1 := hB1.ext hE26
    replace hB2 := hB2.ext hE26
    replace hB3 := hB3.ext hE26
    replace hr := hr.ext hE26
    replace hu' := hu'.keepBlk hB5 (by decide) hc6
    have hE6 := he2.trans hE26
    refine St2 ((tvAt hB3.all).1) (hB6.all) ?_
    refine GL.buildSlice (ncells x u') hT rfl rfl rfl rfl rfl rfl rfl (fillL_one rfl (ncells_len _ _) (madeLen _ _)) fun b7 w7 hb7 hB7 he7 => ?_
    replace hB1 := hB1.ext he7
    replace hB2 := hB2.ext he7
    replace hB3 := hB3.ext he7
    replace hr := hr.ext he7
    replace hu' := hu'.ext he7
    obtain ⟨es, hes, hown⟩ := hr
    have htl : (ns.take j).length = j := by simp; omega
    have hsrc : RdF any w7 (.slice (some ⟨b7, 0, none⟩) 1 1) 1 (ncells x u') := ⟨_, 1, rfl, Nat.le_refl _, .inr ⟨b7, 0, rfl, hB7.all⟩⟩
    have hE7 := hE6.trans he7
    have s7 := hE7.size
    refine GL.append hT rfl rfl rfl rfl rfl rfl rfl rfl rfl rfl hown hsrc (ncells_len _ _) (ncells_one _ hu'.one) (by show ((ns.take j).length + 1) * 80 ≤ _; omega) (by omega) (by omega) fun r' w8 ho hb hrow => ?_
    have hE8 : Ext w w8 := hb.below (fun k hk => (hown.row hk).1) (by omega) hE7
    have hr8 := ownN_app hes hown ⟨u', rfl, hu'.mono (by omega)⟩ hb ho
    replace hB1 := hB1.but hb (hown.ne_blk hB1 (by decide))
    replace hB2 := hB2.but hb (hown.ne_blk hB2 (by decide))
    replace hB3 := hB3.but hb (hown.ne_blk hB3 (by decide))
    refine St0 ?_
    refine GL.store1 hT rfl rfl rfl rfl rfl hr8.some hr8.one hB3 (by simp) fun w9 hc9 hB9 => ?_
    refine St0 ?_
    have htk : ns.take (j + 1) = ns.take j ++ [x] := by rw [List.take_add_one, hx]; rfl
    refine G.sub (by (repeat (first | exact Fr.sub_nil _ | refine Fr.sub_cons rfl ?_))) (again (j + 1) _ _ (by omega) ⟨by omega, hc9.below (by omega) hE8, hB1.chg hc9 (by omega), hB2.chg hc9 (by omega), ⟨r', hB9, by rw [htk]; exact hr8.chg hB3 (by decide) hc9⟩, rfl⟩)
  · refine St2 ((tvAt hB1.all).1) (hB3.all) ?_
    refine GL.storeVar (vs := [ur, iv r]) hT rfl rfl rfl rfl rfl rfl (by intro q hq; simp at hq; rcases hq with rfl | rfl; exact hr.one; rfl) hB2 rfl fun w3 hc3 hB3 => ?_
    refine St0 ?_
    have hjl : j = ns.length := by omega
    rw [List.take_of_length_le (by omega)] at hr
    exact G.retN (vs := [ur, iv r]) rfl rfl hT rfl rfl rfl rfl hB3.all rfl ⟨ur, rfl, hr.chg hB2 (by decide) hc3, hc3.below (by omega) he2⟩
end Go.Proofs.YtefneilaongpbaaDoor
/-
  Are two trees the same.
-/
set_option linter.unusedVariables false
set_option linter.unusedSimpArgs false
set_option maxRecDepth 100000
set_option maxHeartbeats 4000000
namespace Go.Proofs.YtefneilaongpbaaDoor
open Go Go.Bd Go.RowKit
attribute [local irreducible] G GL GQ GS

noncomputable instance : DecidableEq Node := fun _ _ => Classical.propDecidable _
theorem take_eq_succ {α : Type} {xs ys : List α} {j : Nat} {x : α} (h : xs.take j = ys.take j) (hx : xs[j]? = some x) (hy : ys[j]? = some x) : xs.take (j + 1) = ys.take (j + 1) := by
  rw [List.take_add_one, List.take_add_one, h, hx, hy]
theorem ne_of_at {α : Type} {xs ys : List α} {j : Nat} {x y : α} (hx : xs[j]? = some x) (hy : ys[j]? = some y) (h : x ≠ y) : xs ≠ ys := fun e => h (by subst e; rw [hx] at hy; exact Option.some.inj hy)
theorem refSame6_call (v u : Value) (r s : Int) (ns ms : List Node) (S S' : Where) (w : World) (h : RdN S w v ns) (h' : RdN S' w u ms) (hm : ns.length ≤ 1000000000) :
    Does Tryd.prog 44 #[tv v r, tv u s] w fun q w' => q = .bool (decide (r = s ∧ ns = ms)) ∧ Ext w w' := by
  refine call_walk Tryd.func44 (by kernel_rfl) rfl Tryd.ntmps44 rfl ?_
  obtain ⟨p, c, rfl, hc⟩ := h.isSlice
  obtain ⟨p', c', rfl, hc'⟩ := h'.isSlice
  refine St0 ?_
  refine GL.box (vs := [.slice p ns.length c, iv r]) rfl rfl rfl rfl fun b2 wa hb2 hB2 hea => ?_
  refine GL.box (vs := [.slice p' ms.length c', iv s]) rfl rfl rfl rfl fun b3 wb hb3 hB3 heb => ?_
  replace hB2 := hB2.ext heb
  have hE := hea.trans heb
  by_cases hrs : r = s
  case neg =>
    refine St2 ((tvAt hB2.all).2) ((tvAt hB3.all).2) ?_
    exact G.ret1 rfl rfl rfl rfl ⟨by rw [decide_eq_false (fun h => hrs h.1)], hE⟩
  by_cases hl : (ns.length : Int) = ms.length
  case neg =>
    refine St4 ((tvAt hB2.all).2) ((tvAt hB3.all).2) ((tvAt hB2.all).1) ((tvAt hB3.all).1) ?_
    exact G.ret1 rfl rfl rfl rfl ⟨by rw [decide_eq_false (fun h => hl (by rw [h.2]))], hE⟩
  refine St4 ((tvAt hB2.all).2) ((tvAt hB3.all).2) ((tvAt hB2.all).1) ((tvAt hB3.all).1) ?_
  refine G.sub (f' := [(5, iv ((0 : Nat) : Int)), (2, ptr b2 0), (3, ptr b3 0)]) (by (repeat (first | exact Fr.sub_nil _ | refine Fr.sub_cons rfl ?_))) ?_
  refine G.rounds (α := Nat) (fun j f w' => j ≤ ns.length ∧ Ext wb w' ∧ ns.take j = ms.take j ∧ f = [(5, iv j), (2, ptr b2 0), (3, ptr b3 0)]) (fun j => ns.length - j) ?round 0 ⟨by omega, Ext.refl wb, by simp, rfl⟩
  rintro j f w1 ⟨hj, he1, heq, rfl⟩ again
  replace hB2 := hB2.ext he1
  replace hB3 := hB3.ext he1
  have hE1 := hE.trans he1
  by_cases hlt : (j : Int) < ns.length
  · obtain ⟨x, hx⟩ : ∃ x, ns[j]? = some x := ⟨_, List.getElem?_eq_getElem (by omega)⟩
    obtain ⟨y, hy⟩ : ∃ y, ms[j]? = some y := ⟨_, List.getElem?_eq_getElem (by omega)⟩
    obtain ⟨ba, oa, ca, ux, hva, hux, hA⟩ := (h.ext hE1).elem hx
    obtain ⟨bb, ob, cb, uy, hvb, huy, hA'⟩ := (h'.ext hE1).elem hy
    cases hva
    cases hvb
    refine St1 ((tvAt hB2.all).1) ?_
    refine G.drawP (ti := ti56) 13 10 11 12 4 9 (List.range 10) [(5, iv j), (2, ptr b2 0), (3, ptr b3 0)] (fun i v => match i with
      | 0 => v = ptr b2 0 | 1 => v = .slice (some ⟨ba, oa, none⟩) ns.length c | 2 => v = iv j | 3 => v = ptr ba (oa + j * 36) | 4 => v = ndv x ux
      | 5 => v = ptr b3 0 | 6 => v = .slice (some ⟨bb, ob, none⟩) ms.length c' | 7 => v = iv j | 8 => v = ptr bb (ob + j * 36) | _ => v = ndv y uy) (ncells x ux) hT follows (by kernel_rfl) (by kernel_rfl) (by kernel_rfl) (by (repeat (first | exact Fr.sub_nil _ | refine Fr.sub_cons rfl ?_))) rfl ⟨_, _, _, _, rfl⟩ ⟨_, _, _, _, rfl⟩ ⟨_, _, _, rfl⟩ ⟨by kernel_rfl, by kernel_rfl⟩ (by kernel_rfl) (by kernel_rfl) (by kernel_rfl) (by kernel_rfl)
      (by rintro v rfl; rfl) (ncells_len _ _) (ncells_one _ hux.one) (by rw [ncells_len]; decide) ?obs ?fin
    case obs =>
      intro w0 he0
      refine ⟨fun w' he' => ?_, fun w' he' => ?_, fun w' he' => ?_, fun w' he' => ?_, fun w' he' => ?_, fun w' he' => ?_, fun w' he' => ?_, fun w' he' => ?_, fun w' he' => ?_, fun w' he' => ?_, trivial⟩
      · refine St0 ?_
        exact GL.valF rfl rfl
      · rintro v rfl
        refine St1 ((tvAt ((hB2.ext he0).ext he').all).1) ?_
        exact GL.valF rfl rfl
      · refine St0 ?_
        exact GL.valF rfl rfl
      · rintro v rfl v rfl
        (refine GL.indexSlice (j) 36 ((oa + j * 36)) hT rfl rfl rfl rfl rfl rfl rfl rfl ?_ ?_ ?_ ?_; (focus omega); (focus omega); (focus omega))
        exact GL.valF rfl rfl
      · rintro v rfl
        refine St1 (((hA.ext he0).ext he')) ?_
        exact GL.valF rfl rfl
      · refine St0 ?_
        exact GL.valF rfl rfl
      · rintro v rfl
        refine St1 ((tvAt ((hB3.ext he0).ext he').all).1) ?_
        exact GL.valF rfl rfl
      · refine St0 ?_
        exact GL.valF rfl rfl
      · rintro v rfl v rfl
        (refine GL.indexSlice (j) 36 ((ob + j * 36)) hT rfl rfl rfl rfl rfl rfl rfl rfl ?_ ?_ ?_ ?_; (focus omega); (focus omega); (focus omega))
        exact GL.valF rfl rfl
      · rintro v rfl
        refine St1 (((hA'.ext he0).ext he')) ?_
        exact GL.valF rfl rfl
    case fin =>
      rintro w2 b6 b7 v he2 hb6 hb7 hne hB6 hB7 rfl
      refine GL.storeVar hT rfl rfl rfl rfl rfl (ncells_len _ _) (ncells_one _ huy.one) hB7 (by rw [ncells_len]; decide) fun w3 hc3 hB7 => ?_
      replace hB6 := hB6.chg hc3 hne
      have hE3 : Ext w1 w3 := hc3.below hb7 he2
      have hE13 := hE1.trans hE3
      have h6 := nAt hB6.all
      have h7 := nAt hB7.all
      have no : x ≠ y → ∀ {P : Prop} [Decidable P], (P → ns = ms) → Value.bool false = Value.bool (decide P) := fun hne P _ hP => by rw [decide_eq_false (fun h => ne_of_at hx hy hne (hP h))]
      by_cases hlf : x.leaf = y.leaf
      case neg =>
        refine St2 (h6.leaf) (h7.leaf) ?_
        rw [show (!(x.leaf == y.leaf)) = true by simp [hlf]]
        refine St0 ?_
        exact G.ret1 rfl rfl rfl rfl ⟨no (fun e => hlf (by rw [e])) And.right, hE13⟩
      refine St2 (h6.leaf) (h7.leaf) ?_
      rw [show (!(x.leaf == y.leaf)) = false by simp [hlf]]
      by_cases hk : x.key = y.key
      case neg =>
        refine St2 (h6.key) (h7.key) ?_
        exact G.ret1 rfl rfl rfl rfl ⟨no (fun e => hk (by rw [e])) And.right, hE13⟩
      refine St4 (h6.key) (h7.key) (h6.val) (h7.val) ?_
      refine GL.call rfl rfl rfl (same_call ux uy x.val y.val S S' w3 (hux.ext hE3) (huy.ext hE3)) ?_
      rintro _ w4 ⟨rfl, rfl⟩
      by_cases hv : x.val = y.val
      case neg =>
        rw [decide_eq_false hv]
        refine St0 ?_
        exact G.ret1 rfl rfl rfl rfl ⟨no (fun e => hv (by rw [e])) And.right, hE13⟩
      rw [decide_eq_true hv]
      by_cases h3 : x.left = y.left
      case neg =>
        refine St2 (h6.left) (h7.left) ?_
        exact G.ret1 rfl rfl rfl rfl ⟨no (fun e => h3 (by rw [e])) And.right, hE13⟩
      by_cases h4 : x.right = y.right
      case neg =>
        refine St4 (h6.left) (h7.left) (h6.right) (h7.right) ?_
        exact G.ret1 rfl rfl rfl rfl ⟨no (fun e => h4 (by rw [e])) And.right, hE13⟩
      refine St4 (h6.left) (h7.left) (h6.right) (h7.right) ?_
      have hxy : x = y := by
        cases x; cases y
        simp only at hlf hk hv h3 h4
        subst hlf hk hv h3 h4
        rfl
      subst hxy
      refine G.sub (by (repeat (first | exact Fr.sub_nil _ | refine Fr.sub_cons rfl ?_))) (again (j + 1) _ _ (by omega) ⟨by omega, he1.trans hE3, take_eq_succ heq hx hy, rfl⟩)
  · refine St1 ((tvAt hB2.all).1) ?_
    refine G.ret1 rfl rfl rfl rfl ⟨?_, hE1⟩
    have hjl : j = ns.length := by omega
    rw [List.take_of_length_le (by omega), List.take_of_length_le (by omega)] at heq
    rw [decide_eq_true ⟨hrs, heq⟩]
end Go.Proofs.YtefneilaongpbaaDoor
