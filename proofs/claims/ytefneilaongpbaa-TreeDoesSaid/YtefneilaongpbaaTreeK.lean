/-
  The law of putting and dropping in trees: its walk.
-/
import Derived.Test.YtefneilaongpbaaTreeJ
import Derived.Test.YtefneilaongpbaaTreeE
import Derived.Test.YtefneilaongpbaaSpoilN
set_option linter.unusedVariables false
set_option linter.unusedSimpArgs false
set_option maxRecDepth 100000
set_option maxHeartbeats 8000000
namespace Go.Proofs.Ytefneilaongpbaa
open Go Go.Bd Go.RowKit
attribute [local irreducible] G GL GQ GS

theorem nodes_len36 {S : Where} {w : World} {es : List (List Value)} {ns : List Node} (h : All2 (NodeC S w) es ns) : ∀ e ∈ es, e.length = 36 := fun e he => by
  obtain ⟨j, hj⟩ := List.mem_iff_getElem?.1 he
  have hjl : j < ns.length := by rw [← h.length]; exact (List.getElem?_eq_some_iff.1 hj).1
  obtain ⟨e', he', x, rfl, _⟩ := h.at j _ (List.getElem?_eq_getElem hjl)
  rw [hj] at he'; cases he'
  exact ncells_len _ _
/-- The front of a slice of nodes. -/
theorem RdN.front {S : Where} {w : World} {p : Option Addr} {c n : Nat} {xs : List Node} (h : RdN S w (.slice p xs.length c) xs) (hn : n ≤ xs.length) (hc : xs.length ≤ c) : RdN S w (.slice (cutP p 0 c 36) (n - 0) (c - 0)) (xs.take n) := by
  obtain ⟨es, h1, h2⟩ := h
  have hl := nodes_len h1
  have hcut := h2.cut hl (L := 0) (H := n) (M := c) (by omega) hn (by omega)
  refine ⟨es.take n, h1.take n, ?_⟩
  rw [flat_take (nodes_len36 h1), List.length_take, Nat.min_eq_left hn]
  simpa using hcut
theorem TreeOk.short {ns : List Node} {r : Int} (h : TreeOk ns r) : ∀ x ∈ ns, x.val.length ≤ 64 := fun x hx => by
  obtain ⟨i, hi⟩ := List.mem_iff_getElem?.1 hx
  cases hl : x.leaf
  · obtain ⟨_, _, _, _, _, _, _, _, hv⟩ := h.one.fork (n := 0) hi hl
    rw [hv]; simp
  · exact (valB_le (h.one.leaf hi hl).1).2
theorem grown_call (vx vt vl : Value) (rx rt : Int) (xs ns : List Node) (ps : List Pair) (S S' S'' : Where) (w : World) (hx : RdN S w vx xs) (ht : RdN S' w vt ns) (hl : RdP S'' w vl ps) (hg : Grows ns xs rx ps) (hok : TreeOk xs rx) :
    Does Try.prog 23 #[tv vx rx, tv vt rt, vl] w fun q w' => q = .bool true ∧ Ext w w' := by
  refine call_walk Try.func23 (by kernel_rfl) rfl Try.ntmps23 rfl ?_
  obtain ⟨px, cx, rfl, hcx⟩ := hx.isSlice
  obtain ⟨pt, ct, rfl, hct⟩ := ht.isSlice
  have hfew := hok.few
  obtain ⟨ms, hms, hone, hml⟩ := hg.more
  have hxl : xs.length = ns.length + ms.length := by rw [hms, List.length_append]
  refine St0 ?_
  refine GL.box (vs := [.slice px xs.length cx, iv rx]) rfl rfl rfl rfl fun b3 w1 hb3 hB3 he1 => ?_
  refine GL.box (vs := [.slice pt ns.length ct, iv rt]) rfl rfl rfl rfl fun b4 w2 hb4 hB4 he2 => ?_
  replace hB3 := hB3.ext he2
  have hE2 := he1.trans he2
  refine St3 ((tvAt hB3.all).1) ((tvAt hB4.all).1) (hB3.all) ?_
  refine GL.call rfl rfl rfl (refMay6_call xs _ rx S w2 (hx.ext hE2)) ?_
  rintro _ w3 ⟨rfl, he3⟩
  rw [treeB_t hok]
  replace hB3 := hB3.ext he3
  replace hB4 := hB4.ext he3
  have hE3 := hE2.trans he3
  refine St0 ?_
  refine G.drawS 10 (List.range 10) [9] follows (by kernel_rfl) (by kernel_rfl) (by kernel_rfl) (by kernel_rfl) (by kernel_rfl) (by kernel_rfl) ?_
  refine SSt2 ((tvAt hB3.all).1) ((tvAt hB4.all).1) ?_
  refine GS.slice 0 ns.length cx 36 hT rfl rfl rfl rfl rfl rfl rfl rfl ⟨_, _, rfl, rfl⟩ rfl (by simp) (by omega) (by omega) (by omega) ?_
  refine SSt1 ((tvAt hB4.all).2) ?_
  refine GS.build [.slice (cutP px 0 cx 36) (ns.length - 0) (cx - 0), iv rt] hT rfl rfl rfl rfl rfl rfl rfl ?_
  refine GS.op rfl fun w4 he4 => ?_
  refine GL.alloc hT rfl rfl rfl fun b7 w5 hb7 hB7 he5 => ?_
  refine GS.done he5 ?_
  refine GS.tail fun w6 he6 => ?_
  have he36 := he4.trans (he5.trans he6)
  have s3 := hE3.size
  have s36 := he36.size
  have s4 := he4.size
  refine GL.storeVar (vs := [.slice (cutP px 0 cx 36) (ns.length - 0) (cx - 0), iv rt]) hT rfl rfl rfl rfl rfl rfl (by intro q hq; simp at hq; rcases hq with rfl | rfl <;> rfl) (hB7.ext he6) rfl fun w7 hc7 hB7 => ?_
  have hE37 : Ext w3 w7 := hc7.below (by omega) he36
  replace hB3 := hB3.ext hE37
  replace hB4 := hB4.ext hE37
  have hE7 := hE3.trans hE37
  refine St2 (hB7.all) (hB4.all) ?_
  have hfr := (hx.ext hE7).front (n := ns.length) (by omega) hcx
  have htk : xs.take ns.length = ns := by rw [hms, List.take_left]
  rw [htk] at hfr
  refine GL.call rfl rfl rfl (refSame6_call _ _ rt rt ns ns S S' w7 hfr (ht.ext hE7) (by omega)) ?_
  rintro _ w8 ⟨rfl, he8⟩
  rw [decide_eq_true ⟨rfl, rfl⟩]
  replace hB3 := hB3.ext he8
  have hE8 := hE7.trans he8
  refine St1 (hB3.all) ?_
  refine GL.call rfl rfl rfl (refAll6_call xs _ rx S w8 hok (hx.ext hE8)) ?_
  rintro q w9 ⟨ho, he9⟩
  rw [hg.all] at ho
  have hE9 := hE8.trans he9
  have hpl := hok.len
  rw [hg.all] at hpl
  refine St0 ?_
  refine GL.call rfl rfl rfl (refSame5_call _ _ ps ps _ S'' w9 ho.rd (hl.ext hE9) (by omega)) ?_
  rintro _ w10 ⟨rfl, he10⟩
  rw [decide_eq_true rfl]
  refine St0 ?_
  exact G.ret1 rfl rfl rfl rfl ⟨rfl, hE9.trans he10⟩
theorem Only.below {B U : Nat} {w w' w0 : World} (h : Only B U w w') (h0 : Ext w0 w) (hB : w0.heap.size ≤ B) : Ext w0 w' :=
  ⟨h.os.trans h0.os, h.tape.trans h0.tape, h.output.trans h0.output, Nat.le_trans h0.size h.size, fun k hk => (h.block k (Nat.lt_of_lt_of_le hk h0.size) (by omega)).trans (h0.block k hk)⟩
theorem putE6_ok {ns : List Node} {r : Int} {bs : Bytes} (h : putE6 ns r bs = 0) : TreeOk ns r ∧ ns.length ≤ 261844 ∧ valB bs.length = true := by
  unfold putE6 at h
  split at h
  · rename_i h1
    simp only [Bool.and_eq_true] at h1
    split at h
    · omega
    · exact ⟨treeB_iff.1 h1.1, by omega, h1.2⟩
  · omega
theorem dropE6_ok {ns : List Node} {r : Int} {k : Dig} (h : dropE6 ns r k = 0) : TreeOk ns r ∧ ns.length ≤ 261844 ∧ hasT (allT ns r) k = true := by
  unfold dropE6 at h
  split at h
  · rename_i h1
    split at h
    · rename_i h2
      split at h
      · omega
      · exact ⟨treeB_iff.1 h1, by omega, h2⟩
    · omega
  · omega
theorem does6_call (v u : Value) (r : Int) (ns : List Node) (k : Dig) (bs : Bytes) (w : World) (h : RdN any w v ns) (hu : RdB any w u bs) :
    Does Try.prog 4 #[tv v r, dv k, u] w fun q w' => q = .bool true ∧ Ext w w' := by
  refine call_walk Try.func4 (by kernel_rfl) rfl Try.ntmps4 rfl ?_
  obtain ⟨p, c, rfl, hc⟩ := h.isSlice
  obtain ⟨pu, cu, rfl, hcu⟩ := RdF.isSlice hu
  refine St0 ?_
  refine GL.box (vs := [.slice p ns.length c, iv r]) rfl rfl rfl rfl fun b3 w1 hb3 hB3 he1 => ?_
  refine GL.box rfl rfl rfl rfl fun b4 w2 hb4 hB4 he2 => ?_
  replace hB3 := hB3.ext he2
  have hE2 := he1.trans he2
  by_cases h100 : (bs.length : Int) > 100
  · refine St0 ?_
    exact G.ret1 rfl rfl rfl rfl ⟨rfl, hE2⟩
  refine St1 (hB3.all) ?_
  refine GL.call rfl rfl rfl (great6_call ns _ r 600 any w2 (h.ext hE2) (by omega)) ?_
  rintro _ w3 ⟨⟨g, rfl, hg⟩, he3⟩
  replace hB3 := hB3.ext he3
  replace hB4 := hB4.ext he3
  have hE3 := hE2.trans he3
  cases g
  case true =>
    refine St0 ?_
    exact G.ret1 rfl rfl rfl rfl ⟨rfl, hE3⟩
  obtain ⟨hl600, hv100⟩ := hg rfl
  refine St1 (hB3.all) ?_
  refine GL.call rfl rfl rfl (refTwin6_call _ r ns any w3 (h.ext hE3) (by omega) (fun x hx => by have := hv100 x hx; omega)) ?_
  rintro _ w4 ⟨uo, rfl, ho, he4⟩
  refine GL.alloc hT rfl rfl rfl fun b7 w5 hb7 hB7 he5 => ?_
  have l4 : w4.heap.size ≤ w5.heap.size := he5.size
  have l7w := hB7.lt
  have l3w := hB3.lt
  refine GL.storeVar (vs := [uo, iv r]) hT rfl rfl rfl rfl rfl rfl (by intro q hq; simp at hq; rcases hq with rfl | rfl; exact ho.one; rfl) hB7 rfl fun w6 hc6 hB7 => ?_
  have hE36 : Ext w4 w6 := hc6.below (by omega) he5
  have ho6 := ownN_same (U := w4.heap.size) (w' := w6) (ownN_trunc ho (Nat.le_refl _)) (fun q _ hq => hE36.block q hq)
  have hx36 := he4.trans hE36
  replace hB3 := hB3.ext hx36
  replace hB4 := hB4.ext hx36
  have hE6 := hE3.trans hx36
  have hv47 : ∀ x ∈ ns, x.val.length ≤ 140737488355328 := fun x hx => by have := hv100 x hx; omega
  refine St2 (hB7.all) (hB4.all) ?_
  refine GL.call rfl rfl rfl (put6_call uo _ r ns k bs _ any w6 (ownN_full ho6).rd (hu.ext hE6) hv47 (by omega)) ?_
  rintro _ w7 ⟨na, ra, ua, rfl, hna, hga, hba, he7⟩
  replace hB3 := hB3.ext he7
  replace hB4 := hB4.ext he7
  replace hB7 := hB7.ext he7
  refine St0 ?_
  refine GL.alloc hT rfl rfl rfl fun b8 w8 hb8 hB8 he8 => ?_
  have s8 := he8.size
  refine St0 ?_
  refine GL.storeVar (vs := [ua, iv ra]) hT rfl rfl rfl rfl rfl rfl (by intro q hq; simp at hq; rcases hq with rfl | rfl; exact hna.one; rfl) hB8 rfl fun w9 hc9 hB8 => ?_
  have hE79 : Ext w7 w9 := hc9.below (by omega) he8
  have ha9 := ownN_same (U := w7.heap.size) (w' := w9) (ownN_trunc hna (Nat.le_refl _)) (fun q _ hq => hE79.block q hq)
  have hx69 := he7.trans hE79
  replace hB3 := hB3.ext hE79
  replace hB4 := hB4.ext hE79
  replace hB7 := hB7.ext hE79
  have hE9 := hE6.trans hx69
  refine St2 (hB3.all) (hB4.all) ?_
  refine GL.call rfl rfl rfl (refPut6_call _ _ r ns k bs any any w9 (h.ext hE9) (hu.ext hE9)) ?_
  rintro _ w10 ⟨xb, rfl, hxb, he10⟩
  replace hB3 := hB3.ext he10
  replace hB4 := hB4.ext he10
  replace hB7 := hB7.ext he10
  replace hB8 := hB8.ext he10
  have hE10 := hE9.trans he10
  have hx6 := hx69.trans he10
  have ho10 := ownN_same (w' := w10) ho6 (fun q _ hq => hx6.block q (by have := hE36.size; omega))
  refine St2 (hB7.all) (hB4.all) ?_
  refine GL.call rfl rfl rfl (drop6_call uo r ns k _ w10 (ownN_full ho10).rd hv47) ?_
  rintro _ w11 ⟨nc, rc, uc, rfl, hnc, hgc, hbc, he11⟩
  replace hB3 := hB3.ext he11
  replace hB4 := hB4.ext he11
  replace hB7 := hB7.ext he11
  replace hB8 := hB8.ext he11
  refine St0 ?_
  refine GL.alloc hT rfl rfl rfl fun b12 w12 hb12 hB12 he12 => ?_
  have s12 := he12.size
  refine St0 ?_
  refine GL.storeVar (vs := [uc, iv rc]) hT rfl rfl rfl rfl rfl rfl (by intro q hq; simp at hq; rcases hq with rfl | rfl; exact hnc.one; rfl) hB12 rfl fun w13 hc13 hB12 => ?_
  have hE1113 : Ext w11 w13 := hc13.below (by omega) he12
  have hc13' := ownN_same (U := w11.heap.size) (w' := w13) (ownN_trunc hnc (Nat.le_refl _)) (fun q _ hq => hE1113.block q hq)
  replace hB3 := hB3.ext hE1113
  replace hB4 := hB4.ext hE1113
  replace hB7 := hB7.ext hE1113
  replace hB8 := hB8.ext hE1113
  have hx1013 := he11.trans hE1113
  have hE13 := hE10.trans hx1013
  refine St2 (hB3.all) (hB4.all) ?_
  refine GL.call rfl rfl rfl (refDrop6_call _ r ns k any w13 (h.ext hE13)) ?_
  rintro _ w14 ⟨xd, rfl, hxd, he14⟩
  replace hB3 := hB3.ext he14
  replace hB4 := hB4.ext he14
  replace hB7 := hB7.ext he14
  replace hB8 := hB8.ext he14
  replace hB12 := hB12.ext he14
  have hE14 := hE13.trans he14
  have hx914 := he10.trans (hx1013.trans he14)
  have ha14 := ownN_same (w' := w14) ha9 (fun q _ hq => hx914.block q (by have := hE79.size; omega))
  have hc14 := ownN_same (w' := w14) hc13' (fun q _ hq => he14.block q (by have := hE1113.size; omega))
  have hx614 := hx6.trans (hx1013.trans he14)
  have ho14 := ownN_same (w' := w14) ho6 (fun q _ hq => hx614.block q (by have := hE36.size; omega))
  have hb14 := hxb.ext (hx1013.trans he14)
  have hd14 := hxd
  clear hx614 ha9 hc13' ho6 ho10 hxb hxd hnc hna ho
  have hb7w : b7 < w6.heap.size := by have := hc6.size; omega
  have hb3' : b3 < w6.heap.size := by have := hE36.size; have := he4.size; omega
  refine St0 ?_
  by_cases hp : putE6 ns r bs = 0
  · have hG := hga hp
    have hok := hG.ok (putE6_ok hp).1 (putE6_ok hp).2.1
    rw [putL6_ok hp] at hb14
    refine St2 (hB8.all) (hB3.all) ?_
    refine GL.call rfl rfl rfl (grown_call ua _ xb ra r na ns _ _ any _ w14 (ownN_full ha14).rd (h.ext hE14) hb14.rd hG hok) ?_
    rintro _ w15 ⟨rfl, he15⟩
    refine St0 ?_
    by_cases hd : dropE6 ns r k = 0
    · have hGc := hgc hd
      have hokc := hGc.ok (dropE6_ok hd).1 (dropE6_ok hd).2.1
      rw [dropL6_ok hd] at hd14
      have hc15 := ownN_same (w' := w15) hc14 (fun q _ hq => he15.block q (by have := hE1113.size; have := he14.size; omega))
      refine St2 (hB12.all.ext he15) (hB3.all.ext he15) ?_
      refine GL.call rfl rfl rfl (grown_call uc _ xd rc r nc ns _ _ any _ w15 (ownN_full hc15).rd (h.ext (hE14.trans he15)) (hd14.ext he15).rd hGc hokc) ?_
      rintro _ w16 ⟨rfl, he16⟩
      have he1416 := he15.trans he16
      refine St0 ?_
      refine St1 ((hB8.ext he1416).all) ?_
      have e4 := hE36.size
      have e7 := hE79.size
      have e9 := hx69.size
      have e10 := he10.size
      have e11 := he11.size
      have e13 := hE1113.size
      have e14 := he14.size
      have eW := he1416.size
      have hE14W := hE14.trans he1416
      have haW := ownN_same (w' := w16) ha14 (fun q _ hq => he1416.block q (by omega))
      have hcW := ownN_same (w' := w16) hc14 (fun q _ hq => he1416.block q (by omega))
      have hoW := ownN_same (w' := w16) ho14 (fun q _ hq => he1416.block q (by omega))
      have okA : na.length ≤ 1000000 ∧ ∀ x ∈ na, x.val.length ≤ 1000 := by
        by_cases h0 : putE6 ns r bs = 0
        · have hok := (hga h0).ok (putE6_ok h0).1 (putE6_ok h0).2.1
          exact ⟨by have := hok.few; omega, fun x hx => by have := hok.short x hx; omega⟩
        · rw [(hba h0).1]; exact ⟨by simp, fun x hx => by cases hx⟩
      have okC : nc.length ≤ 1000000 ∧ ∀ x ∈ nc, x.val.length ≤ 1000 := by
        by_cases h0 : dropE6 ns r k = 0
        · have hok := (hgc h0).ok (dropE6_ok h0).1 (dropE6_ok h0).2.1
          exact ⟨by have := hok.few; omega, fun x hx => by have := hok.short x hx; omega⟩
        · rw [(hbc h0).1]; exact ⟨by simp, fun x hx => by cases hx⟩
      have l12 := hB12.lt
      have l7 := hB7.lt
      have l3 := hB3.lt
      have m12 : w11.heap.size ≤ b12 := by omega
      have z1 := he1.size
      have z2 := hE2.size
      have z3 := hE3.size
      have z6 := hE6.size
      refine GL.call rfl rfl rfl (spoil6_call ua ra na _ _ w16 haW (by omega) okA.1 okA.2) ?_
      rintro _ wx honly
      have hB12x := honly.blk (hB12.ext he1416) (.inr (by omega))
      have hcX := ownN_same (w' := wx) hcW (fun q hq _ => honly.block q (by omega) (.inr (by omega)))
      have hoX := ownN_same (w' := wx) hoW (fun q _ hq => honly.block q (by omega) (.inl (by omega)))
      have sx := honly.size
      refine St1 (hB12x.all) ?_
      refine GL.call rfl rfl rfl (spoil6_call uc rc nc _ _ wx hcX (by omega) okC.1 okC.2) ?_
      rintro _ wy honly2
      have hoY := ownN_same (w' := wy) hoX (fun q _ hq => honly2.block q (by omega) (.inl (by omega)))
      have hB7y := honly2.blk (honly.blk (hB7.ext he1416) (.inl (by omega))) (.inl (by omega))
      have hB3y := honly2.blk (honly.blk (hB3.ext he1416) (.inl (by omega))) (.inl (by omega))
      have hEx := honly.below hE14W (by omega)
      have hEy := honly2.below hEx (by omega)
      refine St2 (hB7y.all) (hB3y.all) ?_
      refine GL.call rfl rfl rfl (refSame6_call uo _ r r ns ns _ any wy (ownN_full hoY).rd (h.ext hEy) (by omega)) ?_
      rintro _ wz ⟨rfl, hez⟩
      rw [decide_eq_true ⟨rfl, rfl⟩]
      refine St0 ?_
      exact G.ret1 rfl rfl rfl rfl ⟨rfl, hEy.trans hez⟩
    · refine St0 ?_
      refine St1 ((hB8.ext he15).all) ?_
      have e4 := hE36.size
      have e7 := hE79.size
      have e9 := hx69.size
      have e10 := he10.size
      have e11 := he11.size
      have e13 := hE1113.size
      have e14 := he14.size
      have eW := he15.size
      have hE14W := hE14.trans he15
      have haW := ownN_same (w' := w15) ha14 (fun q _ hq => he15.block q (by omega))
      have hcW := ownN_same (w' := w15) hc14 (fun q _ hq => he15.block q (by omega))
      have hoW := ownN_same (w' := w15) ho14 (fun q _ hq => he15.block q (by omega))
      have okA : na.length ≤ 1000000 ∧ ∀ x ∈ na, x.val.length ≤ 1000 := by
        by_cases h0 : putE6 ns r bs = 0
        · have hok := (hga h0).ok (putE6_ok h0).1 (putE6_ok h0).2.1
          exact ⟨by have := hok.few; omega, fun x hx => by have := hok.short x hx; omega⟩
        · rw [(hba h0).1]; exact ⟨by simp, fun x hx => by cases hx⟩
      have okC : nc.length ≤ 1000000 ∧ ∀ x ∈ nc, x.val.length ≤ 1000 := by
        by_cases h0 : dropE6 ns r k = 0
        · have hok := (hgc h0).ok (dropE6_ok h0).1 (dropE6_ok h0).2.1
          exact ⟨by have := hok.few; omega, fun x hx => by have := hok.short x hx; omega⟩
        · rw [(hbc h0).1]; exact ⟨by simp, fun x hx => by cases hx⟩
      have l12 := hB12.lt
      have l7 := hB7.lt
      have l3 := hB3.lt
      have m12 : w11.heap.size ≤ b12 := by omega
      have z1 := he1.size
      have z2 := hE2.size
      have z3 := hE3.size
      have z6 := hE6.size
      refine GL.call rfl rfl rfl (spoil6_call ua ra na _ _ w15 haW (by omega) okA.1 okA.2) ?_
      rintro _ wx honly
      have hB12x := honly.blk (hB12.ext he15) (.inr (by omega))
      have hcX := ownN_same (w' := wx) hcW (fun q hq _ => honly.block q (by omega) (.inr (by omega)))
      have hoX := ownN_same (w' := wx) hoW (fun q _ hq => honly.block q (by omega) (.inl (by omega)))
      have sx := honly.size
      refine St1 (hB12x.all) ?_
      refine GL.call rfl rfl rfl (spoil6_call uc rc nc _ _ wx hcX (by omega) okC.1 okC.2) ?_
      rintro _ wy honly2
      have hoY := ownN_same (w' := wy) hoX (fun q _ hq => honly2.block q (by omega) (.inl (by omega)))
      have hB7y := honly2.blk (honly.blk (hB7.ext he15) (.inl (by omega))) (.inl (by omega))
      have hB3y := honly2.blk (honly.blk (hB3.ext he15) (.inl (by omega))) (.inl (by omega))
      have hEx := honly.below hE14W (by omega)
      have hEy := honly2.below hEx (by omega)
      refine St2 (hB7y.all) (hB3y.all) ?_
      refine GL.call rfl rfl rfl (refSame6_call uo _ r r ns ns _ any wy (ownN_full hoY).rd (h.ext hEy) (by omega)) ?_
      rintro _ wz ⟨rfl, hez⟩
      rw [decide_eq_true ⟨rfl, rfl⟩]
      refine St0 ?_
      exact G.ret1 rfl rfl rfl rfl ⟨rfl, hEy.trans hez⟩
  · refine St0 ?_
    by_cases hd : dropE6 ns r k = 0
    · have hGc := hgc hd
      have hokc := hGc.ok (dropE6_ok hd).1 (dropE6_ok hd).2.1
      rw [dropL6_ok hd] at hd14
      refine St2 (hB12.all) (hB3.all) ?_
      refine GL.call rfl rfl rfl (grown_call uc _ xd rc r nc ns _ _ any _ w14 (ownN_full hc14).rd (h.ext hE14) hd14.rd hGc hokc) ?_
      rintro _ w15 ⟨rfl, he15⟩
      refine St0 ?_
      refine St1 ((hB8.ext he15).all) ?_
      have e4 := hE36.size
      have e7 := hE79.size
      have e9 := hx69.size
      have e10 := he10.size
      have e11 := he11.size
      have e13 := hE1113.size
      have e14 := he14.size
      have eW := he15.size
      have hE14W := hE14.trans he15
      have haW := ownN_same (w' := w15) ha14 (fun q _ hq => he15.block q (by omega))
      have hcW := ownN_same (w' := w15) hc14 (fun q _ hq => he15.block q (by omega))
      have hoW := ownN_same (w' := w15) ho14 (fun q _ hq => he15.block q (by omega))
      have okA : na.length ≤ 1000000 ∧ ∀ x ∈ na, x.val.length ≤ 1000 := by
        by_cases h0 : putE6 ns r bs = 0
        · have hok := (hga h0).ok (putE6_ok h0).1 (putE6_ok h0).2.1
          exact ⟨by have := hok.few; omega, fun x hx => by have := hok.short x hx; omega⟩
        · rw [(hba h0).1]; exact ⟨by simp, fun x hx => by cases hx⟩
      have okC : nc.length ≤ 1000000 ∧ ∀ x ∈ nc, x.val.length ≤ 1000 := by
        by_cases h0 : dropE6 ns r k = 0
        · have hok := (hgc h0).ok (dropE6_ok h0).1 (dropE6_ok h0).2.1
          exact ⟨by have := hok.few; omega, fun x hx => by have := hok.short x hx; omega⟩
        · rw [(hbc h0).1]; exact ⟨by simp, fun x hx => by cases hx⟩
      have l12 := hB12.lt
      have l7 := hB7.lt
      have l3 := hB3.lt
      have m12 : w11.heap.size ≤ b12 := by omega
      have z1 := he1.size
      have z2 := hE2.size
      have z3 := hE3.size
      have z6 := hE6.size
      refine GL.call rfl rfl rfl (spoil6_call ua ra na _ _ w15 haW (by omega) okA.1 okA.2) ?_
      rintro _ wx honly
      have hB12x := honly.blk (hB12.ext he15) (.inr (by omega))
      have hcX := ownN_same (w' := wx) hcW (fun q hq _ => honly.block q (by omega) (.inr (by omega)))
      have hoX := ownN_same (w' := wx) hoW (fun q _ hq => honly.block q (by omega) (.inl (by omega)))
      have sx := honly.size
      refine St1 (hB12x.all) ?_
      refine GL.call rfl rfl rfl (spoil6_call uc rc nc _ _ wx hcX (by omega) okC.1 okC.2) ?_
      rintro _ wy honly2
      have hoY := ownN_same (w' := wy) hoX (fun q _ hq => honly2.block q (by omega) (.inl (by omega)))
      have hB7y := honly2.blk (honly.blk (hB7.ext he15) (.inl (by omega))) (.inl (by omega))
      have hB3y := honly2.blk (honly.blk (hB3.ext he15) (.inl (by omega))) (.inl (by omega))
      have hEx := honly.below hE14W (by omega)
      have hEy := honly2.below hEx (by omega)
      refine St2 (hB7y.all) (hB3y.all) ?_
      refine GL.call rfl rfl rfl (refSame6_call uo _ r r ns ns _ any wy (ownN_full hoY).rd (h.ext hEy) (by omega)) ?_
      rintro _ wz ⟨rfl, hez⟩
      rw [decide_eq_true ⟨rfl, rfl⟩]
      refine St0 ?_
      exact G.ret1 rfl rfl rfl rfl ⟨rfl, hEy.trans hez⟩
    · have he14' := Ext.refl w14
      refine St0 ?_
      refine St1 ((hB8.ext he14').all) ?_
      have e4 := hE36.size
      have e7 := hE79.size
      have e9 := hx69.size
      have e10 := he10.size
      have e11 := he11.size
      have e13 := hE1113.size
      have e14 := he14.size
      have eW := he14'.size
      have hE14W := hE14.trans he14'
      have haW := ownN_same (w' := w14) ha14 (fun q _ hq => he14'.block q (by omega))
      have hcW := ownN_same (w' := w14) hc14 (fun q _ hq => he14'.block q (by omega))
      have hoW := ownN_same (w' := w14) ho14 (fun q _ hq => he14'.block q (by omega))
      have okA : na.length ≤ 1000000 ∧ ∀ x ∈ na, x.val.length ≤ 1000 := by
        by_cases h0 : putE6 ns r bs = 0
        · have hok := (hga h0).ok (putE6_ok h0).1 (putE6_ok h0).2.1
          exact ⟨by have := hok.few; omega, fun x hx => by have := hok.short x hx; omega⟩
        · rw [(hba h0).1]; exact ⟨by simp, fun x hx => by cases hx⟩
      have okC : nc.length ≤ 1000000 ∧ ∀ x ∈ nc, x.val.length ≤ 1000 := by
        by_cases h0 : dropE6 ns r k = 0
        · have hok := (hgc h0).ok (dropE6_ok h0).1 (dropE6_ok h0).2.1
          exact ⟨by have := hok.few; omega, fun x hx => by have := hok.short x hx; omega⟩
        · rw [(hbc h0).1]; exact ⟨by simp, fun x hx => by cases hx⟩
      have l12 := hB12.lt
      have l7 := hB7.lt
      have l3 := hB3.lt
      have m12 : w11.heap.size ≤ b12 := by omega
      have z1 := he1.size
      have z2 := hE2.size
      have z3 := hE3.size
      have z6 := hE6.size
      refine GL.call rfl rfl rfl (spoil6_call ua ra na _ _ w14 haW (by omega) okA.1 okA.2) ?_
      rintro _ wx honly
      have hB12x := honly.blk (hB12.ext he14') (.inr (by omega))
      have hcX := ownN_same (w' := wx) hcW (fun q hq _ => honly.block q (by omega) (.inr (by omega)))
      have hoX := ownN_same (w' := wx) hoW (fun q _ hq => honly.block q (by omega) (.inl (by omega)))
      have sx := honly.size
      refine St1 (hB12x.all) ?_
      refine GL.call rfl rfl rfl (spoil6_call uc rc nc _ _ wx hcX (by omega) okC.1 okC.2) ?_
      rintro _ wy honly2
      have hoY := ownN_same (w' := wy) hoX (fun q _ hq => honly2.block q (by omega) (.inl (by omega)))
      have hB7y := honly2.blk (honly.blk (hB7.ext he14') (.inl (by omega))) (.inl (by omega))
      have hB3y := honly2.blk (honly.blk (hB3.ext he14') (.inl (by omega))) (.inl (by omega))
      have hEx := honly.below hE14W (by omega)
      have hEy := honly2.below hEx (by omega)
      refine St2 (hB7y.all) (hB3y.all) ?_
      refine GL.call rfl rfl rfl (refSame6_call uo _ r r ns ns _ any wy (ownN_full hoY).rd (h.ext hEy) (by omega)) ?_
      rintro _ wz ⟨rfl, hez⟩
      rw [decide_eq_true ⟨rfl, rfl⟩]
      refine St0 ?_
      exact G.ret1 rfl rfl rfl rfl ⟨rfl, hEy.trans hez⟩
end Go.Proofs.Ytefneilaongpbaa
