/-
  The law of maps, values, and what becomes of them: its walk.
-/
import Derived.Test.YtefneilaongpbaaSpoilP
import Derived.Test.YtefneilaongpbaaPairsK
import Derived.Test.YtefneilaongpbaaPairsD
set_option linter.unusedVariables false
set_option linter.unusedSimpArgs false
set_option maxRecDepth 100000
set_option maxHeartbeats 8000000
namespace Go.Proofs.Ytefneilaongpbaa
open Go Go.Bd Go.RowKit
attribute [local irreducible] G GL GQ GS

/-- A byte of a slice of one's own is turned. -/
theorem ownB_turn {B U : Nat} {w : World} {v : Value} {bs : Bytes} (h : OwnB B (trunc U w) v bs) {j : Nat} (hj : j < bs.length) :
    ∃ g cap c y, v = .slice (some ⟨g, 0, none⟩) bs.length cap ∧ B ≤ g ∧ g < U ∧ Blk w g 5 c ∧ j < c.length ∧ At any w g j [bv y] ∧ ∀ w' z, Blk w' g 5 (c.set j (bv z)) → ∃ bs', bs'.length = bs.length ∧ OwnB B (trunc U w') v bs' := by
  obtain ⟨g, cap, rest, rfl, hrow, hB, hnc, hblk, hr, hl⟩ := Own.parts h (by omega)
  obtain ⟨hgU, hBlk⟩ := blk_trunc hblk
  refine ⟨g, cap, _, bs.getD j 0, rfl, hB, hgU, hBlk, by rw [List.length_append, hl]; omega, (hBlk.one ?_).imp fun _ _ _ => trivial, fun w' z hB' => ⟨bs.set j z, by simp, ?_⟩⟩
  · rw [List.getElem?_append_left (by simp; omega)]
    have hq := getD_at hj
    simp only [bcells, List.getElem?_map]
    rw [hq]; rfl
  · rw [List.set_append_left _ _ (by simpa using hj), bcells_put] at hB'
    have := Own.of_blk (n := bs.length) (sz := 1) (cs := bcells (bs.set j z)) hB hnc (by simp) (trunc_blk hB' hgU) hr
    have e : (bs.set j z).length = bs.length := List.length_set ..
    show Own _ _ _ (bs.set j z).length _ _ _
    rw [e]
    exact this
theorem own_same5 {B U : Nat} {w w' : World} {v : Value} {n sz : Nat} {T : TypeId} {cs : List Value} (h : Own B (trunc U w) v n sz T cs) (hk : ∀ k, B ≤ k → k < U → w'.heap[k]? = w.heap[k]?) : Own B (trunc U w') v n sz T cs := by
  obtain ⟨hl, h⟩ := h
  refine ⟨hl, h.imp id ?_⟩
  rintro ⟨g, cap, rest, hv, hB, hn, hblk, hr⟩
  obtain ⟨hg, hb⟩ := blk_trunc hblk
  exact ⟨g, cap, rest, hv, hB, hn, trunc_blk (hb.keep (hk g hB hg)) hg, hr⟩
theorem putL_small {ps : List Pair} {k : Dig} {bs : Bytes} (h : ∀ x ∈ ps, x.val.length ≤ 100) (hb : bs.length ≤ 100) : (putL ps k bs).length ≤ ps.length + 1 ∧ ∀ x ∈ putL ps k bs, x.val.length ≤ 1000 := by
  unfold putL
  split
  · constructor
    · rw [length_withL]
      have : (without ps k).length ≤ ps.length := List.length_filter_le _ _
      omega
    · intro x hx
      rcases mem_withL.1 hx with rfl | hx
      · simp only; omega
      · have := h x (List.mem_filter.1 hx).1; omega
  · exact ⟨by simp, fun x hx => by cases hx⟩
theorem dropL_small {ps : List Pair} {k : Dig} (h : ∀ x ∈ ps, x.val.length ≤ 100) : (dropL ps k).length ≤ ps.length ∧ ∀ x ∈ dropL ps k, x.val.length ≤ 1000 := by
  unfold dropL
  split
  · exact ⟨List.length_filter_le _ _, fun x hx => by have := h x (List.mem_filter.1 hx).1; omega⟩
  · exact ⟨by simp, fun x hx => by cases hx⟩
theorem below_of_only {B U : Nat} {w w' w0 : World} (h : Only B U w w') (h0 : Ext w0 w) (hB : w0.heap.size ≤ B) : Ext w0 w' :=
  ⟨h.os.trans h0.os, h.tape.trans h0.tape, h.output.trans h0.output, Nat.le_trans h0.size h.size, fun k hk => (h.block k (Nat.lt_of_lt_of_le hk h0.size) (by omega)).trans (h0.block k hk)⟩
theorem do5_call (v vo u : Value) (ps os : List Pair) (k : Dig) (bs : Bytes) (w : World) (h : RdP any w v ps) (h' : RdP any w vo os) (hu : RdB any w u bs) :
    Does Try.prog 6 #[v, vo, dv k, u] w fun q w' => q = .bool true ∧ Ext w w' := by
  refine call_walk Try.func6 (by kernel_rfl) rfl Try.ntmps6 rfl ?_
  obtain ⟨p, c, rfl, hc⟩ := h.isSlice
  obtain ⟨po, co, rfl, hco⟩ := h'.isSlice
  obtain ⟨pu, cu, rfl, hcu⟩ := RdF.isSlice hu
  refine St0 ?_
  refine GL.box rfl rfl rfl rfl fun b6 w1 hb6 hB6 he1 => ?_
  refine St0 ?_
  refine GL.call rfl rfl rfl (great5_call _ ps 30 any w1 (h.ext he1) (by omega)) ?_
  rintro _ w1 ⟨⟨g, rfl, hg⟩, rfl⟩
  cases g
  case true =>
    refine St0 ?_
    by_cases h511 : (ps.length : Int) < 511
    · refine St0 ?_
      exact G.ret1 rfl rfl rfl rfl ⟨rfl, he1⟩
    refine St0 ?_
    refine GL.call rfl rfl rfl (great5_call _ ps 520 any w1 (h.ext he1) (by omega)) ?_
    rintro _ w1 ⟨⟨g2, rfl, hg2⟩, rfl⟩
    cases g2
    case true =>
      refine St0 ?_
      exact G.ret1 rfl rfl rfl rfl ⟨rfl, he1⟩
    obtain ⟨hl520, hvals⟩ := hg2 rfl
    refine St0 ?_
    refine GL.call rfl rfl rfl (great5_call _ os 30 any w1 (h'.ext he1) (by omega)) ?_
    rintro _ w1 ⟨⟨go, rfl, hgo⟩, rfl⟩
    cases go
    case true =>
      refine St0 ?_
      exact G.ret1 rfl rfl rfl rfl ⟨rfl, he1⟩
    obtain ⟨ho30, hov⟩ := hgo rfl
    refine St0 ?_
    by_cases h100 : (bs.length : Int) > 100
    · refine St0 ?_
      exact G.ret1 rfl rfl rfl rfl ⟨rfl, he1⟩
    have hpv : ∀ x ∈ ps, x.val.length ≤ 100 := fun x hx => by obtain ⟨i, hi⟩ := List.mem_iff_getElem?.1 hx; exact hvals i x hi
    have hov' : ∀ x ∈ os, x.val.length ≤ 100 := fun x hx => by obtain ⟨i, hi⟩ := List.mem_iff_getElem?.1 hx; exact hov i x hi
    refine St0 ?_
    refine GL.call rfl rfl rfl (refTwin5_call _ ps any w1 (h.ext he1) (by omega) (fun x hx => by have := hpv x hx; omega)) ?_
    rintro vw w2 ⟨hown, he2⟩
    have s2 := he2.size
    have hE2 := he1.trans he2
    have hownT := ownP_trunc hown (Nat.le_refl _)
    replace hB6 := hB6.ext he2
    refine St1 (hB6.all) ?_
    refine GL.call rfl rfl rfl (get_call vw ps k _ w2 hown.rd) ?_
    rintro _ w3 ⟨va, rfl, ha, he3⟩
    have haT := own_trunc ha (Nat.le_refl _)
    replace hB6 := hB6.ext he3
    have hE3 := hE2.trans he3
    have s3 := he3.size
    refine St1 (hB6.all) ?_
    refine GL.call rfl rfl rfl (refGet_call _ ps k any w3 (h.ext hE3)) ?_
    rintro _ w4 ⟨vb, rfl, hb, he4⟩
    replace hB6 := hB6.ext he4
    have hE4 := hE3.trans he4
    refine St1 (hB6.all) ?_
    have x24 := he3.trans he4
    refine GL.call rfl rfl rfl (put_call vw _ ps k bs _ any w4 (hown.ext x24).rd (hu.ext hE4)) ?_
    rintro _ w5 ⟨vc, rfl, hcP, he5⟩
    have hcT := ownP_trunc hcP (Nat.le_refl _)
    replace hB6 := hB6.ext he5
    have hE5 := hE4.trans he5
    refine St1 (hB6.all) ?_
    refine GL.call rfl rfl rfl (refPut_call _ _ ps k bs any any w5 (h.ext hE5) (hu.ext hE5)) ?_
    rintro _ w6 ⟨vd, rfl, hdP, he6⟩
    replace hB6 := hB6.ext he6
    have hE6 := hE5.trans he6
    refine St1 (hB6.all) ?_
    have x26 := x24.trans (he5.trans he6)
    refine GL.call rfl rfl rfl (drop_call vw ps k _ w6 (hown.ext x26).rd) ?_
    rintro _ w7 ⟨vx, rfl, hxP, he7⟩
    have hxT := ownP_trunc hxP (Nat.le_refl _)
    replace hB6 := hB6.ext he7
    have hE7 := hE6.trans he7
    refine St1 (hB6.all) ?_
    refine GL.call rfl rfl rfl (refDrop_call _ ps k any w7 (h.ext hE7)) ?_
    rintro _ w8 ⟨vy, rfl, hyP, he8⟩
    have hE8 := hE7.trans he8
    have x38 := he4.trans (he5.trans (he6.trans (he7.trans he8)))
    have x48 := he5.trans (he6.trans (he7.trans he8))
    have x58 := he6.trans (he7.trans he8)
    have x28 := x26.trans (he7.trans he8)
    have x68 := he7.trans he8
    obtain ⟨hcl, hcv⟩ := putL_small (k := k) hpv (show bs.length ≤ 100 by omega)
    obtain ⟨hxl, hxv⟩ := dropL_small (k := k) hpv
    refine St0 ?_
    refine GL.call rfl rfl rfl (same_call va vb (gotV ps k) (gotV ps k) _ _ w8 (Own.ext ha x38).fresh (Own.ext hb x48).fresh) ?_
    rintro _ w8 ⟨rfl, rfl⟩
    rw [decide_eq_true rfl]
    refine St0 ?_
    rw [beq_self_eq_true]
    refine St0 ?_
    refine GL.call rfl rfl rfl (refSame5_call vc vd _ _ _ _ w8 (hcP.ext x58).rd (hdP.ext x68).rd (by omega)) ?_
    rintro _ w9 ⟨rfl, he9⟩
    rw [decide_eq_true rfl]
    refine St0 ?_
    refine GL.call rfl rfl rfl (refSame5_call vx vy _ _ _ _ w9 (hxP.ext (he8.trans he9)).rd (hyP.ext he9).rd (by omega)) ?_
    rintro _ w10 ⟨rfl, he10⟩
    rw [decide_eq_true rfl]
    have hE10 := hE8.trans (he9.trans he10)
    have x210 := x28.trans (he9.trans he10)
    refine St0 ?_
    refine GL.call rfl rfl rfl (pcheck_call vw ps _ w10 (hown.ext x210).rd) ?_
    rintro _ w11 ⟨rfl, he11⟩
    refine St0 ?_
    refine GL.call rfl rfl rfl (refCheck5_call _ ps any w11 (h.ext (hE10.trans he11))) ?_
    rintro _ w12 ⟨rfl, he12⟩
    have x212 := x210.trans (he11.trans he12)
    have hE12 := hE10.trans (he11.trans he12)
    refine St0 ?_
    refine GL.call rfl rfl rfl (pairsSame_call vw _ ps os _ any w12 (hown.ext x212).rd (h'.ext hE12) (by omega) (fun x hx => by have := hpv x hx; omega)) ?_
    rintro _ w13 ⟨rfl, he13⟩
    refine St0 ?_
    refine GL.call rfl rfl rfl (refSame5_call _ _ ps os any any w13 (h.ext (hE12.trans he13)) (h'.ext (hE12.trans he13)) (by omega)) ?_
    rintro _ w14 ⟨rfl, he14⟩
    have x214 := x212.trans (he13.trans he14)
    have hE14 := hE12.trans (he13.trans he14)
    refine St0 ?_
    rw [beq_self_eq_true]
    refine St0 ?_
    refine GL.call rfl rfl rfl (pairsSame_call vw _ ps ps _ any w14 (hown.ext x214).rd (h.ext hE14) (by omega) (fun x hx => by have := hpv x hx; omega)) ?_
    rintro _ w15 ⟨rfl, he15⟩
    rw [decide_eq_true rfl]
    have x215 := x214.trans he15
    have hE15 := hE14.trans he15
    refine St0 ?_
    refine GL.call rfl rfl rfl (pairsTwin_call vw ps _ w15 (hown.ext x215).rd (by omega) (fun x hx => by have := hpv x hx; omega)) ?_
    rintro vt w16 ⟨htP, he16⟩
    have htT := ownP_trunc htP (Nat.le_refl _)
    have hE16 := hE15.trans he16
    refine St0 ?_
    refine GL.call rfl rfl rfl (refSame5_call vt _ ps ps _ any w16 htP.rd (h.ext hE16) (by omega)) ?_
    rintro _ w17 ⟨rfl, he17⟩
    rw [decide_eq_true rfl]
    have hE17 := hE16.trans he17
    have e1 := he1.size
    have e4 := he4.size
    have e5 := he5.size
    have e6 := he6.size
    have e7 := he7.size
    have e8 := he8.size
    have e15 : w8.heap.size ≤ w15.heap.size := (he9.trans (he10.trans (he11.trans (he12.trans (he13.trans (he14.trans he15)))))).size
    have e16 := he16.size
    have e17 := he17.size
    have x817 := he9.trans (he10.trans (he11.trans (he12.trans (he13.trans (he14.trans (he15.trans (he16.trans he17)))))))
    have x217 := x28.trans x817
    have x317 := x38.trans x817
    have x517 := x58.trans x817
    have x717 := he8.trans x817
    have o17 := ownP_same (w' := w17) hownT (fun q _ hq => x217.block q (by omega))
    have a17 := own_same5 (w' := w17) haT (fun q _ hq => x317.block q (by omega))
    have c17 := ownP_same (w' := w17) hcT (fun q _ hq => x517.block q (by omega))
    have d17 := ownP_same (w' := w17) hxT (fun q _ hq => x717.block q (by omega))
    have t17 := ownP_same (w' := w17) htT (fun q _ hq => he17.block q (by omega))
    clear hown hownT ha haT hb hcP hcT hdP hxP hxT hyP htP htT x24 x26 x28 x38 x48 x58 x68 x210 x212 x214 x215 x217 x317 x517 x717 x817 hE2 hE3 hE4 hE5 hE6 hE7 hE8 hE10 hE12 hE14 hE15 hE16 he2 he3 he4 he5 he6 he7 he8 he9 he10 he11 he12 he13 he14 he15 he16 he17 hB6
    refine St0 ?_
    refine GL.call rfl rfl rfl (spoil5_call vt ps _ _ w17 t17 (by omega) (by omega) (fun x hx => by have := hpv x hx; omega)) ?_
    rintro _ w18 n18
    have z18 := n18.size
    have o18 := ownP_same (w' := w18) o17 (fun q _ hq => n18.block q (by omega) (.inl (by omega)))
    have a18 := own_same5 (w' := w18) a17 (fun q _ hq => n18.block q (by omega) (.inl (by omega)))
    have c18 := ownP_same (w' := w18) c17 (fun q _ hq => n18.block q (by omega) (.inl (by omega)))
    have d18 := ownP_same (w' := w18) d17 (fun q _ hq => n18.block q (by omega) (.inl (by omega)))
    have hE18 := below_of_only n18 hE17 (by omega)
    refine St0 ?_
    refine GL.call rfl rfl rfl (spoil5_call vc (putL ps k bs) _ _ w18 c18 (by omega) (by omega) hcv) ?_
    rintro _ w19 n19
    have z19 := n19.size
    have o19 := ownP_same (w' := w19) o18 (fun q _ hq => n19.block q (by omega) (.inl (by omega)))
    have a19 := own_same5 (w' := w19) a18 (fun q _ hq => n19.block q (by omega) (.inl (by omega)))
    have d19 := ownP_same (w' := w19) d18 (fun q hq _ => n19.block q (by omega) (.inr (by omega)))
    have hE19 := below_of_only n19 hE18 (by omega)
    refine St0 ?_
    refine GL.call rfl rfl rfl (spoil5_call vx (dropL ps k) _ _ w19 d19 (by omega) (by omega) hxv) ?_
    rintro _ w20 n20
    have z20 := n20.size
    have o20 := ownP_same (w' := w20) o19 (fun q _ hq => n20.block q (by omega) (.inl (by omega)))
    have a20 := own_same5 (w' := w20) a19 (fun q _ hq => n20.block q (by omega) (.inl (by omega)))
    have hE20 := below_of_only n20 hE19 (by omega)
    obtain ⟨pa, ca, hva⟩ := (own_full a20).shape
    have hgl : (gotV ps k).length ≤ 100 := by
      unfold gotV
      split
      · cases hq : ps[ahead ps k]? with
        | none => simp
        | some x => simpa using hvals _ x hq
      · simp
    clear t17 c17 d17 a17 o17 c18 d18 a18 o18 d19 a19 o19 n18 n19 n20 hE17 hE18 hE19
    refine St0 ?_
    generalize gotV ps k = gv at a20 hva hgl
    refine G.sub (f' := [(25, iv ((0 : Nat) : Int)), (10, va), (9, vw), (0, .slice p ps.length c)]) (by (repeat (first | exact Fr.sub_nil _ | refine Fr.sub_cons rfl ?_))) ?_
    refine G.rounds (α := Nat) (fun j f w' => j ≤ gv.length ∧ Only w2.heap.size w3.heap.size w20 w' ∧ (∃ bs' : Bytes, bs'.length = gv.length ∧ OwnB w2.heap.size (trunc w3.heap.size w') va bs') ∧ f = [(25, iv j), (10, va), (9, vw), (0, .slice p ps.length c)]) (fun j => gv.length - j) ?round1 0 ⟨by omega, Only.refl _ _ _, ⟨gv, rfl, a20⟩, rfl⟩
    rintro j f w21 ⟨hj, ho, ⟨bs', hbl, hb'⟩, rfl⟩ again
    have z21 := ho.size
    by_cases hlt : (j : Int) < gv.length
    · obtain ⟨g', cap, cc, y, hv', hBg, hgU, hBlk, hjc, hAt, hset⟩ := ownB_turn hb' (j := j) (by omega)
      rw [hbl] at hv'
      subst hv'
      refine St0 ?_
      (refine GL.indexSlice (j) 1 (j) hT rfl rfl rfl rfl rfl rfl rfl rfl ?_ ?_ ?_ ?_; (focus omega); (focus omega); (focus omega))
      refine St1 (hAt) ?_
      refine GL.bin rfl rfl rfl rfl (fun w => run_add1_u8 y w) ?_
      (refine GL.indexSlice (j) 1 (j) hT rfl rfl rfl rfl rfl rfl rfl rfl ?_ ?_ ?_ ?_; (focus omega); (focus omega); (focus omega))
      refine GL.store1 hT rfl rfl rfl rfl rfl rfl rfl hBlk hjc fun w22 hc22 hB22 => ?_
      refine St0 ?_
      obtain ⟨bs2, hl2, hb2⟩ := hset w22 (y + 1) hB22
      exact G.sub (by (repeat (first | exact Fr.sub_nil _ | refine Fr.sub_cons rfl ?_))) (again (j + 1) _ _ (by omega) ⟨by omega, ho.trans (Only.chg hc22 hBg hgU), ⟨bs2, by omega, hb2⟩, rfl⟩)
    · subst hva
      have o21 := ownP_same (w' := w21) o20 (fun q _ hq => ho.block q (by omega) (.inl (by omega)))
      have hE21 := below_of_only ho hE20 (by omega)
      refine St0 ?_
      refine GL.call rfl rfl rfl (refSame5_call vw _ ps ps _ any w21 (ownP_full o21).rd (h.ext hE21) (by omega)) ?_
      rintro _ w22 ⟨rfl, he22⟩
      rw [decide_eq_true rfl]
      refine St0 ?_
      exact G.ret1 rfl rfl rfl rfl ⟨rfl, hE21.trans he22⟩
  case false =>
    obtain ⟨hl520, hvals⟩ := hg rfl
    refine St0 ?_
    refine GL.call rfl rfl rfl (great5_call _ os 30 any w1 (h'.ext he1) (by omega)) ?_
    rintro _ w1 ⟨⟨go, rfl, hgo⟩, rfl⟩
    cases go
    case true =>
      refine St0 ?_
      exact G.ret1 rfl rfl rfl rfl ⟨rfl, he1⟩
    obtain ⟨ho30, hov⟩ := hgo rfl
    refine St0 ?_
    by_cases h100 : (bs.length : Int) > 100
    · refine St0 ?_
      exact G.ret1 rfl rfl rfl rfl ⟨rfl, he1⟩
    have hpv : ∀ x ∈ ps, x.val.length ≤ 100 := fun x hx => by obtain ⟨i, hi⟩ := List.mem_iff_getElem?.1 hx; exact hvals i x hi
    have hov' : ∀ x ∈ os, x.val.length ≤ 100 := fun x hx => by obtain ⟨i, hi⟩ := List.mem_iff_getElem?.1 hx; exact hov i x hi
    refine St0 ?_
    refine GL.call rfl rfl rfl (refTwin5_call _ ps any w1 (h.ext he1) (by omega) (fun x hx => by have := hpv x hx; omega)) ?_
    rintro vw w2 ⟨hown, he2⟩
    have s2 := he2.size
    have hE2 := he1.trans he2
    have hownT := ownP_trunc hown (Nat.le_refl _)
    replace hB6 := hB6.ext he2
    refine St1 (hB6.all) ?_
    refine GL.call rfl rfl rfl (get_call vw ps k _ w2 hown.rd) ?_
    rintro _ w3 ⟨va, rfl, ha, he3⟩
    have haT := own_trunc ha (Nat.le_refl _)
    replace hB6 := hB6.ext he3
    have hE3 := hE2.trans he3
    have s3 := he3.size
    refine St1 (hB6.all) ?_
    refine GL.call rfl rfl rfl (refGet_call _ ps k any w3 (h.ext hE3)) ?_
    rintro _ w4 ⟨vb, rfl, hb, he4⟩
    replace hB6 := hB6.ext he4
    have hE4 := hE3.trans he4
    refine St1 (hB6.all) ?_
    have x24 := he3.trans he4
    refine GL.call rfl rfl rfl (put_call vw _ ps k bs _ any w4 (hown.ext x24).rd (hu.ext hE4)) ?_
    rintro _ w5 ⟨vc, rfl, hcP, he5⟩
    have hcT := ownP_trunc hcP (Nat.le_refl _)
    replace hB6 := hB6.ext he5
    have hE5 := hE4.trans he5
    refine St1 (hB6.all) ?_
    refine GL.call rfl rfl rfl (refPut_call _ _ ps k bs any any w5 (h.ext hE5) (hu.ext hE5)) ?_
    rintro _ w6 ⟨vd, rfl, hdP, he6⟩
    replace hB6 := hB6.ext he6
    have hE6 := hE5.trans he6
    refine St1 (hB6.all) ?_
    have x26 := x24.trans (he5.trans he6)
    refine GL.call rfl rfl rfl (drop_call vw ps k _ w6 (hown.ext x26).rd) ?_
    rintro _ w7 ⟨vx, rfl, hxP, he7⟩
    have hxT := ownP_trunc hxP (Nat.le_refl _)
    replace hB6 := hB6.ext he7
    have hE7 := hE6.trans he7
    refine St1 (hB6.all) ?_
    refine GL.call rfl rfl rfl (refDrop_call _ ps k any w7 (h.ext hE7)) ?_
    rintro _ w8 ⟨vy, rfl, hyP, he8⟩
    have hE8 := hE7.trans he8
    have x38 := he4.trans (he5.trans (he6.trans (he7.trans he8)))
    have x48 := he5.trans (he6.trans (he7.trans he8))
    have x58 := he6.trans (he7.trans he8)
    have x28 := x26.trans (he7.trans he8)
    have x68 := he7.trans he8
    obtain ⟨hcl, hcv⟩ := putL_small (k := k) hpv (show bs.length ≤ 100 by omega)
    obtain ⟨hxl, hxv⟩ := dropL_small (k := k) hpv
    refine St0 ?_
    refine GL.call rfl rfl rfl (same_call va vb (gotV ps k) (gotV ps k) _ _ w8 (Own.ext ha x38).fresh (Own.ext hb x48).fresh) ?_
    rintro _ w8 ⟨rfl, rfl⟩
    rw [decide_eq_true rfl]
    refine St0 ?_
    rw [beq_self_eq_true]
    refine St0 ?_
    refine GL.call rfl rfl rfl (refSame5_call vc vd _ _ _ _ w8 (hcP.ext x58).rd (hdP.ext x68).rd (by omega)) ?_
    rintro _ w9 ⟨rfl, he9⟩
    rw [decide_eq_true rfl]
    refine St0 ?_
    refine GL.call rfl rfl rfl (refSame5_call vx vy _ _ _ _ w9 (hxP.ext (he8.trans he9)).rd (hyP.ext he9).rd (by omega)) ?_
    rintro _ w10 ⟨rfl, he10⟩
    rw [decide_eq_true rfl]
    have hE10 := hE8.trans (he9.trans he10)
    have x210 := x28.trans (he9.trans he10)
    refine St0 ?_
    refine GL.call rfl rfl rfl (pcheck_call vw ps _ w10 (hown.ext x210).rd) ?_
    rintro _ w11 ⟨rfl, he11⟩
    refine St0 ?_
    refine GL.call rfl rfl rfl (refCheck5_call _ ps any w11 (h.ext (hE10.trans he11))) ?_
    rintro _ w12 ⟨rfl, he12⟩
    have x212 := x210.trans (he11.trans he12)
    have hE12 := hE10.trans (he11.trans he12)
    refine St0 ?_
    refine GL.call rfl rfl rfl (pairsSame_call vw _ ps os _ any w12 (hown.ext x212).rd (h'.ext hE12) (by omega) (fun x hx => by have := hpv x hx; omega)) ?_
    rintro _ w13 ⟨rfl, he13⟩
    refine St0 ?_
    refine GL.call rfl rfl rfl (refSame5_call _ _ ps os any any w13 (h.ext (hE12.trans he13)) (h'.ext (hE12.trans he13)) (by omega)) ?_
    rintro _ w14 ⟨rfl, he14⟩
    have x214 := x212.trans (he13.trans he14)
    have hE14 := hE12.trans (he13.trans he14)
    refine St0 ?_
    rw [beq_self_eq_true]
    refine St0 ?_
    refine GL.call rfl rfl rfl (pairsSame_call vw _ ps ps _ any w14 (hown.ext x214).rd (h.ext hE14) (by omega) (fun x hx => by have := hpv x hx; omega)) ?_
    rintro _ w15 ⟨rfl, he15⟩
    rw [decide_eq_true rfl]
    have x215 := x214.trans he15
    have hE15 := hE14.trans he15
    refine St0 ?_
    refine GL.call rfl rfl rfl (pairsTwin_call vw ps _ w15 (hown.ext x215).rd (by omega) (fun x hx => by have := hpv x hx; omega)) ?_
    rintro vt w16 ⟨htP, he16⟩
    have htT := ownP_trunc htP (Nat.le_refl _)
    have hE16 := hE15.trans he16
    refine St0 ?_
    refine GL.call rfl rfl rfl (refSame5_call vt _ ps ps _ any w16 htP.rd (h.ext hE16) (by omega)) ?_
    rintro _ w17 ⟨rfl, he17⟩
    rw [decide_eq_true rfl]
    have hE17 := hE16.trans he17
    have e1 := he1.size
    have e4 := he4.size
    have e5 := he5.size
    have e6 := he6.size
    have e7 := he7.size
    have e8 := he8.size
    have e15 : w8.heap.size ≤ w15.heap.size := (he9.trans (he10.trans (he11.trans (he12.trans (he13.trans (he14.trans he15)))))).size
    have e16 := he16.size
    have e17 := he17.size
    have x817 := he9.trans (he10.trans (he11.trans (he12.trans (he13.trans (he14.trans (he15.trans (he16.trans he17)))))))
    have x217 := x28.trans x817
    have x317 := x38.trans x817
    have x517 := x58.trans x817
    have x717 := he8.trans x817
    have o17 := ownP_same (w' := w17) hownT (fun q _ hq => x217.block q (by omega))
    have a17 := own_same5 (w' := w17) haT (fun q _ hq => x317.block q (by omega))
    have c17 := ownP_same (w' := w17) hcT (fun q _ hq => x517.block q (by omega))
    have d17 := ownP_same (w' := w17) hxT (fun q _ hq => x717.block q (by omega))
    have t17 := ownP_same (w' := w17) htT (fun q _ hq => he17.block q (by omega))
    clear hown hownT ha haT hb hcP hcT hdP hxP hxT hyP htP htT x24 x26 x28 x38 x48 x58 x68 x210 x212 x214 x215 x217 x317 x517 x717 x817 hE2 hE3 hE4 hE5 hE6 hE7 hE8 hE10 hE12 hE14 hE15 hE16 he2 he3 he4 he5 he6 he7 he8 he9 he10 he11 he12 he13 he14 he15 he16 he17 hB6
    refine St0 ?_
    refine GL.call rfl rfl rfl (spoil5_call vt ps _ _ w17 t17 (by omega) (by omega) (fun x hx => by have := hpv x hx; omega)) ?_
    rintro _ w18 n18
    have z18 := n18.size
    have o18 := ownP_same (w' := w18) o17 (fun q _ hq => n18.block q (by omega) (.inl (by omega)))
    have a18 := own_same5 (w' := w18) a17 (fun q _ hq => n18.block q (by omega) (.inl (by omega)))
    have c18 := ownP_same (w' := w18) c17 (fun q _ hq => n18.block q (by omega) (.inl (by omega)))
    have d18 := ownP_same (w' := w18) d17 (fun q _ hq => n18.block q (by omega) (.inl (by omega)))
    have hE18 := below_of_only n18 hE17 (by omega)
    refine St0 ?_
    refine GL.call rfl rfl rfl (spoil5_call vc (putL ps k bs) _ _ w18 c18 (by omega) (by omega) hcv) ?_
    rintro _ w19 n19
    have z19 := n19.size
    have o19 := ownP_same (w' := w19) o18 (fun q _ hq => n19.block q (by omega) (.inl (by omega)))
    have a19 := own_same5 (w' := w19) a18 (fun q _ hq => n19.block q (by omega) (.inl (by omega)))
    have d19 := ownP_same (w' := w19) d18 (fun q hq _ => n19.block q (by omega) (.inr (by omega)))
    have hE19 := below_of_only n19 hE18 (by omega)
    refine St0 ?_
    refine GL.call rfl rfl rfl (spoil5_call vx (dropL ps k) _ _ w19 d19 (by omega) (by omega) hxv) ?_
    rintro _ w20 n20
    have z20 := n20.size
    have o20 := ownP_same (w' := w20) o19 (fun q _ hq => n20.block q (by omega) (.inl (by omega)))
    have a20 := own_same5 (w' := w20) a19 (fun q _ hq => n20.block q (by omega) (.inl (by omega)))
    have hE20 := below_of_only n20 hE19 (by omega)
    obtain ⟨pa, ca, hva⟩ := (own_full a20).shape
    have hgl : (gotV ps k).length ≤ 100 := by
      unfold gotV
      split
      · cases hq : ps[ahead ps k]? with
        | none => simp
        | some x => simpa using hvals _ x hq
      · simp
    clear t17 c17 d17 a17 o17 c18 d18 a18 o18 d19 a19 o19 n18 n19 n20 hE17 hE18 hE19
    refine St0 ?_
    generalize gotV ps k = gv at a20 hva hgl
    refine G.sub (f' := [(25, iv ((0 : Nat) : Int)), (10, va), (9, vw), (0, .slice p ps.length c)]) (by (repeat (first | exact Fr.sub_nil _ | refine Fr.sub_cons rfl ?_))) ?_
    refine G.rounds (α := Nat) (fun j f w' => j ≤ gv.length ∧ Only w2.heap.size w3.heap.size w20 w' ∧ (∃ bs' : Bytes, bs'.length = gv.length ∧ OwnB w2.heap.size (trunc w3.heap.size w') va bs') ∧ f = [(25, iv j), (10, va), (9, vw), (0, .slice p ps.length c)]) (fun j => gv.length - j) ?round2 0 ⟨by omega, Only.refl _ _ _, ⟨gv, rfl, a20⟩, rfl⟩
    rintro j f w21 ⟨hj, ho, ⟨bs', hbl, hb'⟩, rfl⟩ again
    have z21 := ho.size
    by_cases hlt : (j : Int) < gv.length
    · obtain ⟨g', cap, cc, y, hv', hBg, hgU, hBlk, hjc, hAt, hset⟩ := ownB_turn hb' (j := j) (by omega)
      rw [hbl] at hv'
      subst hv'
      refine St0 ?_
      (refine GL.indexSlice (j) 1 (j) hT rfl rfl rfl rfl rfl rfl rfl rfl ?_ ?_ ?_ ?_; (focus omega); (focus omega); (focus omega))
      refine St1 (hAt) ?_
      refine GL.bin rfl rfl rfl rfl (fun w => run_add1_u8 y w) ?_
      (refine GL.indexSlice (j) 1 (j) hT rfl rfl rfl rfl rfl rfl rfl rfl ?_ ?_ ?_ ?_; (focus omega); (focus omega); (focus omega))
      refine GL.store1 hT rfl rfl rfl rfl rfl rfl rfl hBlk hjc fun w22 hc22 hB22 => ?_
      refine St0 ?_
      obtain ⟨bs2, hl2, hb2⟩ := hset w22 (y + 1) hB22
      exact G.sub (by (repeat (first | exact Fr.sub_nil _ | refine Fr.sub_cons rfl ?_))) (again (j + 1) _ _ (by omega) ⟨by omega, ho.trans (Only.chg hc22 hBg hgU), ⟨bs2, by omega, hb2⟩, rfl⟩)
    · subst hva
      have o21 := ownP_same (w' := w21) o20 (fun q _ hq => ho.block q (by omega) (.inl (by omega)))
      have hE21 := below_of_only ho hE20 (by omega)
      refine St0 ?_
      refine GL.call rfl rfl rfl (refSame5_call vw _ ps ps _ any w21 (ownP_full o21).rd (h.ext hE21) (by omega)) ?_
      rintro _ w22 ⟨rfl, he22⟩
      rw [decide_eq_true rfl]
      refine St0 ?_
      exact G.ret1 rfl rfl rfl rfl ⟨rfl, hE21.trans he22⟩
end Go.Proofs.Ytefneilaongpbaa
