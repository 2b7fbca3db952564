import Derived.Test.YtefneilaongpbaaDoorTagA
import Derived.Test.YtefneilaongpbaaDoorDrawN
import Derived.Test.YtefneilaongpbaaDoorOwnP
import Derived.Test.YtefneilaongpbaaDoorTrie
import Derived.Test.YtefneilaongpbaaDoorPairsA
/-
  A map's root: both sides.
-/
set_option linter.unusedVariables false
set_option linter.unusedSimpArgs false
set_option maxRecDepth 100000
set_option maxHeartbeats 4000000
namespace Go.Proofs.YtefneilaongpbaaDoor
open Go Go.Bd Go.RowKit
attribute [local irreducible] G GL GQ

/-- A key's bytes, where they lie. -/
theorem rdKey {S : Where} {w : World} {b o : Nat} {k : Dig} (h : At S w b o k.cells) : RdB S w (.slice (some ⟨b, o, none⟩) 32 32) k.1 := by
  refine ⟨_, 32, ?_, ?_, .inr ⟨b, o, rfl, h⟩⟩
  · rw [k.2]
  · rw [k.2]; exact Nat.le_refl _
theorem tag2_len (k : UInt8) (x y : Bytes) : (tagB k [x, y]).length = 9 + x.length + y.length := by
  simp [tagB, be4]; omega
theorem leaf_len (k : Dig) {v : Bytes} (h : v.length ≤ 1000) : (tagB 1 [k.1, v]).length ≤ 4000000000 := by
  rw [tag2_len, k.2]; omega
theorem two_len (a b : Dig) : (tagB 2 [a.1, b.1]).length ≤ 4000000000 := by
  rw [tag2_len, a.2, b.2]; omega
/-- A pair of a row, by its address. -/
theorem RdP.cut {S : Where} {w : World} {p : Option Addr} {c : Nat} {ps : List Pair} (h : RdP S w (.slice p ps.length c) ps) {L H M : Nat} (h1 : L ≤ H) (h2 : H ≤ ps.length) (h3 : H ≤ M) : RdP S w (.slice (cutP p L M 33) (H - L) (M - L)) ((ps.drop L).take (H - L)) := by
  obtain ⟨es, hes, hrd⟩ := h
  have hel := pairs_len33 hes
  refine ⟨(es.drop L).take (H - L), (hes.drop L).take (H - L), ?_⟩
  have hl : ((ps.drop L).take (H - L)).length = H - L := by simp; omega
  rw [hl, flat_take (fun e he => hel e (List.mem_of_mem_drop he)), flat_drop hel]
  exact hrd.cut (pairs_len' hes) h1 h2 h3
theorem front_split {α : Type} (q : α → Bool) : ∀ (l : List α) (n : Nat), (∀ (i : Nat) (x : α), l[i]? = some x → (q x = true ↔ i < n)) → l.take n = l.filter q ∧ l.drop n = l.filter (fun x => !q x) := by
  intro l n h
  have h1 : ∀ x ∈ l.take n, q x = true := fun x hx => by
    obtain ⟨i, hi⟩ := List.mem_iff_getElem?.1 hx
    rw [List.getElem?_take] at hi
    split at hi
    · rename_i hlt; exact (h i x hi).2 hlt
    · cases hi
  have h2 : ∀ x ∈ l.drop n, q x = false := fun x hx => by
    obtain ⟨i, hi⟩ := List.mem_iff_getElem?.1 hx
    rw [List.getElem?_drop] at hi
    have := mt (h (n + i) x hi).1 (by omega)
    simpa using this
  have e : l = l.take n ++ l.drop n := (List.take_append_drop _ _).symm
  constructor
  · conv => rhs; rw [e]
    rw [List.filter_append, List.filter_eq_self.2 h1, List.filter_eq_nil_iff.2 (fun x hx => by rw [h2 x hx]; simp), List.append_nil]
  · conv => rhs; rw [e]
    rw [List.filter_append, List.filter_eq_nil_iff.2 (fun x hx => by rw [h1 x hx]; simp), List.nil_append]
    exact (List.filter_eq_self.2 (fun x hx => by rw [h2 x hx]; rfl)).symm
theorem Under.front {d : Nat} (hd : d < 256) {ps : List Pair} (h : Under d ps) (i : Nat) (x : Pair) (hx : ps[i]? = some x) : bitIs d 0 x = true ↔ i < (ps.filter (bitIs d 0)).length :=
  filter_front (bitIs d 0) ps (fun i j x y hij hx hy hq => by
    obtain ⟨hi, rfl⟩ := List.getElem?_eq_some_iff.1 hx
    obtain ⟨hj, rfl⟩ := List.getElem?_eq_some_iff.1 hy
    have hlt := List.pairwise_iff_getElem.1 h.1 i j hi hj hij
    simp only [bitIs, decide_eq_true_eq] at hq ⊢
    have hb := (ps[i]).key.bit_lt d
    rcases Nat.lt_or_ge 0 ((ps[i]).key.bit d) with h1 | h1
    · have := num_lt_of (a := (ps[j]).key) (b := (ps[i]).key) hd (h.2 _ (List.getElem_mem hj) _ (List.getElem_mem hi)) hq (by omega)
      omega
    · omega) i x hx
theorem not_bit0 (d : Nat) : (fun x : Pair => !bitIs d 0 x) = bitIs d 1 := by
  funext x
  have := x.key.bit_lt d
  simp only [bitIs]
  by_cases h : x.key.bit d = 0
  · simp [h]
  · have : x.key.bit d = 1 := by omega
    simp [this]
theorem Under.halves {d : Nat} (hd : d < 256) {ps : List Pair} (h : Under d ps) : ps.take (ps.filter (bitIs d 0)).length = ps.filter (bitIs d 0) ∧ ps.drop (ps.filter (bitIs d 0)).length = ps.filter (bitIs d 1) := by
  have := front_split (bitIs d 0) ps _ (fun i x hx => h.front hd i x hx)
  rw [not_bit0] at this
  exact this
theorem root1_call (x : Pair) (u : Value) (d b : Nat) (hd : d < 256) (S : Where) (w : World) (hB : At S w b 0 [iv d]) :
    Does Tryd.prog 134 #[pv x u, ptr b 0] w fun r w' => r = .bool (bitIs d 0 x) ∧ Ext w w' := by
  refine call_walk Tryd.func134 (by kernel_rfl) rfl Tryd.ntmps134 rfl ?_
  refine St0 ?_
  refine GL.box rfl rfl rfl rfl fun b2 w1 hb2 hB2 he1 => ?_
  have hP := pairAt hB2.all
  replace hB := hB.ext he1
  refine St2 (hP.1) (hB) ?_
  refine GL.call rfl rfl rfl (bit_call x.key d hd w1) ?_
  rintro r w2 ⟨rfl, he2⟩
  by_cases h0 : x.key.bit d = 0
  · have : ((x.key.bit d : Nat) : Int) = 0 := by omega
    refine St0 ?_
    exact G.ret1 rfl rfl rfl rfl ⟨by simp [bitIs, h0], he1.trans he2⟩
  · have : ¬ ((x.key.bit d : Nat) : Int) = 0 := by omega
    refine St0 ?_
    exact G.ret1 rfl rfl rfl rfl ⟨by simp [bitIs, h0], he1.trans he2⟩
theorem root_call : ∀ (m d : Nat) (v : Value) (ps : List Pair) (S : Where) (w : World), 256 - d = m → d ≤ 256 → RdP S w v ps → Under d ps → ps.length ≤ 512 → (∀ x ∈ ps, x.val.length ≤ 1000) → Kt w →
    Does Tryd.prog 85 #[v, iv d] w fun r w' => r = dv (rootAt d ps) ∧ Ext w w' := by
  intro m
  induction m with
  | zero =>
    intro d v ps S w hm hd h hu h512 hval hK
    refine call_walk Tryd.func85 (by kernel_rfl) rfl Tryd.ntmps85 rfl ?_
    obtain ⟨p, c, rfl, hc⟩ := h.isSlice
    refine St0 ?_
    refine GL.box rfl rfl rfl rfl fun b3 w1 hb3 hB3 he1 => ?_
    have l3 := hB3.lt
    refine GL.alloc hT rfl rfl rfl fun b4 w2 hb4 hB4 he2 => ?_
    have l4 := hB4.lt
    replace hB3 := hB3.ext he2
    have he := he1.trans he2
    have s1 := he1.size
    have s2 := he2.size
    refine St0 ?_
    by_cases h0 : (ps.length : Int) = 0
    · have hnil : ps = [] := List.eq_nil_of_length_eq_zero (by omega)
      refine St0 ?_
      refine GL.call (vs := []) rfl rfl rfl (tagNone_call w2 (hK.ext he)) ?_
      rintro r w3 ⟨rfl, he3⟩
      refine GL.storeVar hT rfl rfl rfl rfl rfl (Dig.len _) (Dig.one _) (hB4.ext he3) (by rw [Dig.len]; rfl) fun w5 hc5 hB5 => ?_
      refine St0 ?_
      exact G.retN rfl rfl hT rfl rfl rfl rfl hB5.all (Dig.len _) ⟨by rw [hnil, rootAt_nil], hc5.below (by omega) (he.trans he3)⟩
    by_cases h1 : (ps.length : Int) = 1
    · obtain ⟨x, hx⟩ : ∃ x, ps = [x] := List.length_eq_one_iff.1 (by omega)
      obtain ⟨b, o, c', u, hv, hu', hA⟩ := (h.ext he).elem (i := 0) (x := x) (by rw [hx]; rfl)
      cases hv
      have hP := pairAt hA
      rw [show o + 0 * 33 = o by omega] at hP
      refine St0 ?_
      refine G.quietTail 8 follows (by kernel_rfl) (by kernel_rfl) (by kernel_rfl) (by kernel_rfl) ?_
      refine QSt0 ?_
      (refine GQ.indexSlice (0) 33 (o) hT rfl rfl rfl rfl rfl rfl rfl rfl ?_ ?_ ?_ ?_; (focus omega); (focus omega); (focus omega))
      refine QSt0 ?_
      (refine GQ.indexSlice (0) 33 (o) hT rfl rfl rfl rfl rfl rfl rfl rfl ?_ ?_ ?_ ?_; (focus omega); (focus omega); (focus omega))
      refine QSt1 (hP.2) ?_
      refine GQ.tail fun w3 he3 => ?_
      refine GL.buildSlice ([.slice (some ⟨b, o, none⟩) 32 32] ++ [u]) hT rfl rfl rfl rfl rfl rfl rfl (fillL_two rfl rfl (RdF.some hu') rfl (madeLen _ _)) fun b5 w4 hb5 hB5 he4 => ?_
      have he34 := he3.trans he4
      refine GL.call rfl rfl rfl (tagOf_call 1 _ [x.key.1, x.val] any w4 (bs2 hB5 (rdKey (hP.1.ext he34)) (RdB.ext hu' he34)) (by simp) (leaf_len _ (hval x (by rw [hx]; simp))) (hK.ext (he.trans he34))) ?_
      rintro r w5 ⟨rfl, he5⟩
      have he25 := he34.trans he5
      refine GL.storeVar hT rfl rfl rfl rfl rfl (Dig.len _) (Dig.one _) (hB4.ext he25) (by rw [Dig.len]; rfl) fun w6 hc6 hB6 => ?_
      refine St0 ?_
      exact G.retN rfl rfl hT rfl rfl rfl rfl hB6.all (Dig.len _) ⟨by rw [hx, rootAt_one]; rfl, hc6.below (by omega) (he.trans he25)⟩
    exfalso
    obtain rfl : d = 256 := by omega
    have := hu.full
    omega
  | succ m ih =>
    intro d v ps S w hm hd h hu h512 hval hK
    refine call_walk Tryd.func85 (by kernel_rfl) rfl Tryd.ntmps85 rfl ?_
    obtain ⟨p, c, rfl, hc⟩ := h.isSlice
    refine St0 ?_
    refine GL.box rfl rfl rfl rfl fun b3 w1 hb3 hB3 he1 => ?_
    have l3 := hB3.lt
    refine GL.alloc hT rfl rfl rfl fun b4 w2 hb4 hB4 he2 => ?_
    have l4 := hB4.lt
    replace hB3 := hB3.ext he2
    have he := he1.trans he2
    have s1 := he1.size
    have s2 := he2.size
    refine St0 ?_
    by_cases h0 : (ps.length : Int) = 0
    · have hnil : ps = [] := List.eq_nil_of_length_eq_zero (by omega)
      refine St0 ?_
      refine GL.call (vs := []) rfl rfl rfl (tagNone_call w2 (hK.ext he)) ?_
      rintro r w3 ⟨rfl, he3⟩
      refine GL.storeVar hT rfl rfl rfl rfl rfl (Dig.len _) (Dig.one _) (hB4.ext he3) (by rw [Dig.len]; rfl) fun w5 hc5 hB5 => ?_
      refine St0 ?_
      exact G.retN rfl rfl hT rfl rfl rfl rfl hB5.all (Dig.len _) ⟨by rw [hnil, rootAt_nil], hc5.below (by omega) (he.trans he3)⟩
    by_cases h1 : (ps.length : Int) = 1
    · obtain ⟨x, hx⟩ : ∃ x, ps = [x] := List.length_eq_one_iff.1 (by omega)
      obtain ⟨b, o, c', u, hv, hu', hA⟩ := (h.ext he).elem (i := 0) (x := x) (by rw [hx]; rfl)
      cases hv
      have hP := pairAt hA
      rw [show o + 0 * 33 = o by omega] at hP
      refine St0 ?_
      refine G.quietTail 8 follows (by kernel_rfl) (by kernel_rfl) (by kernel_rfl) (by kernel_rfl) ?_
      refine QSt0 ?_
      (refine GQ.indexSlice (0) 33 (o) hT rfl rfl rfl rfl rfl rfl rfl rfl ?_ ?_ ?_ ?_; (focus omega); (focus omega); (focus omega))
      refine QSt0 ?_
      (refine GQ.indexSlice (0) 33 (o) hT rfl rfl rfl rfl rfl rfl rfl rfl ?_ ?_ ?_ ?_; (focus omega); (focus omega); (focus omega))
      refine QSt1 (hP.2) ?_
      refine GQ.tail fun w3 he3 => ?_
      refine GL.buildSlice ([.slice (some ⟨b, o, none⟩) 32 32] ++ [u]) hT rfl rfl rfl rfl rfl rfl rfl (fillL_two rfl rfl (RdF.some hu') rfl (madeLen _ _)) fun b5 w4 hb5 hB5 he4 => ?_
      have he34 := he3.trans he4
      refine GL.call rfl rfl rfl (tagOf_call 1 _ [x.key.1, x.val] any w4 (bs2 hB5 (rdKey (hP.1.ext he34)) (RdB.ext hu' he34)) (by simp) (leaf_len _ (hval x (by rw [hx]; simp))) (hK.ext (he.trans he34))) ?_
      rintro r w5 ⟨rfl, he5⟩
      have he25 := he34.trans he5
      refine GL.storeVar hT rfl rfl rfl rfl rfl (Dig.len _) (Dig.one _) (hB4.ext he25) (by rw [Dig.len]; rfl) fun w6 hc6 hB6 => ?_
      refine St0 ?_
      exact G.retN rfl rfl hT rfl rfl rfl rfl hB6.all (Dig.len _) ⟨by rw [hx, rootAt_one]; rfl, hc6.below (by omega) (he.trans he25)⟩
    have h2 : 2 ≤ ps.length := by omega
    have hd' : d < 256 := by omega
    have hle0 : (ps.filter (bitIs d 0)).length ≤ ps.length := List.length_filter_le _ _
    refine St0 ?_
    refine GL.call rfl rfl rfl (half_call (.slice p ps.length c) ps 134 [] [ptr b3 0] (bitIs d 0) (ps.filter (bitIs d 0)).length S w2 (h.ext he) (by omega) hle0 (fun i x hx => hu.front hd' i x hx) (fun w' he' x u hx => root1_call x u d b3 hd' any w' (hB3.ext he').all)) ?_
    rintro r w3 ⟨rfl, he3⟩
    have hE := he.trans he3
    have s3 := he3.size
    replace hB3 := hB3.ext he3
    replace hB4 := hB4.ext he3
    obtain ⟨ht0, ht1⟩ := hu.halves hd'
    generalize hn0 : (ps.filter (bitIs d 0)).length = n0 at hle0 ht0 ht1
    have hc0 : ∀ w', Ext w w' → RdP S w' (.slice (cutP p 0 c 33) (n0 - 0) (c - 0)) (ps.filter (bitIs d 0)) := fun w' he' => by
      have := RdP.cut (h.ext he') (L := 0) (H := n0) (M := c) (by omega) hle0 (by omega)
      rw [List.drop_zero] at this
      rw [← ht0]; exact this
    have hc1 : ∀ w', Ext w w' → RdP S w' (.slice (cutP p n0 c 33) (ps.length - n0) (c - n0)) (ps.filter (bitIs d 1)) := fun w' he' => by
      have := RdP.cut (h.ext he') (L := n0) (H := ps.length) (M := c) hle0 (Nat.le_refl _) (by omega)
      rw [List.take_of_length_le (by rw [List.length_drop]; exact Nat.le_refl _)] at this
      rw [← ht1]; exact this
    have hi0 := fun w' (he' : Ext w w') => ih (d + 1) _ _ S w' (by omega) (by omega) (hc0 w' he') (hu.filter 0) (Nat.le_trans (List.length_filter_le _ _) h512) (fun x hx => hval x (List.mem_filter.1 hx).1) (hK.ext he')
    have hi1 := fun w' (he' : Ext w w') => ih (d + 1) _ _ S w' (by omega) (by omega) (hc1 w' he') (hu.filter 1) (Nat.le_trans (List.length_filter_le _ _) h512) (fun x hx => hval x (List.mem_filter.1 hx).1) (hK.ext he')
    have ed : (d : Int) + 1 = ((d + 1 : Nat) : Int) := by omega
    refine St0 ?_
    refine G.drawN 14 [12, 13] [(0, .slice p ps.length c), (3, ptr b3 0), (4, ptr b4 0), (5, iv (n0 : Nat))] (fun i v w' => match i with
      | 0 => Value.slice p ps.length c = v | 1 => iv (n0 : Nat) = v | 2 => Value.slice (cutP p 0 c 33) (n0 - 0) (c - 0) = v | 3 => iv d = v | 4 => iv (d + 1 : Nat) = v | 5 => dv (rootAt (d + 1) (ps.filter (bitIs d 0))) = v
      | 6 => Value.slice p ps.length c = v | 7 => iv (n0 : Nat) = v | 8 => Value.slice (cutP p n0 c 33) (ps.length - n0) (c - n0) = v | 9 => iv d = v | 10 => iv (d + 1 : Nat) = v | 11 => dv (rootAt (d + 1) (ps.filter (bitIs d 1))) = v
      | _ => ∃ b, v = ptr b 0 ∧ w3.heap.size ≤ b ∧ Blk w' b 25 ti25.zero) follows (by kernel_rfl) (by kernel_rfl) (by kernel_rfl) (by kernel_rfl) (by kernel_rfl) (by (repeat (first | exact Fr.sub_nil _ | refine Fr.sub_cons rfl ?_))) ?mono ?old ?obs ?fin
    case mono =>
      intro i v w1 w2 he h
      rcases i with _ | _ | _ | _ | _ | _ | _ | _ | _ | _ | _ | _ | i <;> first | exact h | exact (let ⟨b, h1, h2, h3⟩ := h; ⟨b, h1, h2, h3.ext he⟩)
    case old =>
      intro i v w' hi h
      have hi' : i = 12 ∨ i = 13 := by simpa using hi
      rcases hi' with rfl | rfl
      · obtain ⟨b, h1, h2, h3⟩ := h; exact ⟨b, 0, h1, h3.lt⟩
      · obtain ⟨b, h1, h2, h3⟩ := h; exact ⟨b, 0, h1, h3.lt⟩
    case obs =>
      intro w0 he0
      have hE0 := hE.trans he0
      refine ⟨fun w' he' => ?_, fun w' he' => ?_, fun w' he' => ?_, fun w' he' => ?_, fun w' he' => ?_, fun w' he' => ?_, fun w' he' => ?_, fun w' he' => ?_, fun w' he' => ?_, fun w' he' => ?_, fun w' he' => ?_, fun w' he' => ?_, fun w' he' => ?_, fun w' he' => ?_, trivial⟩
      · refine St0 ?_
        exact GL.fact rfl (Ext.refl _) ⟨rfl, fun h => absurd h (by decide)⟩
      · refine St0 ?_
        exact GL.fact rfl (Ext.refl _) ⟨rfl, fun h => absurd h (by decide)⟩
      · rintro v rfl v rfl
        refine GL.slice 0 n0 c 33 hT rfl rfl rfl rfl rfl rfl rfl rfl ⟨_, _, rfl, rfl⟩ rfl (by simp) (by omega) (by omega) (by omega) ?_
        exact GL.fact rfl (Ext.refl _) ⟨rfl, fun h => absurd h (by decide)⟩
      · refine St1 ((hB3.ext (he0.trans he')).all) ?_
        exact GL.fact rfl (Ext.refl _) ⟨rfl, fun h => absurd h (by decide)⟩
      · rintro v rfl
        refine St0 ?_
        rw [ed]
        exact GL.fact rfl (Ext.refl _) ⟨rfl, fun h => absurd h (by decide)⟩
      · rintro v rfl v rfl
        refine GL.call rfl rfl rfl (hi0 w' (hE0.trans he')) ?_
        rintro r w'' ⟨rfl, he''⟩
        exact GL.fact rfl he'' ⟨rfl, fun h => absurd h (by decide)⟩
      · refine St0 ?_
        exact GL.fact rfl (Ext.refl _) ⟨rfl, fun h => absurd h (by decide)⟩
      · refine St0 ?_
        exact GL.fact rfl (Ext.refl _) ⟨rfl, fun h => absurd h (by decide)⟩
      · rintro v rfl v rfl
        refine GL.slice n0 ps.length c 33 hT rfl rfl rfl rfl rfl rfl rfl ⟨_, _, rfl, rfl⟩ rfl rfl (by simp) (by omega) (by omega) (by omega) ?_
        exact GL.fact rfl (Ext.refl _) ⟨rfl, fun h => absurd h (by decide)⟩
      · refine St1 ((hB3.ext (he0.trans he')).all) ?_
        exact GL.fact rfl (Ext.refl _) ⟨rfl, fun h => absurd h (by decide)⟩
      · rintro v rfl
        refine St0 ?_
        rw [ed]
        exact GL.fact rfl (Ext.refl _) ⟨rfl, fun h => absurd h (by decide)⟩
      · rintro v rfl v rfl
        refine GL.call rfl rfl rfl (hi1 w' (hE0.trans he')) ?_
        rintro r w'' ⟨rfl, he''⟩
        exact GL.fact rfl he'' ⟨rfl, fun h => absurd h (by decide)⟩
      · refine GL.alloc hT rfl rfl rfl fun b w'' hb hB he'' => ?_
        exact GL.fact rfl he'' ⟨⟨b, rfl, by have := he0.size; have := he'.size; omega, hB⟩, fun _ => ⟨b, 0, rfl, by omega⟩⟩
      · refine GL.alloc hT rfl rfl rfl fun b w'' hb hB he'' => ?_
        exact GL.fact rfl he'' ⟨⟨b, rfl, by have := he0.size; have := he'.size; omega, hB⟩, fun _ => ⟨b, 0, rfl, by omega⟩⟩
    case fin =>
      rintro w5 he5 v0 rfl v1 rfl v2 rfl v3 rfl v4 rfl v5 rfl v6 rfl v7 rfl v8 rfl v9 rfl v10 rfl v11 rfl v12 ⟨b6, rfl, hb6, hB6⟩ v13 ⟨b7, rfl, hb7, hB7⟩ hun
      have hne : b6 ≠ b7 := fun e => hun 12 13 rfl rfl (by decide) (by rw [e]; rfl)
      replace hB4 := hB4.ext he5
      have hE5 := hE.trans he5
      refine GL.storeVar hT rfl rfl rfl rfl rfl (Dig.len _) (Dig.one _) hB6 (by rw [Dig.len]; rfl) fun w6 hc6 hB6 => ?_
      replace hB7 := hB7.chg hc6 (fun e => hne e.symm)
      replace hB4 := hB4.chg hc6 (by omega)
      have hE6 : Ext w w6 := hc6.below (by omega) hE5
      refine GL.storeVar hT rfl rfl rfl rfl rfl (Dig.len _) (Dig.one _) hB7 (by rw [Dig.len]; rfl) fun w7 hc7 hB7 => ?_
      replace hB6 := hB6.chg hc7 hne
      replace hB4 := hB4.chg hc7 (by omega)
      have hE7 : Ext w w7 := hc7.below (by omega) hE6
      refine St0 ?_
      refine G.quietTail 2 follows (by kernel_rfl) (by kernel_rfl) (by kernel_rfl) (by kernel_rfl) ?_
      refine QSt0 ?_
      refine GQ.tail fun w8 he8 => ?_
      replace hB4 := hB4.ext he8
      replace hB6 := hB6.ext he8
      replace hB7 := hB7.ext he8
      refine GL.buildSlice ([.slice (some ⟨b6, 0, none⟩) 32 32] ++ [.slice (some ⟨b7, 0, none⟩) 32 32]) hT rfl rfl rfl rfl rfl rfl rfl (fillL_two rfl rfl rfl rfl (madeLen _ _)) fun b9 w9 hb9 hB9 he9 => ?_
      replace hB4 := hB4.ext he9
      replace hB6 := hB6.ext he9
      replace hB7 := hB7.ext he9
      refine GL.call rfl rfl rfl (tagOf_call 2 _ [(rootAt (d + 1) (ps.filter (bitIs d 0))).1, (rootAt (d + 1) (ps.filter (bitIs d 1))).1] any w9 (bs2 hB9 (rdKey hB6.all) (rdKey hB7.all)) (by simp) (two_len _ _) (hK.ext (hE7.trans (he8.trans he9)))) ?_
      rintro r w10 ⟨rfl, he10⟩
      replace hB4 := hB4.ext he10
      refine GL.storeVar hT rfl rfl rfl rfl rfl (Dig.len _) (Dig.one _) hB4 (by rw [Dig.len]; rfl) fun w11 hc11 hB11 => ?_
      refine St0 ?_
      exact G.retN rfl rfl hT rfl rfl rfl rfl hB11.all (Dig.len _) ⟨by rw [rootAt_two hd' h2]; rfl, hc11.below (by omega) (hE7.trans (he8.trans (he9.trans he10)))⟩
end Go.Proofs.YtefneilaongpbaaDoor
/-
  A map's root: the document's; the law's walk.
-/
set_option linter.unusedVariables false
set_option linter.unusedSimpArgs false
set_option maxRecDepth 100000
set_option maxHeartbeats 4000000
namespace Go.Proofs.YtefneilaongpbaaDoor
open Go Go.Bd Go.RowKit
attribute [local irreducible] G GL GQ

/-- A row of one's own, of pairs whose values lie where they lay. -/
def RowP (B : Nat) (S : Where) (w w' : World) (v : Value) (ps : List Pair) : Prop := ∃ es, All2 (PairC S w) es ps ∧ Own B w' v ps.length 33 76 es.flatten
theorem RowP.ext {B : Nat} {S : Where} {w w1 w2 : World} {v : Value} {ps : List Pair} (h : RowP B S w w1 v ps) (he : Ext w1 w2) : RowP B S w w2 v ps := let ⟨es, h1, h2⟩ := h; ⟨es, h1, h2.ext he⟩
theorem RowP.but {B : Nat} {S : Where} {w w1 w2 : World} {v : Value} {r : Option Nat} {ps : List Pair} (h : RowP B S w w1 v ps) (hb : But r w1 w2) (hne : ∀ q, rowOf v = some q → r ≠ some q) : RowP B S w w2 v ps :=
  let ⟨es, h1, h2⟩ := h; ⟨es, h1, h2.keep (fun g hg hl => hb.block g hl (fun e => hne g hg e.symm)) (by decide)⟩
theorem RowP.rd {B : Nat} {S : Where} {w w' : World} {v : Value} {ps : List Pair} (h : RowP B S w w' v ps) (he : Ext w w') : RdP any w' v ps :=
  let ⟨es, h1, h2⟩ := h; ⟨es, h1.imp fun e x ⟨u, hu, hb⟩ => ⟨u, hu, RdB.imp (RdB.ext hb he) fun _ _ _ => trivial⟩, h2.fresh.imp fun _ _ _ => trivial⟩
theorem RowP.bare (B : Nat) (S : Where) (w w' : World) (p : Option Addr) : RowP B S w w' (.slice p 0 0) [] := ⟨[], .nil, Own.bare _ _ _ _ _⟩
theorem RowP.row {B : Nat} {S : Where} {w w' : World} {v : Value} {ps : List Pair} (h : RowP B S w w' v ps) {q : Nat} (hq : rowOf v = some q) : B ≤ q ∧ q < w'.heap.size := let ⟨es, h1, h2⟩ := h; h2.row hq
theorem RowP.shape {B : Nat} {S : Where} {w w' : World} {v : Value} {ps : List Pair} (h : RowP B S w w' v ps) : ∃ p c, v = .slice p ps.length c := let ⟨es, h1, h2⟩ := h; h2.shape
theorem filter_take {α : Type} (q : α → Bool) {ps : List α} {j : Nat} {x : α} (hx : ps[j]? = some x) : (ps.take (j + 1)).filter q = (ps.take j).filter q ++ if q x then [x] else [] := by
  rw [List.take_add_one, hx, List.filter_append]
  congr 1
  simp [List.filter_cons]
theorem refOf_call : ∀ (m d : Nat) (v : Value) (ps : List Pair) (S : Where) (w : World), 256 - d = m → d ≤ 256 → RdP S w v ps → Under d ps → ps.length ≤ 1000000 → (∀ x ∈ ps, x.val.length ≤ 1000) →
    Does Tryd.prog 87 #[v, iv d] w fun r w' => r = dv (rootAt d ps) ∧ Ext w w' := by
  intro m
  induction m with
  | zero =>
    intro d v ps S w hm hd h hu h512 hval
    refine call_walk Tryd.func87 (by kernel_rfl) rfl Tryd.ntmps87 rfl ?_
    obtain ⟨p, c, rfl, hc⟩ := h.isSlice
    refine St0 ?_
    refine GL.alloc hT rfl rfl rfl fun b4 w2 hb4 hB4 he => ?_
    have l4 := hB4.lt
    have s2 := he.size
    refine St0 ?_
    by_cases h0 : (ps.length : Int) = 0
    · have hnil : ps = [] := List.eq_nil_of_length_eq_zero (by omega)
      refine St0 ?_
      refine GL.call (vs := []) rfl rfl rfl (refNone_call w2) ?_
      rintro r w3 ⟨rfl, he3⟩
      refine GL.storeVar hT rfl rfl rfl rfl rfl (Dig.len _) (Dig.one _) (hB4.ext he3) (by rw [Dig.len]; rfl) fun w5 hc5 hB5 => ?_
      refine St0 ?_
      exact G.retN rfl rfl hT rfl rfl rfl rfl hB5.all (Dig.len _) ⟨by rw [hnil, rootAt_nil], hc5.below (by omega) (he.trans he3)⟩
    by_cases h1 : (ps.length : Int) = 1
    · obtain ⟨x, hx⟩ : ∃ x, ps = [x] := List.length_eq_one_iff.1 (by omega)
      obtain ⟨b, o, c', u, hv, hu', hA⟩ := (h.ext he).elem (i := 0) (x := x) (by rw [hx]; rfl)
      cases hv
      have hP := pairAt hA
      rw [show o + 0 * 33 = o by omega] at hP
      refine St0 ?_
      refine G.quietTail 9 follows (by kernel_rfl) (by kernel_rfl) (by kernel_rfl) (by kernel_rfl) ?_
      refine QSt0 ?_
      (refine GQ.indexSlice (0) 33 (o) hT rfl rfl rfl rfl rfl rfl rfl rfl ?_ ?_ ?_ ?_; (focus omega); (focus omega); (focus omega))
      refine QSt0 ?_
      (refine GQ.indexSlice (0) 33 (o) hT rfl rfl rfl rfl rfl rfl rfl rfl ?_ ?_ ?_ ?_; (focus omega); (focus omega); (focus omega))
      refine QSt1 (hP.2) ?_
      refine GQ.call rfl rfl rfl (fun w' he' => refTwo_call 1 _ _ x.key.1 x.val S S w' (rdKey (hP.1.ext he')) (RdB.ext hu' he') (leaf_len _ (hval x (by rw [hx]; simp)))) ?_
      refine GQ.tail fun w3 he3 => ?_
      refine GL.storeVar hT rfl rfl rfl rfl rfl (Dig.len _) (Dig.one _) (hB4.ext he3) (by rw [Dig.len]; rfl) fun w6 hc6 hB6 => ?_
      refine St0 ?_
      exact G.retN rfl rfl hT rfl rfl rfl rfl hB6.all (Dig.len _) ⟨by rw [hx, rootAt_one]; rfl, hc6.below (by omega) (he.trans he3)⟩
    exfalso
    obtain rfl : d = 256 := by omega
    have := hu.full
    omega
  | succ m ih =>
    intro d v ps S w hm hd h hu h512 hval
    refine call_walk Tryd.func87 (by kernel_rfl) rfl Tryd.ntmps87 rfl ?_
    obtain ⟨p, c, rfl, hc⟩ := h.isSlice
    refine St0 ?_
    refine GL.alloc hT rfl rfl rfl fun b4 w2 hb4 hB4 he => ?_
    have l4 := hB4.lt
    have s2 := he.size
    refine St0 ?_
    by_cases h0 : (ps.length : Int) = 0
    · have hnil : ps = [] := List.eq_nil_of_length_eq_zero (by omega)
      refine St0 ?_
      refine GL.call (vs := []) rfl rfl rfl (refNone_call w2) ?_
      rintro r w3 ⟨rfl, he3⟩
      refine GL.storeVar hT rfl rfl rfl rfl rfl (Dig.len _) (Dig.one _) (hB4.ext he3) (by rw [Dig.len]; rfl) fun w5 hc5 hB5 => ?_
      refine St0 ?_
      exact G.retN rfl rfl hT rfl rfl rfl rfl hB5.all (Dig.len _) ⟨by rw [hnil, rootAt_nil], hc5.below (by omega) (he.trans he3)⟩
    by_cases h1 : (ps.length : Int) = 1
    · obtain ⟨x, hx⟩ : ∃ x, ps = [x] := List.length_eq_one_iff.1 (by omega)
      obtain ⟨b, o, c', u, hv, hu', hA⟩ := (h.ext he).elem (i := 0) (x := x) (by rw [hx]; rfl)
      cases hv
      have hP := pairAt hA
      rw [show o + 0 * 33 = o by omega] at hP
      refine St0 ?_
      refine G.quietTail 9 follows (by kernel_rfl) (by kernel_rfl) (by kernel_rfl) (by kernel_rfl) ?_
      refine QSt0 ?_
      (refine GQ.indexSlice (0) 33 (o) hT rfl rfl rfl rfl rfl rfl rfl rfl ?_ ?_ ?_ ?_; (focus omega); (focus omega); (focus omega))
      refine QSt0 ?_
      (refine GQ.indexSlice (0) 33 (o) hT rfl rfl rfl rfl rfl rfl rfl rfl ?_ ?_ ?_ ?_; (focus omega); (focus omega); (focus omega))
      refine QSt1 (hP.2) ?_
      refine GQ.call rfl rfl rfl (fun w' he' => refTwo_call 1 _ _ x.key.1 x.val S S w' (rdKey (hP.1.ext he')) (RdB.ext hu' he') (leaf_len _ (hval x (by rw [hx]; simp)))) ?_
      refine GQ.tail fun w3 he3 => ?_
      refine GL.storeVar hT rfl rfl rfl rfl rfl (Dig.len _) (Dig.one _) (hB4.ext he3) (by rw [Dig.len]; rfl) fun w6 hc6 hB6 => ?_
      refine St0 ?_
      exact G.retN rfl rfl hT rfl rfl rfl rfl hB6.all (Dig.len _) ⟨by rw [hx, rootAt_one]; rfl, hc6.below (by omega) (he.trans he3)⟩
    have h2 : 2 ≤ ps.length := by omega
    have hd' : d < 256 := by omega
    have hB := w.heap.size
    refine St0 ?_
    refine G.sub (f' := [(7, iv ((0 : Nat) : Int)), (5, .slice none 0 0), (6, .slice none 0 0), (0, .slice p ps.length c), (1, iv d), (4, ptr b4 0)]) (by (repeat (first | exact Fr.sub_nil _ | refine Fr.sub_cons rfl ?_))) ?_
    refine G.rounds (α := Nat) (fun j f w' => j ≤ ps.length ∧ Ext w w' ∧ w2.heap.size ≤ w'.heap.size ∧ Blk w' b4 25 ti25.zero ∧ (∃ ra rb, RowP w2.heap.size S w w' ra ((ps.take j).filter (bitIs d 0)) ∧ RowP w2.heap.size S w w' rb ((ps.take j).filter (bitIs d 1)) ∧ (∀ q, rowOf ra = some q → rowOf rb ≠ some q) ∧
      f = [(7, iv j), (5, ra), (6, rb), (0, .slice p ps.length c), (1, iv d), (4, ptr b4 0)])) (fun j => ps.length - j) ?round 0 ⟨by omega, he, Nat.le_refl _, hB4, _, _, RowP.bare _ _ _ _ none, RowP.bare _ _ _ _ none, (fun q hq => by cases hq), rfl⟩
    clear hB4
    rintro j f w3 ⟨hj, he3, s3, hB4, ra, rb, ha, hb, hne, rfl⟩ again
    have hf0 : ((ps.take j).filter (bitIs d 0)).length ≤ j := Nat.le_trans (List.length_filter_le _ _) (by simp; omega)
    have hf1 : ((ps.take j).filter (bitIs d 1)).length ≤ j := Nat.le_trans (List.length_filter_le _ _) (by simp; omega)
    by_cases hlt : (j : Int) < ps.length
    · obtain ⟨x, hx⟩ : ∃ x, ps[j]? = some x := ⟨_, List.getElem?_eq_getElem (by omega)⟩
      obtain ⟨b, o, c', u, hv', hu', hA⟩ := h.elem hx
      cases hv'
      have hA0 := hA
      replace hA := hA.ext he3
      have ht0 := filter_take (bitIs d 0) hx
      have ht1 := filter_take (bitIs d 1) hx
      have hbl := x.key.bit_lt d
      refine St0 ?_
      (refine GL.indexSlice (j) 33 ((o + j * 33)) hT rfl rfl rfl rfl rfl rfl rfl rfl ?_ ?_ ?_ ?_; (focus omega); (focus omega); (focus omega))
      refine St1 ((pairAt hA).1) ?_
      refine GL.call rfl rfl rfl (refAt_call x.key d hd' w3) ?_
      rintro r w4 ⟨rfl, he4⟩
      have he34 := he3.trans he4
      have s4 := he4.size
      replace hB4 := hB4.ext he4
      replace ha := ha.ext he4
      replace hb := hb.ext he4
      replace hA := hA0.ext he34
      by_cases hbit : x.key.bit d = 0
      · have : ((x.key.bit d : Nat) : Int) = 0 := by omega
        have q0 : bitIs d 0 x = true := by simp [bitIs, hbit]
        have q1 : bitIs d 1 x = false := by simp [bitIs, hbit]
        rw [q0, if_pos rfl] at ht0
        rw [q1] at ht1
        simp only [Bool.false_eq_true, if_false, List.append_nil] at ht1
        refine St0 ?_
        (refine GL.indexSlice (j) 33 ((o + j * 33)) hT rfl rfl rfl rfl rfl rfl rfl rfl ?_ ?_ ?_ ?_; (focus omega); (focus omega); (focus omega))
        refine GL.loadN hT rfl rfl rfl rfl rfl hA (pcell_len _ _) ?_
        refine GL.buildSlice (x.key.cells ++ [u]) hT rfl rfl rfl rfl rfl rfl rfl (fillL_one rfl (pcell_len _ _) (madeLen _ _)) fun b5 w5 hb5 hB5 he5 => ?_
        have s5 := he5.size
        replace hB4 := hB4.ext he5
        replace ha := ha.ext he5
        replace hb := hb.ext he5
        have hsrc : RdF any w5 (.slice (some ⟨b5, 0, none⟩) 1 1) 1 (x.key.cells ++ [u]) := ⟨_, 1, rfl, Nat.le_refl _, .inr ⟨b5, 0, rfl, hB5.all⟩⟩
        obtain ⟨es, hes, hown⟩ := id ha
        refine GL.append hT rfl rfl rfl rfl rfl rfl rfl rfl rfl rfl hown hsrc (pcell_len _ _) (pairOne (RdF.one hu')) (by show (_ + 1) * 56 ≤ _; omega) (by omega) (by omega) fun r' w7 ho hb7 hrow => ?_
        refine St0 ?_
        have he7 : Ext w w7 := hb7.below (fun q hq => by have := hown.row hq; omega) (by omega) (he34.trans he5)
        have s7 := hb7.size
        refine G.sub (by (repeat (first | exact Fr.sub_nil _ | refine Fr.sub_cons rfl ?_))) (again (j + 1) _ _ (by omega) ⟨by omega, he7, by omega, hB4.keep (hb7.block b4 hB4.lt (fun e => by have := hown.row e.symm; omega)), r', rb, ?_, ?_, ?_, rfl⟩)
        · rw [ht0]
          exact ⟨es ++ [x.key.cells ++ [u]], hes.append (.cons ⟨u, rfl, hu'⟩ .nil), by rw [List.length_append, List.flatten_append]; simpa using ho⟩
        · rw [ht1]
          exact hb.but hb7 fun q hq e => hne q e hq
        · intro q hq hq'
          rcases hrow with h1 | ⟨h1, _⟩
          · exact hne q (h1 ▸ hq) hq'
          · rw [h1] at hq
            cases hq
            have := hb.row hq'
            omega
      · have hbit1 : x.key.bit d = 1 := by omega
        have : ¬ ((x.key.bit d : Nat) : Int) = 0 := by omega
        have q0 : bitIs d 0 x = false := by simp [bitIs, hbit]
        have q1 : bitIs d 1 x = true := by simp [bitIs, hbit1]
        rw [q1, if_pos rfl] at ht1
        rw [q0] at ht0
        simp only [Bool.false_eq_true, if_false, List.append_nil] at ht0
        refine St0 ?_
        (refine GL.indexSlice (j) 33 ((o + j * 33)) hT rfl rfl rfl rfl rfl rfl rfl rfl ?_ ?_ ?_ ?_; (focus omega); (focus omega); (focus omega))
        refine GL.loadN hT rfl rfl rfl rfl rfl hA (pcell_len _ _) ?_
        refine GL.buildSlice (x.key.cells ++ [u]) hT rfl rfl rfl rfl rfl rfl rfl (fillL_one rfl (pcell_len _ _) (madeLen _ _)) fun b5 w5 hb5 hB5 he5 => ?_
        have s5 := he5.size
        replace hB4 := hB4.ext he5
        replace ha := ha.ext he5
        replace hb := hb.ext he5
        have hsrc : RdF any w5 (.slice (some ⟨b5, 0, none⟩) 1 1) 1 (x.key.cells ++ [u]) := ⟨_, 1, rfl, Nat.le_refl _, .inr ⟨b5, 0, rfl, hB5.all⟩⟩
        obtain ⟨es, hes, hown⟩ := id hb
        refine GL.append hT rfl rfl rfl rfl rfl rfl rfl rfl rfl rfl hown hsrc (pcell_len _ _) (pairOne (RdF.one hu')) (by show (_ + 1) * 56 ≤ _; omega) (by omega) (by omega) fun r' w7 ho hb7 hrow => ?_
        refine St0 ?_
        have he7 : Ext w w7 := hb7.below (fun q hq => by have := hown.row hq; omega) (by omega) (he34.trans he5)
        have s7 := hb7.size
        refine G.sub (by (repeat (first | exact Fr.sub_nil _ | refine Fr.sub_cons rfl ?_))) (again (j + 1) _ _ (by omega) ⟨by omega, he7, by omega, hB4.keep (hb7.block b4 hB4.lt (fun e => by have := hown.row e.symm; omega)), ra, r', ?_, ?_, ?_, rfl⟩)
        · rw [ht0]
          exact ha.but hb7 fun q hq e => hne q hq e
        · rw [ht1]
          exact ⟨es ++ [x.key.cells ++ [u]], hes.append (.cons ⟨u, rfl, hu'⟩ .nil), by rw [List.length_append, List.flatten_append]; simpa using ho⟩
        · intro q hq hq'
          rcases hrow with h1 | ⟨h1, _⟩
          · exact hne q hq (h1 ▸ hq')
          · rw [h1] at hq'
            cases hq'
            have := ha.row hq
            omega
    · have hjl : j = ps.length := by omega
      rw [List.take_of_length_le (by omega)] at ha hb
      have ed : (d : Int) + 1 = ((d + 1 : Nat) : Int) := by omega
      refine St0 ?_
      rw [ed]
      refine GL.call rfl rfl rfl (ih (d + 1) _ _ any w3 (by omega) (by omega) (ha.rd he3) (hu.filter 0) (Nat.le_trans (List.length_filter_le _ _) h512) (fun x hx => hval x (List.mem_filter.1 hx).1)) ?_
      rintro r w4 ⟨rfl, he4⟩
      replace hB4 := hB4.ext he4
      replace hb := hb.ext he4
      have he34 := he3.trans he4
      refine St0 ?_
      rw [ed]
      refine GL.call rfl rfl rfl (ih (d + 1) _ _ any w4 (by omega) (by omega) (hb.rd he34) (hu.filter 1) (Nat.le_trans (List.length_filter_le _ _) h512) (fun x hx => hval x (List.mem_filter.1 hx).1)) ?_
      rintro r w5 ⟨rfl, he5⟩
      replace hB4 := hB4.ext he5
      have he35 := he34.trans he5
      have z4 := he4.size
      have z5 := he5.size
      refine GL.alloc hT rfl rfl rfl fun b8 w6 hb8 hB8 he6 => ?_
      have l8 := hB8.lt
      replace hB4 := hB4.ext he6
      refine GL.alloc hT rfl rfl rfl fun b9 w7 hb9 hB9 he7 => ?_
      have l9 := hB9.lt
      replace hB4 := hB4.ext he7
      replace hB8 := hB8.ext he7
      have he37 := he35.trans (he6.trans he7)
      have z6 := he6.size
      have z7 := he7.size
      have l44 := hB4.lt
      refine GL.storeVar hT rfl rfl rfl rfl rfl (Dig.len _) (Dig.one _) hB8 (by rw [Dig.len]; rfl) fun w8 hc8 hB8 => ?_
      replace hB9 := hB9.chg hc8 (by omega)
      replace hB4 := hB4.chg hc8 (by omega)
      have he8 : Ext w w8 := hc8.below (by omega) he37
      refine GL.storeVar hT rfl rfl rfl rfl rfl (Dig.len _) (Dig.one _) hB9 (by rw [Dig.len]; rfl) fun w9 hc9 hB9 => ?_
      replace hB8 := hB8.chg hc9 (by omega)
      replace hB4 := hB4.chg hc9 (by omega)
      have he9 : Ext w w9 := hc9.below (by omega) he8
      refine St0 ?_
      refine G.quietTail 3 follows (by kernel_rfl) (by kernel_rfl) (by kernel_rfl) (by kernel_rfl) ?_
      refine QSt0 ?_
      refine GQ.call rfl rfl rfl (fun w' he' => refTwo_call 2 _ _ _ _ _ _ w' (rdKey (hB8.all.ext he')) (rdKey (hB9.all.ext he')) (two_len _ _)) ?_
      refine GQ.tail fun w10 he10 => ?_
      replace hB4 := hB4.ext he10
      refine GL.storeVar hT rfl rfl rfl rfl rfl (Dig.len _) (Dig.one _) hB4 (by rw [Dig.len]; rfl) fun w11 hc11 hB11 => ?_
      refine St0 ?_
      exact G.retN rfl rfl hT rfl rfl rfl rfl hB11.all (Dig.len _) ⟨by rw [rootAt_two hd' h2]; rfl, hc11.below (by omega) (he9.trans he10)⟩
end Go.Proofs.YtefneilaongpbaaDoor
/-
  A map's root: the law's walk.
-/
set_option linter.unusedVariables false
set_option linter.unusedSimpArgs false
set_option maxRecDepth 100000
set_option maxHeartbeats 4000000
namespace Go.Proofs.YtefneilaongpbaaDoor
open Go Go.Bd Go.RowKit
attribute [local irreducible] G GL GQ

theorem MapOk.under {ps : List Pair} (h : MapOk ps) : Under 0 ps := ⟨h.pw, fun x _ y _ j hj => by omega⟩
theorem MapOk.small {ps : List Pair} (h : MapOk ps) : ∀ x ∈ ps, x.val.length ≤ 1000 := fun x hx => by have := valB_le (h.valid x hx); omega
noncomputable def rootE (ps : List Pair) : Dig := if mapB ps then rootAt 0 ps else Dig.zero
theorem pairsRoot_call (v : Value) (ps : List Pair) (S : Where) (w : World) (h : RdP S w v ps) (hK : Kt w) :
    Does Tryd.prog 24 #[v] w fun r w' => r = .tuple #[dv (rootE ps), iv (badE (mapB ps))] ∧ Ext w w' := by
  refine call_walk Tryd.func24 (by kernel_rfl) rfl Tryd.ntmps24 rfl ?_
  refine St0 ?_
  refine GL.alloc hT rfl rfl rfl fun b2 w1 hb2 hB2 he1 => ?_
  have l2 := hB2.lt
  refine St0 ?_
  refine GL.call rfl rfl rfl (pcheck_call _ ps S w1 (h.ext he1)) ?_
  rintro r w2 ⟨rfl, he2⟩
  replace hB2 := hB2.ext he2
  have he := he1.trans he2
  cases hok : mapB ps
  · have e1 : badE false = 8 := rfl
    rw [e1]
    refine St0 ?_
    refine GL.storeVar hT rfl rfl rfl rfl rfl (Dig.len _) (Dig.one _) hB2 (by rw [Dig.len]; rfl) fun w3 hc3 hB3 => ?_
    refine St0 ?_
    exact G.retNt rfl rfl hT rfl rfl rfl rfl rfl hB3.all (Dig.len _) ⟨by rw [rootE, hok]; rfl, hc3.below (by omega) he⟩
  · have hM := mapB_iff.1 hok
    have e1 : badE true = 0 := rfl
    rw [e1]
    refine St0 ?_
    refine GL.call rfl rfl rfl (root_call 256 0 _ ps S w2 rfl (by omega) (h.ext he) hM.under (Nat.le_trans hM.few (by omega)) hM.small (hK.ext he)) ?_
    rintro r w3 ⟨rfl, he3⟩
    replace hB2 := hB2.ext he3
    refine GL.storeVar hT rfl rfl rfl rfl rfl (Dig.len _) (Dig.one _) hB2 (by rw [Dig.len]; rfl) fun w4 hc4 hB4 => ?_
    refine St0 ?_
    exact G.retNt rfl rfl hT rfl rfl rfl rfl rfl hB4.all (Dig.len _) ⟨by rw [rootE, hok]; rfl, hc4.below (by omega) (he.trans he3)⟩
theorem refRoot5_call (v : Value) (ps : List Pair) (S : Where) (w : World) (h : RdP S w v ps) :
    Does Tryd.prog 25 #[v] w fun r w' => r = .tuple #[dv (rootE ps), iv (badE (mapB ps))] ∧ Ext w w' := by
  refine call_walk Tryd.func25 (by kernel_rfl) rfl Tryd.ntmps25 rfl ?_
  refine St0 ?_
  refine GL.alloc hT rfl rfl rfl fun b2 w1 hb2 hB2 he1 => ?_
  have l2 := hB2.lt
  refine St0 ?_
  refine GL.call rfl rfl rfl (refMay5_call _ ps S w1 (h.ext he1)) ?_
  rintro r w2 ⟨rfl, he2⟩
  replace hB2 := hB2.ext he2
  have he := he1.trans he2
  cases hok : mapB ps
  · refine St0 ?_
    refine GL.storeVar hT rfl rfl rfl rfl rfl (Dig.len _) (Dig.one _) hB2 (by rw [Dig.len]; rfl) fun w3 hc3 hB3 => ?_
    refine St0 ?_
    exact G.retNt rfl rfl hT rfl rfl rfl rfl rfl hB3.all (Dig.len _) ⟨by rw [rootE, hok]; rfl, hc3.below (by omega) he⟩
  · have hM := mapB_iff.1 hok
    refine St0 ?_
    refine GL.call rfl rfl rfl (refOf_call 256 0 _ ps S w2 rfl (by omega) (h.ext he) hM.under (Nat.le_trans hM.few (by omega)) hM.small) ?_
    rintro r w3 ⟨rfl, he3⟩
    replace hB2 := hB2.ext he3
    refine GL.storeVar hT rfl rfl rfl rfl rfl (Dig.len _) (Dig.one _) hB2 (by rw [Dig.len]; rfl) fun w4 hc4 hB4 => ?_
    refine St0 ?_
    exact G.retNt rfl rfl hT rfl rfl rfl rfl rfl hB4.all (Dig.len _) ⟨by rw [rootE, hok]; rfl, hc4.below (by omega) (he.trans he3)⟩
theorem lawRoot_call (v : Value) (ps : List Pair) (w : World) (h : RdP any w v ps) (hK : Kt w) :
    Does Tryd.prog 3 #[v] w fun r w' => r = .bool true ∧ Ext w w' := by
  refine call_walk Tryd.func3 (by kernel_rfl) rfl Tryd.ntmps3 rfl ?_
  refine St0 ?_
  refine GL.call rfl rfl rfl (great5_call _ ps 20 any w h (by omega)) ?_
  rintro r w1 ⟨⟨g, rfl, hg⟩, rfl⟩
  cases g
  case true =>
    refine St0 ?_
    exact G.ret1 rfl rfl rfl rfl ⟨rfl, Ext.refl _⟩
  refine St0 ?_
  refine GL.call rfl rfl rfl (pairsRoot_call _ ps any w1 h hK) ?_
  rintro r w2 ⟨rfl, he2⟩
  have hrefl : rootE ps = rootE ps := rfl
  refine St0 ?_
  refine GL.alloc hT rfl rfl rfl fun b3 w3 hb3 hB3 he3 => ?_
  have l3 := hB3.lt
  have s2 := he2.size
  have s3 := he3.size
  refine GL.storeVar hT rfl rfl rfl rfl rfl (Dig.len _) (Dig.one _) hB3 (by rw [Dig.len]; rfl) fun w4 hc4 hB3 => ?_
  have he4 : Ext w1 w4 := hc4.below (by omega) (he2.trans he3)
  refine St0 ?_
  refine GL.call rfl rfl rfl (refRoot5_call _ ps any w4 (h.ext he4)) ?_
  rintro r w5 ⟨rfl, he5⟩
  replace hB3 := hB3.ext he5
  have s4 := he4.size
  have s5 := he5.size
  refine St0 ?_
  refine GL.alloc hT rfl rfl rfl fun b5 w6 hb5 hB5 he6 => ?_
  have l5 := hB5.lt
  have l33 := hB3.lt
  replace hB3 := hB3.ext he6
  refine GL.storeVar hT rfl rfl rfl rfl rfl (Dig.len _) (Dig.one _) hB5 (by rw [Dig.len]; rfl) fun w7 hc7 hB5 => ?_
  replace hB3 := hB3.chg hc7 (by omega)
  have he7 : Ext w1 w7 := hc7.below (by omega) (he4.trans (he5.trans he6))
  refine St2 (hB3.all) (hB5.all) ?_
  exact G.ret1 rfl rfl rfl rfl ⟨rfl, he7⟩
end Go.Proofs.YtefneilaongpbaaDoor
