/-
  Lengths in four bytes; what is digested of tagged parts; the digests: both sides.
-/
import Derived.Test.YtefneilaongpbaaDoorSha2
set_option linter.unusedVariables false
set_option linter.unusedSimpArgs false
set_option maxRecDepth 100000
set_option maxHeartbeats 4000000
namespace Go.Proofs.YtefneilaongpbaaDoor
open Go Go.Bd Go.RowKit
attribute [local irreducible] G GL GQ

/-- The last i bytes of four. -/
def be4At (n : Nat) : Nat → Bytes
  | 0 => [0, 0, 0, 0]
  | 1 => [0, 0, 0, UInt8.ofNat n]
  | 2 => [0, 0, UInt8.ofNat (n / 256), UInt8.ofNat n]
  | 3 => [0, UInt8.ofNat (n / 65536), UInt8.ofNat (n / 256), UInt8.ofNat n]
  | _ => be4 n
theorem be4At_len (n i : Nat) : (be4At n i).length = 4 := by
  rcases i with _ | _ | _ | _ | i <;> rfl
theorem be4At_set (n : Nat) {i : Nat} (h : i < 4) : (be4At n i).set (3 - i) (UInt8.ofNat (n / 256 ^ i)) = be4At n (i + 1) := by
  rcases i with _ | _ | _ | _ | i
  · simp [be4At]
  · simp [be4At]
  · simp [be4At]
  · simp [be4At, be4]
  · omega
theorem made4 : (madeCells ti5.zero.toArray (4 * ti5.size)).toList = bcells [0, 0, 0, 0] := by kernel_rfl
theorem numPut_call (n : Nat) (hn : n < 4294967296) (w : World) : Does Tryd.prog 140 #[nv n, iv 4] w fun r w' => ∃ u, r = .tuple #[u, iv 0] ∧ OwnB w.heap.size w' u (be4 n) ∧ Ext w w' := by
  refine call_walk Tryd.func140 (by kernel_rfl) rfl Tryd.ntmps140 rfl ?_
  refine St0 ?_
  refine GL.shr64 n 32 (by decide) rfl rfl rfl rfl rfl rfl ?_
  have h0 : n / 2 ^ 32 = 0 := Nat.div_eq_of_lt hn
  rw [h0]
  refine St0 ?_
  refine GL.makeSlice (k := 4) (c := 4) hT rfl rfl rfl rfl rfl rfl rfl rfl rfl (by omega) (by decide) (by omega) fun b6 w1 hb6 hB6 he1 => ?_
  have l6 := hB6.lt
  rw [made4] at hB6
  refine St0 ?_
  refine G.sub (f' := [(28, iv ((0 : Nat) : Int)), (27, iv 4), (0, nv n), (1, iv 4), (6, .slice (some ⟨b6, 0, none⟩) 4 4)]) (by (repeat (first | exact Fr.sub_nil _ | refine Fr.sub_cons rfl ?_))) ?_
  refine G.rounds (α := Nat) (fun i f w' => i ≤ 4 ∧ Ext w w' ∧ Blk w' b6 5 (bcells (be4At n i)) ∧ f = [(28, iv i), (27, iv 4), (0, nv n), (1, iv 4), (6, .slice (some ⟨b6, 0, none⟩) 4 4)]) (fun i => 4 - i) ?round 0 ⟨by omega, he1, hB6, rfl⟩
  rintro i f w2 ⟨hi, he2, hB, rfl⟩ again
  by_cases hlt : (i : Int) < 4
  · have e3 : (4 : Int) - 1 - (i : Int) = ((3 - i : Nat) : Int) := by omega
    have hset := be4At_set n (i := i) (by omega)
    have hp : (256 : Nat) ^ i = 2 ^ (8 * i) := by rw [show (256 : Nat) = 2 ^ 8 from rfl, ← Nat.pow_mul]
    rw [hp] at hset
    refine St0 ?_
    refine GL.shr64 n (8 * i) (by omega) rfl rfl rfl rfl rfl (by omega) ?_
    refine GL.convN8 hT rfl rfl rfl rfl rfl rfl rfl ?_
    (refine GL.indexSlice ((3 - i)) 1 ((3 - i)) hT rfl rfl rfl rfl rfl rfl rfl rfl ?_ ?_ ?_ ?_; (focus omega); (focus omega); (focus omega))
    refine GL.store1 hT rfl rfl rfl rfl rfl rfl rfl hB (by rw [bcells_length, be4At_len]; omega) fun w3 hc3 hB3 => ?_
    rw [bcells_set, hset] at hB3
    refine St0 ?_
    exact G.sub (by (repeat (first | exact Fr.sub_nil _ | refine Fr.sub_cons rfl ?_))) (again (i + 1) _ _ (by omega) ⟨by omega, hc3.below (by omega) he2, hB3, rfl⟩)
  · obtain rfl : i = 4 := by omega
    refine St0 ?_
    exact G.ret2 rfl rfl rfl rfl rfl ⟨_, rfl, ⟨rfl, .inr ⟨b6, 4, [], rfl, by omega, Nat.le_refl _, by rw [List.append_nil]; exact hB, rfl⟩⟩, he2⟩
theorem refDigits_call (n : Nat) (hn : n < 4294967296) (w : World) : Does Tryd.prog 168 #[nv n, iv 4] w fun r w' => ∃ u c, r = .tuple #[u, .bool c] ∧ OwnB w.heap.size w' u (be4 n) ∧ Ext w w' := by
  refine call_walk Tryd.func168 (by kernel_rfl) rfl Tryd.ntmps168 rfl ?_
  refine St0 ?_
  refine GL.makeSlice (k := 4) (c := 4) hT rfl rfl rfl rfl rfl rfl rfl rfl rfl (by omega) (by decide) (by omega) fun b6 w1 hb6 hB6 he1 => ?_
  have l6 := hB6.lt
  rw [made4] at hB6
  refine St0 ?_
  refine G.sub (f' := [(7, iv (3 - ((0 : Nat) : Int))), (0, nv (n / 256 ^ 0)), (6, .slice (some ⟨b6, 0, none⟩) 4 4)]) (by rw [Nat.pow_zero, Nat.div_one]; (repeat (first | exact Fr.sub_nil _ | refine Fr.sub_cons rfl ?_))) ?_
  refine G.rounds (α := Nat) (fun i f w' => i ≤ 4 ∧ Ext w w' ∧ Blk w' b6 5 (bcells (be4At n i)) ∧ f = [(7, iv (3 - (i : Int))), (0, nv (n / 256 ^ i)), (6, .slice (some ⟨b6, 0, none⟩) 4 4)]) (fun i => 4 - i) ?round 0 ⟨by omega, he1, hB6, rfl⟩
  rintro i f w2 ⟨hi, he2, hB, rfl⟩ again
  by_cases hlt : i < 4
  · have e3 : (3 : Int) - (i : Int) = ((3 - i : Nat) : Int) := by omega
    have hset := be4At_set n (i := i) (by omega)
    have hd : n / 256 ^ i < 18446744073709551616 := Nat.lt_of_le_of_lt (Nat.div_le_self _ _) (by omega)
    refine St0 ?_
    refine GL.rem64 (n / 256 ^ i) 256 (by omega) rfl rfl rfl rfl rfl rfl ?_
    refine GL.convN8 hT rfl rfl rfl rfl rfl rfl rfl ?_
    (refine GL.indexSlice ((3 - i)) 1 ((3 - i)) hT rfl rfl rfl rfl rfl rfl rfl rfl ?_ ?_ ?_ ?_; (focus omega); (focus omega); (focus omega))
    refine GL.store1 hT rfl rfl rfl rfl rfl rfl rfl hB (by rw [bcells_length, be4At_len]; omega) fun w3 hc3 hB3 => ?_
    have eb : UInt8.ofNat (n / 256 ^ i % 256) = UInt8.ofNat (n / 256 ^ i) := by
      apply UInt8.toNat_inj.1
      rw [UInt8.toNat_ofNat', UInt8.toNat_ofNat']
      omega
    rw [eb, bcells_set, hset] at hB3
    refine St0 ?_
    refine GL.quo64 (n / 256 ^ i) 256 (by omega) hd rfl rfl rfl rfl rfl rfl ?_
    rw [Nat.div_div_eq_div_mul, ← Nat.pow_succ]
    refine St0 ?_
    refine G.sub ?_ (again (i + 1) _ _ (by omega) ⟨by omega, hc3.below (by omega) he2, hB3, rfl⟩)
    rw [show (3 : Int) - ((i + 1 : Nat) : Int) = 3 - (i : Int) - 1 by omega]
    (repeat (first | exact Fr.sub_nil _ | refine Fr.sub_cons rfl ?_))
  · obtain rfl : i = 4 := by omega
    have h0 : n / 256 ^ 4 = 0 := Nat.div_eq_of_lt hn
    rw [h0]
    refine St0 ?_
    exact G.ret2 rfl rfl rfl rfl rfl ⟨_, _, rfl, ⟨rfl, .inr ⟨b6, 4, [], rfl, by omega, Nat.le_refl _, by rw [List.append_nil]; exact hB, rfl⟩⟩, he2⟩
/-! what is digested -/
theorem tagB_take (k : UInt8) {ps : List Bytes} {i : Nat} {x : Bytes} (h : ps[i]? = some x) : tagB k (ps.take (i + 1)) = tagB k (ps.take i) ++ (be4 x.length ++ x) := by
  rw [List.take_add_one, h]
  simp [tagB]
theorem tagB_le (k : UInt8) (ps : List Bytes) (i : Nat) : (tagB k (ps.take i)).length ≤ (tagB k ps).length := by
  have e : tagB k ps = tagB k (ps.take i) ++ (ps.drop i).flatMap fun p => be4 p.length ++ p := by
    have : ps = ps.take i ++ ps.drop i := (List.take_append_drop _ _).symm
    unfold tagB
    conv => lhs; rw [this, List.flatMap_append]
    rfl
  rw [e, List.length_append]
  omega
theorem be4_len (n : Nat) : (be4 n).length = 4 := rfl
theorem tagB_part (k : UInt8) {ps : List Bytes} {i : Nat} {x : Bytes} (h : ps[i]? = some x) : (tagB k (ps.take i)).length + 4 + x.length ≤ (tagB k ps).length := by
  have := tagB_le k ps (i + 1)
  rw [tagB_take k h] at this
  simp only [List.length_append, be4_len] at this
  omega
theorem tagBytes_call (k : UInt8) (v : Value) (ps : List Bytes) (S : Where) (w : World) (h : RdBs S w v ps) (hn : ps.length ≤ 1000) (hm : (tagB k ps).length ≤ 4000000000) : Does Tryd.prog 92 #[bv k, v] w fun r w' => OwnB w.heap.size w' r (tagB k ps) ∧ Ext w w' := by
  refine call_walk Tryd.func92 (by kernel_rfl) rfl Tryd.ntmps92 rfl ?_
  obtain ⟨p, c, rfl, hc⟩ := h.isSlice
  refine St0 ?_
  refine GL.buildSlice (bcells [k]) hT rfl rfl rfl rfl rfl rfl rfl (fillL_one rfl rfl (madeLen _ _)) fun b1 w1 hb1 hB1 he1 => ?_
  have s1 := he1.size
  refine St0 ?_
  refine G.sub (f' := [(14, iv ((0 : Nat) : Int)), (13, iv (ps.length : Nat)), (12, .slice p ps.length c), (5, .slice (some ⟨b1, 0, none⟩) 1 1)]) (by (repeat (first | exact Fr.sub_nil _ | refine Fr.sub_cons rfl ?_))) ?_
  refine G.rounds (α := Nat) (fun i f w' => i ≤ ps.length ∧ Ext w w' ∧ ∃ r, OwnB w.heap.size w' r (tagB k (ps.take i)) ∧ f = [(14, iv i), (13, iv (ps.length : Nat)), (12, .slice p ps.length c), (5, r)]) (fun i => ps.length - i) ?round 0 ⟨by omega, he1, _, ⟨rfl, .inr ⟨b1, 1, [], rfl, by omega, Nat.le_refl _, by rw [List.append_nil]; exact hB1, rfl⟩⟩, rfl⟩
  rintro i f w2 ⟨hi, he2, r, ho, rfl⟩ again
  by_cases hlt : (i : Int) < ps.length
  · obtain ⟨x, hx⟩ : ∃ x, ps[i]? = some x := ⟨_, List.getElem?_eq_getElem (by omega)⟩
    obtain ⟨b, o, c', u, hv, hu, hA⟩ := h.elem hx
    cases hv
    obtain ⟨pu, cu, rfl, hcu⟩ := RdF.isSlice hu
    replace hA := hA.ext he2
    have hpart := tagB_part k hx
    have s2 := he2.size
    refine St0 ?_
    (refine GL.indexSlice (i) 1 ((o + i)) hT rfl rfl rfl rfl rfl rfl rfl rfl ?_ ?_ ?_ ?_; (focus omega); (focus omega); (focus omega))
    refine St1 (hA) ?_
    refine GL.convI (x.length : Nat) hT rfl rfl rfl rfl rfl rfl rfl (by rw [wrap_u32, Nat.mod_eq_of_lt (by omega)]) ?_
    refine GL.conv64 x.length hT rfl rfl rfl rfl rfl rfl rfl rfl (by omega) ?_
    refine GL.call rfl rfl rfl (numPut_call x.length (by omega) w2) ?_
    rintro r3 w3 ⟨n4, rfl, hn4, he3⟩
    have s3 := he3.size
    replace ho := ho.ext he3
    refine St0 ?_
    refine GL.append hT rfl rfl rfl rfl rfl rfl rfl rfl rfl rfl ho hn4.fresh (by simp) (bcells_one _) (by show ((tagB k (ps.take i)).length + 4) * 1 ≤ _; omega) (by show (tagB k (ps.take i)).length + 4 ≤ _; omega) (by omega) fun r4 w4 ho4 hb4 hr4 => ?_
    have he4 : Ext w w4 := hb4.below (fun q hq => (ho.row hq).1) (by omega) (he2.trans he3)
    have s4 := hb4.size
    refine St0 ?_
    refine GL.append hT rfl rfl rfl rfl rfl rfl rfl rfl rfl rfl ho4 (RdF.ext hu he4) (by simp) (bcells_one x) (by show ((tagB k (ps.take i)).length + 4 + x.length) * 1 ≤ _; omega) (by show (tagB k (ps.take i)).length + 4 + x.length ≤ _; omega) (by omega) fun r5 w5 ho5 hb5 hr5 => ?_
    have he5 : Ext w w5 := hb5.below (fun q hq => (ho4.row hq).1) (by omega) he4
    refine St0 ?_
    refine G.sub (by (repeat (first | exact Fr.sub_nil _ | refine Fr.sub_cons rfl ?_))) (again (i + 1) _ _ (by omega) ⟨by omega, he5, r5, ?_, rfl⟩)
    unfold OwnB
    rw [tagB_take k hx, ← List.append_assoc, bcells_append, bcells_append, List.length_append, List.length_append]
    exact ho5
  · obtain rfl : i = ps.length := by omega
    rw [List.take_length] at ho
    refine St0 ?_
    exact G.ret1 rfl rfl rfl rfl ⟨ho, he2⟩
theorem refBytes_call (k : UInt8) (v : Value) (ps : List Bytes) (S : Where) (w : World) (h : RdBs S w v ps) (hn : ps.length ≤ 1000) (hm : (tagB k ps).length ≤ 4000000000) : Does Tryd.prog 142 #[bv k, v] w fun r w' => OwnB w.heap.size w' r (tagB k ps) ∧ Ext w w' := by
  refine call_walk Tryd.func142 (by kernel_rfl) rfl Tryd.ntmps142 rfl ?_
  obtain ⟨p, c, rfl, hc⟩ := h.isSlice
  refine St0 ?_
  refine GL.buildSlice (bcells [k]) hT rfl rfl rfl rfl rfl rfl rfl (fillL_one rfl rfl (madeLen _ _)) fun b1 w1 hb1 hB1 he1 => ?_
  have s1 := he1.size
  refine St0 ?_
  refine G.sub (f' := [(6, iv ((0 : Nat) : Int)), (1, .slice p ps.length c), (5, .slice (some ⟨b1, 0, none⟩) 1 1)]) (by (repeat (first | exact Fr.sub_nil _ | refine Fr.sub_cons rfl ?_))) ?_
  refine G.rounds (α := Nat) (fun i f w' => i ≤ ps.length ∧ Ext w w' ∧ ∃ r, OwnB w.heap.size w' r (tagB k (ps.take i)) ∧ f = [(6, iv i), (1, .slice p ps.length c), (5, r)]) (fun i => ps.length - i) ?round 0 ⟨by omega, he1, _, ⟨rfl, .inr ⟨b1, 1, [], rfl, by omega, Nat.le_refl _, by rw [List.append_nil]; exact hB1, rfl⟩⟩, rfl⟩
  rintro i f w2 ⟨hi, he2, r, ho, rfl⟩ again
  by_cases hlt : (i : Int) < ps.length
  · obtain ⟨x, hx⟩ : ∃ x, ps[i]? = some x := ⟨_, List.getElem?_eq_getElem (by omega)⟩
    obtain ⟨b, o, c', u, hv, hu, hA⟩ := h.elem hx
    cases hv
    obtain ⟨pu, cu, rfl, hcu⟩ := RdF.isSlice hu
    have hA0 := hA
    replace hA := hA.ext he2
    have hpart := tagB_part k hx
    have s2 := he2.size
    refine St0 ?_
    (refine GL.indexSlice (i) 1 ((o + i)) hT rfl rfl rfl rfl rfl rfl rfl rfl ?_ ?_ ?_ ?_; (focus omega); (focus omega); (focus omega))
    refine St1 (hA) ?_
    refine GL.conv64 x.length hT rfl rfl rfl rfl rfl rfl rfl rfl (by omega) ?_
    refine GL.rem64 x.length 4294967296 (by omega) rfl rfl rfl rfl rfl rfl ?_
    rw [Nat.mod_eq_of_lt (by omega)]
    refine GL.call rfl rfl rfl (refDigits_call x.length (by omega) w2) ?_
    rintro r3 w3 ⟨n4, c4, rfl, hn4, he3⟩
    have s3 := he3.size
    replace ho := ho.ext he3
    refine St0 ?_
    refine GL.append hT rfl rfl rfl rfl rfl rfl rfl rfl rfl rfl ho hn4.fresh (by simp) (bcells_one _) (by show ((tagB k (ps.take i)).length + 4) * 1 ≤ _; omega) (by show (tagB k (ps.take i)).length + 4 ≤ _; omega) (by omega) fun r4 w4 ho4 hb4 hr4 => ?_
    have he4 : Ext w w4 := hb4.below (fun q hq => (ho.row hq).1) (by omega) (he2.trans he3)
    have s4 := hb4.size
    refine St0 ?_
    (refine GL.indexSlice (i) 1 ((o + i)) hT rfl rfl rfl rfl rfl rfl rfl rfl ?_ ?_ ?_ ?_; (focus omega); (focus omega); (focus omega))
    refine St1 ((hA0.ext he4)) ?_
    refine GL.append hT rfl rfl rfl rfl rfl rfl rfl rfl rfl rfl ho4 (RdF.ext hu he4) (by simp) (bcells_one x) (by show ((tagB k (ps.take i)).length + 4 + x.length) * 1 ≤ _; omega) (by show (tagB k (ps.take i)).length + 4 + x.length ≤ _; omega) (by omega) fun r5 w5 ho5 hb5 hr5 => ?_
    have he5 : Ext w w5 := hb5.below (fun q hq => (ho4.row hq).1) (by omega) he4
    refine St0 ?_
    refine G.sub (by (repeat (first | exact Fr.sub_nil _ | refine Fr.sub_cons rfl ?_))) (again (i + 1) _ _ (by omega) ⟨by omega, he5, r5, ?_, rfl⟩)
    unfold OwnB
    rw [tagB_take k hx, ← List.append_assoc, bcells_append, bcells_append, List.length_append, List.length_append]
    exact ho5
  · obtain rfl : i = ps.length := by omega
    rw [List.take_length] at ho
    refine St0 ?_
    exact G.ret1 rfl rfl rfl rfl ⟨ho, he2⟩
theorem bs1 {S : Where} {w : World} {b : Nat} {T : TypeId} {u : Value} {x : Bytes} (hB : Blk w b T [u]) (h : RdB S w u x) : RdBs any w (.slice (some ⟨b, 0, none⟩) 1 1) [x] :=
  ⟨[[u]], .cons ⟨u, rfl, RdB.imp h fun _ _ _ => trivial⟩ .nil, _, 1, rfl, Nat.le_refl _, .inr ⟨b, 0, rfl, hB.all⟩⟩
theorem bs2 {S S' : Where} {w : World} {b : Nat} {T : TypeId} {u v : Value} {x y : Bytes} (hB : Blk w b T [u, v]) (h : RdB S w u x) (h' : RdB S' w v y) : RdBs any w (.slice (some ⟨b, 0, none⟩) 2 2) [x, y] :=
  ⟨[[u], [v]], .cons ⟨u, rfl, RdB.imp h fun _ _ _ => trivial⟩ (.cons ⟨v, rfl, RdB.imp h' fun _ _ _ => trivial⟩ .nil), _, 2, rfl, Nat.le_refl _, .inr ⟨b, 0, rfl, hB.all⟩⟩
theorem bs0 (w : World) (p : Option Addr) (c : Nat) : RdBs any w (.slice p 0 c) [] := ⟨[], .nil, RdF.nil _ _ _ _⟩
theorem tagOf_call (k : UInt8) (v : Value) (ps : List Bytes) (S : Where) (w : World) (h : RdBs S w v ps) (hn : ps.length ≤ 1000) (hm : (tagB k ps).length ≤ 4000000000) (hK : Kt w) : Does Tryd.prog 36 #[bv k, v] w fun r w' => r = dv (shaD (tagB k ps)) ∧ Ext w w' := by
  refine call_walk Tryd.func36 (by kernel_rfl) rfl Tryd.ntmps36 rfl ?_
  obtain ⟨p, c, rfl, hc⟩ := h.isSlice
  refine St0 ?_
  refine GL.alloc hT rfl rfl rfl fun b4 w1 hb4 hB4 he1 => ?_
  have l4 := hB4.lt
  refine St0 ?_
  refine GL.call rfl rfl rfl (tagBytes_call k _ ps S w1 (h.ext he1) hn hm) ?_
  rintro r w2 ⟨ho, he2⟩
  refine GL.buildSlice [r] hT rfl rfl rfl rfl rfl rfl rfl (fillL_one (RdF.some ho.fresh) rfl (madeLen _ _)) fun b3 w3 hb3 hB3 he3 => ?_
  have he13 := he2.trans he3
  refine GL.call rfl rfl rfl (shaOf_call _ (tagB k ps) any w3 (bs1 hB3 (ho.ext he3).fresh) (by omega) (hK.ext (he1.trans he13))) ?_
  rintro r4 w4 ⟨rfl, he4⟩
  have he14 := he13.trans he4
  replace hB4 := hB4.ext he14
  refine GL.storeVar hT rfl rfl rfl rfl rfl (Dig.len _) (Dig.one _) hB4 rfl fun w5 hc5 hB5 => ?_
  refine St0 ?_
  exact G.retN rfl rfl hT rfl rfl rfl rfl hB5.all (Dig.len _) ⟨rfl, hc5.below (by omega) (he1.trans he14)⟩
theorem tagNone_call (w : World) (hK : Kt w) : Does Tryd.prog 77 #[] w fun r w' => r = dv noneD ∧ Ext w w' := by
  refine call_walk (vs := []) Tryd.func77 (by kernel_rfl) rfl Tryd.ntmps77 rfl ?_
  refine St0 ?_
  refine GL.alloc hT rfl rfl rfl fun b0 w1 hb0 hB0 he1 => ?_
  have l0 := hB0.lt
  refine St0 ?_
  refine GL.call rfl rfl rfl (tagOf_call 0 (.slice none 0 0) [] any w1 (bs0 _ _ _) (by simp) (by decide) (hK.ext he1)) ?_
  rintro r2 w2 ⟨rfl, he2⟩
  replace hB0 := hB0.ext he2
  refine GL.storeVar hT rfl rfl rfl rfl rfl (Dig.len _) (Dig.one _) hB0 rfl fun w3 hc3 hB3 => ?_
  refine St0 ?_
  exact G.retN rfl rfl hT rfl rfl rfl rfl hB3.all (Dig.len _) ⟨rfl, hc3.below (by omega) (he1.trans he2)⟩
theorem refOf3_call (k : UInt8) (v : Value) (ps : List Bytes) (S : Where) (w : World) (h : RdBs S w v ps) (hn : ps.length ≤ 1000) (hm : (tagB k ps).length ≤ 4000000000) : Does Tryd.prog 167 #[bv k, v] w fun r w' => r = dv (shaD (tagB k ps)) ∧ Ext w w' := by
  refine call_walk Tryd.func167 (by kernel_rfl) rfl Tryd.ntmps167 rfl ?_
  obtain ⟨p, c, rfl, hc⟩ := h.isSlice
  refine St0 ?_
  refine GL.alloc hT rfl rfl rfl fun b4 w1 hb4 hB4 he1 => ?_
  have l4 := hB4.lt
  refine St0 ?_
  refine GL.call rfl rfl rfl (refBytes_call k _ ps S w1 (h.ext he1) hn hm) ?_
  rintro r w2 ⟨ho, he2⟩
  refine GL.call rfl rfl rfl (refSum_call _ (tagB k ps) _ w2 ho.fresh (by omega)) ?_
  rintro r3 w3 ⟨rfl, he3⟩
  have he13 := he2.trans he3
  replace hB4 := hB4.ext he13
  refine GL.storeVar hT rfl rfl rfl rfl rfl (Dig.len _) (Dig.one _) hB4 rfl fun w5 hc5 hB5 => ?_
  refine St0 ?_
  exact G.retN rfl rfl hT rfl rfl rfl rfl hB5.all (Dig.len _) ⟨rfl, hc5.below (by omega) (he1.trans he13)⟩
theorem refNone_call (w : World) : Does Tryd.prog 137 #[] w fun r w' => r = dv noneD ∧ Ext w w' := by
  refine call_walk (vs := []) Tryd.func137 (by kernel_rfl) rfl Tryd.ntmps137 rfl ?_
  refine St0 ?_
  refine GL.alloc hT rfl rfl rfl fun b0 w1 hb0 hB0 he1 => ?_
  have l0 := hB0.lt
  refine St0 ?_
  refine GL.call rfl rfl rfl (refOf3_call 0 (.slice none 0 0) [] any w1 (bs0 _ _ _) (by simp) (by decide)) ?_
  rintro r2 w2 ⟨rfl, he2⟩
  replace hB0 := hB0.ext he2
  refine GL.storeVar hT rfl rfl rfl rfl rfl (Dig.len _) (Dig.one _) hB0 rfl fun w3 hc3 hB3 => ?_
  refine St0 ?_
  exact G.retN rfl rfl hT rfl rfl rfl rfl hB3.all (Dig.len _) ⟨rfl, hc3.below (by omega) (he1.trans he2)⟩
theorem refTwo_call (k : UInt8) (u v : Value) (x y : Bytes) (S S' : Where) (w : World) (h : RdB S w u x) (h' : RdB S' w v y) (hm : (tagB k [x, y]).length ≤ 4000000000) : Does Tryd.prog 138 #[bv k, u, v] w fun r w' => r = dv (shaD (tagB k [x, y])) ∧ Ext w w' := by
  refine call_walk Tryd.func138 (by kernel_rfl) rfl Tryd.ntmps138 rfl ?_
  refine St0 ?_
  refine GL.alloc hT rfl rfl rfl fun b6 w1 hb6 hB6 he1 => ?_
  have l6 := hB6.lt
  refine St0 ?_
  refine GL.buildSlice ([u] ++ [v]) hT rfl rfl rfl rfl rfl rfl rfl (fillL_two (RdF.some h) rfl (RdF.some h') rfl (madeLen _ _)) fun b3 w3 hb3 hB3 he3 => ?_
  refine GL.call rfl rfl rfl (refOf3_call k _ [x, y] any w3 (bs2 hB3 (RdB.ext h (he1.trans he3)) (RdB.ext h' (he1.trans he3))) (by simp) hm) ?_
  rintro r4 w4 ⟨rfl, he4⟩
  have he14 := he3.trans he4
  replace hB6 := hB6.ext he14
  refine GL.storeVar hT rfl rfl rfl rfl rfl (Dig.len _) (Dig.one _) hB6 rfl fun w5 hc5 hB5 => ?_
  refine St0 ?_
  exact G.retN rfl rfl hT rfl rfl rfl rfl hB5.all (Dig.len _) ⟨rfl, hc5.below (by omega) (he1.trans he14)⟩
end Go.Proofs.YtefneilaongpbaaDoor
