/-
  sha.Of, of one part.
-/
import Derived.Test.YtefneilaongpbaaDoorSha2
import Derived.Test.YtefneilaongpbaaDoorMem6
set_option linter.unusedVariables false
set_option linter.unusedSimpArgs false
set_option maxRecDepth 100000
set_option maxHeartbeats 8000000
namespace Go.Proofs.YtefneilaongpbaaDoor
open Go Go.Bd Go.RowKit
attribute [local irreducible] G GL GQ

theorem RdBs.isSlice {S : Where} {w : World} {v : Value} {ps : List Bytes} (h : RdBs S w v ps) : ∃ p c, v = .slice p ps.length c ∧ ps.length ≤ c := by
  obtain ⟨es, _, h⟩ := h
  exact h.isSlice
theorem RdBs.elem {S : Where} {w : World} {v : Value} {ps : List Bytes} (h : RdBs S w v ps) {i : Nat} {x : Bytes} (hx : ps[i]? = some x) :
    ∃ b o c u, v = .slice (some ⟨b, o, none⟩) ps.length c ∧ RdB S w u x ∧ At S w b (o + i) [u] := by
  obtain ⟨b, o, c, e, hv, ⟨u, rfl, hu⟩, hA⟩ := RdL.elem 1 bytesC_len h hx (by omega)
  exact ⟨b, o, c, u, hv, hu, by simpa using hA⟩
theorem bcells_drop (l : Bytes) (k : Nat) : (bcells l).drop k = bcells (l.drop k) := by simp only [bcells, List.map_drop]
theorem be8_take (N : Nat) {m : Nat} (h : m < 8) : (be8 N).take (m + 1) = (be8 N).take m ++ [UInt8.ofNat (N / 2 ^ (56 - 8 * m))] := by
  rw [List.take_add_one]
  congr 1
  have e : (256 : Nat) ^ (7 - m) = 2 ^ (56 - 8 * m) := by
    rw [show (256 : Nat) = 2 ^ 8 from rfl, ← Nat.pow_mul]
    congr 1
    omega
  simp [be8, h, e]
theorem stAt_succ (P : Bytes) (j : Nat) : compress (stAt P j) (chunk P j) = stAt P (j + 1) := rfl
theorem shaOf_call (v : Value) (bs : Bytes) (S : Where) (w : World) (h : RdBs S w v [bs]) (hm : bs.length ≤ 4294967296) (hK : Kt w) : Does Tryd.prog 48 #[v] w fun r w' => r = dv (shaD bs) ∧ Ext w w' := by
  refine call_walk Tryd.func48 (by kernel_rfl) rfl Tryd.ntmps48 rfl ?_
  obtain ⟨b, o, c, u, hv0, hu, hA⟩ := h.elem (i := 0) rfl
  have hv1 : v = .slice (some ⟨b, o, none⟩) 1 c := hv0
  subst hv1
  clear hv0
  have hpl := padded_len bs
  have hpm := padded_mod bs
  have hz := zeros_spec bs.length
  have hz64 : zerosN bs.length < 64 := Nat.mod_lt _ (by omega)
  have hlK := At.lt hK
  refine St0 ?_
  refine GL.alloc hT rfl rfl rfl fun b2 w1 hb2 hB2 he1 => ?_
  have s1 := he1.size
  have l2 := hB2.lt
  refine St0 ?_
  refine GL.buildArr (wcells shaInit) hT rfl rfl rfl rfl rfl rfl rfl ?_
  refine GL.alloc hT rfl rfl rfl fun b3 w2 hb3 hB3 he2 => ?_
  have s2 := he2.size
  have l3 := hB3.lt
  replace hB2 := hB2.ext he2
  refine GL.storeVar hT rfl rfl rfl rfl rfl (wcells_len _) (wcells_one _) hB3 rfl fun w3 hc3 hB3 => ?_
  have s3 := hc3.size
  have he3 : Ext w w3 := hc3.below (by omega) (he1.trans he2)
  replace hB2 := hB2.chg hc3 (by omega)
  replace hK := hK.ext he3
  replace hA := hA.ext he3
  replace hu := RdB.ext hu he3
  obtain ⟨pu, cu, hue, hcu⟩ := RdF.isSlice hu
  subst hue
  refine St0 ?_
  refine G.loop ?_
  refine St0 ?_
  (refine GL.indexSlice (0) 1 (o) hT rfl rfl rfl rfl rfl rfl rfl rfl ?_ ?_ ?_ ?_; (focus omega); (focus omega); (focus omega))
  refine St1 (hA) ?_
  refine GL.conv64 bs.length hT rfl rfl rfl rfl rfl rfl rfl rfl (by omega) ?_
  refine GL.add64 0 bs.length (by omega) rfl rfl rfl rfl rfl rfl ?_
  rw [Nat.zero_add]
  refine St0 ?_
  refine GL.append hT rfl rfl rfl rfl rfl rfl rfl rfl rfl rfl (Own.bare w3.heap.size w3 none 1 _) hu (by simp) (bcells_one bs) (by show (0 + bs.length) * 1 ≤ _; omega) (by omega) (Nat.le_refl _) fun r1 w4 ho1 hb1 hr1 => ?_
  have he34 : Ext w3 w4 := hb1.ext
  have s4 := he34.size
  rw [Nat.zero_add, List.nil_append] at ho1
  replace hB2 := hB2.ext he34
  replace hB3 := hB3.ext he34
  replace hK := hK.ext he34
  have he4 := he3.trans he34
  have ho := ho1.o
  have hchunk : ∀ j, 64 * (j + 1) ≤ bs.length → chunk (padded bs) j = (bs.drop (64 * j)).take 64 := fun j hj => chunk_front hj
  refine St0 ?_
  refine G.sub (f' := [(4, r1), (13, iv 0), (12, iv 1), (11, .slice (some ⟨b, o, none⟩) 1 c), (5, nv bs.length), (2, ptr b2 0), (3, ptr b3 0)]) (by (repeat (first | exact Fr.sub_nil _ | refine Fr.sub_cons rfl ?_))) ?_
  refine G.rounds (α := Nat) (fun j f w' => 64 * j ≤ bs.length ∧ Ext w w' ∧ w3.heap.size ≤ w'.heap.size ∧ Kt w' ∧ Blk w' b2 25 ti25.zero ∧ Blk w' b3 138 (wcells (stAt (padded bs) j)) ∧ ∃ r, OwnO w3.heap.size w' r (bs.length - 64 * j) 1 5 (bcells (bs.drop (64 * j))) ∧
    f = [(4, r), (13, iv 0), (12, iv 1), (11, .slice (some ⟨b, o, none⟩) 1 c), (5, nv bs.length), (2, ptr b2 0), (3, ptr b3 0)]) (fun j => bs.length - 64 * j) ?round 0 ⟨by omega, he4, s4, hK, hB2, hB3, r1, by simpa using ho, rfl⟩
  clear hB2 hB3 hK ho ho1 he4 he34 he3 hA hu he2 he1 hb1 hr1 hc3
  rintro j f w5 ⟨hj, he5, s5, hK, hB2, hB3, r, ho, rfl⟩ again
  obtain ⟨pr, cr, rfl, hcr⟩ := ho.shape
  have hsl := stAt_len (padded bs) j
  by_cases hlt : 64 * (j + 1) ≤ bs.length
  · refine St0 ?_
    refine GL.slice 0 64 cr 1 hT rfl rfl rfl rfl rfl rfl rfl rfl ⟨_, _, rfl, rfl⟩ rfl (by simp) (by omega) (by omega) (by omega) ?_
    have hl : (bs.drop (64 * j)).length = bs.length - 64 * j := List.length_drop
    have hrd : RdB (fresh w3.heap.size) w5 (.slice pr (bs.drop (64 * j)).length cr) (bs.drop (64 * j)) := by
      unfold RdB; rw [hl]; exact ho.fresh
    have hcut := RdB.cutB hrd (L := 0) (H := 64) (M := cr) (by omega) (by omega) (by omega)
    rw [List.drop_zero, Nat.sub_zero, ← hchunk j hlt] at hcut
    refine GL.call rfl rfl rfl (block_call b3 _ (stAt (padded bs) j) (chunk (padded bs) j) _ w5 hB3 hsl hcut (by rw [hchunk j hlt, List.length_take, hl]; omega) hK) ?_
    rintro r6 w6 ⟨rfl, hB6, hb6⟩
    have s6 := hb6.size
    have he6 : Ext w w6 := hb6.below (fun q hq => by cases hq; omega) (by omega) he5
    have ho6 := ho.keep (w' := w6) (fun g hg hgl => hb6.block g hgl (fun e => by cases e; omega))
    rw [stAt_succ] at hB6
    refine St0 ?_
    refine GL.slice 64 (bs.length - 64 * j) cr 1 hT rfl rfl rfl rfl rfl rfl rfl ⟨_, _, rfl, rfl⟩ rfl rfl (by simp) (by omega) (by omega) (by omega) ?_
    have ht := ho6.tail (k := 64) (by omega)
    have en : bs.length - 64 * j - 64 = bs.length - 64 * (j + 1) := by omega
    rw [bcells_drop, List.drop_drop, en] at ht
    rw [en]
    refine St0 ?_
    exact G.sub (by (repeat (first | exact Fr.sub_nil _ | refine Fr.sub_cons rfl ?_))) (again (j + 1) _ _ (by omega) ⟨by omega, he6, by omega, At.keep hK (hb6.block 0 (by omega) (fun e => by cases e; omega)), hB2.keep (hb6.block b2 (by omega) (fun e => by cases e; omega)), hB6, _, ht, rfl⟩)
  clear again
  refine St0 ?_
  refine G.inLoop ?_
  have hq : 64 * j ≤ bs.length ∧ bs.length < 64 * (j + 1) := ⟨hj, by omega⟩
  have hoff : bs.length - 64 * j < 64 := by omega
  generalize hnn : bs.length - 64 * j = nn at ho hcr hoff
  generalize hDD : bs.drop (64 * j) = D at ho
  have hDl : D.length = nn := by rw [← hDD, List.length_drop, hnn]
  refine St0 ?_
  refine GL.buildSlice (bcells [128]) hT rfl rfl rfl rfl rfl rfl rfl (fillL_one rfl rfl (madeLen _ _)) fun b6 w6 hb6 hB6 he6 => ?_
  have s6 := he6.size
  replace hB2 := hB2.ext he6
  replace hB3 := hB3.ext he6
  replace hK := hK.ext he6
  replace ho := ho.ext he6
  refine GL.appendO hT rfl rfl rfl rfl rfl rfl rfl rfl rfl rfl ho (srcByte hB6) rfl (bcells_one _) (by decide) (by show (nn + 1) * 1 ≤ _; omega) (by omega) (by omega) fun r7 w7 ho7 hb7 => ?_
  have lK : 0 < w3.heap.size := by omega
  replace hK : Kt w7 := At.keep hK (hb7.block 0 lK)
  replace hB2 := hB2.keep (hb7.block b2 (by omega))
  replace hB3 := hB3.keep (hb7.block b3 (by omega))
  have s7 := hb7.size
  have he7 : Ext w w7 := Below.trans (he5.trans he6) (Below.mono hb7 (by omega))
  rw [← bcells_append] at ho7
  refine St0 ?_
  refine G.sub (f' := [(4, r7), (5, nv bs.length), (2, ptr b2 0), (3, ptr b3 0)]) (by (repeat (first | exact Fr.sub_nil _ | refine Fr.sub_cons rfl ?_))) ?_
  refine G.rounds (α := Nat) (fun m f w' => m ≤ zerosN bs.length ∧ Ext w w' ∧ w3.heap.size ≤ w'.heap.size ∧ Kt w' ∧ Blk w' b2 25 ti25.zero ∧ Blk w' b3 138 (wcells (stAt (padded bs) j)) ∧ ∃ r, OwnO w3.heap.size w' r (nn + 1 + m) 1 5 (bcells (D ++ [128] ++ List.replicate m 0)) ∧
    f = [(4, r), (5, nv bs.length), (2, ptr b2 0), (3, ptr b3 0)]) (fun m => zerosN bs.length - m) ?zeros 0 ⟨by omega, he7, by omega, hK, hB2, hB3, r7, by simpa using ho7, rfl⟩
  clear hB2 hB3 hK ho ho7 he7 he6 hb7 hB6 he5
  rintro m f w8 ⟨hm8, he8, s8, hK, hB2, hB3, r, ho, rfl⟩ again
  obtain ⟨pr', cr', rfl, hcr'⟩ := ho.shape
  by_cases hltz : m < zerosN bs.length
  · have hne : (nn + 1 + m) % 64 ≠ 56 := by have := hz.2 m hltz; omega
    refine St0 ?_
    refine GL.buildSlice (bcells [0]) hT rfl rfl rfl rfl rfl rfl rfl (fillL_one rfl rfl (madeLen _ _)) fun b9 w9 hb9 hB9 he9 => ?_
    have s9 := he9.size
    replace hB2 := hB2.ext he9
    replace hB3 := hB3.ext he9
    replace hK := hK.ext he9
    replace ho := ho.ext he9
    refine GL.appendO hT rfl rfl rfl rfl rfl rfl rfl rfl rfl rfl ho (srcByte hB9) rfl (bcells_one _) (by decide) (by show (nn + 1 + m + 1) * 1 ≤ _; omega) (by omega) (by omega) fun r10 w10 ho10 hb10 => ?_
    rw [← bcells_append, List.append_assoc (D ++ [128]), show (List.replicate m (0 : UInt8) ++ [0]) = List.replicate (m + 1) 0 by rw [List.replicate_succ']] at ho10
    have s10 := hb10.size
    refine St0 ?_
    exact G.sub (by (repeat (first | exact Fr.sub_nil _ | refine Fr.sub_cons rfl ?_))) (again (m + 1) _ _ (by omega) ⟨by omega, Below.trans (he8.trans he9) (Below.mono hb10 (by omega)), by omega, At.keep hK (hb10.block 0 lK), hB2.keep (hb10.block b2 (by omega)), hB3.keep (hb10.block b3 (by omega)), r10, ho10, rfl⟩)
  clear again
  obtain rfl : m = zerosN bs.length := by omega
  have h56 : (nn + 1 + zerosN bs.length) % 64 = 56 := by have := hz.1; omega
  generalize hN : 8 * bs.length = N
  generalize hDz : D ++ [128] ++ List.replicate (zerosN bs.length) 0 = Dz at ho
  generalize hn2 : nn + 1 + zerosN bs.length = n2 at ho hcr' h56
  have hn2b : n2 ≤ 4294967400 := by omega
  refine St0 ?_
  refine G.sub (f' := [(8, iv (56 - 8 * ((0 : Nat) : Int))), (4, .slice pr' n2 cr'), (5, nv bs.length), (2, ptr b2 0), (3, ptr b3 0)]) (by (repeat (first | exact Fr.sub_nil _ | refine Fr.sub_cons rfl ?_))) ?_
  refine G.rounds (α := Nat) (fun m f w' => m ≤ 8 ∧ Ext w w' ∧ w3.heap.size ≤ w'.heap.size ∧ Kt w' ∧ Blk w' b2 25 ti25.zero ∧ Blk w' b3 138 (wcells (stAt (padded bs) j)) ∧ ∃ r, OwnO w3.heap.size w' r (n2 + m) 1 5 (bcells (Dz ++ (be8 N).take m)) ∧
    f = [(8, iv (56 - 8 * (m : Int))), (4, r), (5, nv bs.length), (2, ptr b2 0), (3, ptr b3 0)]) (fun m => 8 - m) ?lens 0 ⟨by omega, he8, s8, hK, hB2, hB3, _, by simpa using ho, rfl⟩
  clear hB2 hB3 hK ho he8 hcr'
  rintro m f w9 ⟨hm9, he9, s9, hK, hB2, hB3, r, ho, rfl⟩ again
  by_cases hlt8 : m < 8
  · have e56 : (56 : Int) - 8 * (m : Int) = ((56 - 8 * m : Nat) : Int) := by omega
    refine St0 ?_
    refine GL.mul64 8 bs.length (by omega) rfl rfl rfl rfl rfl rfl ?_
    rw [hN]
    refine St0 ?_
    refine GL.shr64 N (56 - 8 * m) (by omega) rfl rfl rfl rfl rfl e56 ?_
    refine GL.convN8 hT rfl rfl rfl rfl rfl rfl rfl ?_
    refine GL.buildSlice (bcells [UInt8.ofNat (N / 2 ^ (56 - 8 * m))]) hT rfl rfl rfl rfl rfl rfl rfl (fillL_one rfl rfl (madeLen _ _)) fun b10 w10 hb10 hB10 he10 => ?_
    have s10 := he10.size
    replace hB2 := hB2.ext he10
    replace hB3 := hB3.ext he10
    replace hK := hK.ext he10
    replace ho := ho.ext he10
    refine GL.appendO hT rfl rfl rfl rfl rfl rfl rfl rfl rfl rfl ho (srcByte hB10) rfl (bcells_one _) (by decide) (by show (n2 + m + 1) * 1 ≤ _; omega) (by omega) (by omega) fun r11 w11 ho11 hb11 => ?_
    rw [← bcells_append, List.append_assoc, ← be8_take N hlt8] at ho11
    have s11 := hb11.size
    refine St0 ?_
    refine G.sub ?_ (again (m + 1) _ _ (by omega) ⟨by omega, Below.trans (he9.trans he10) (Below.mono hb11 (by omega)), by omega, At.keep hK (hb11.block 0 lK), hB2.keep (hb11.block b2 (by omega)), hB3.keep (hb11.block b3 (by omega)), r11, ho11, rfl⟩)
    rw [show (56 : Int) - 8 * ((m + 1 : Nat) : Int) = 56 - 8 * (m : Int) - 8 by omega]
    (repeat (first | exact Fr.sub_nil _ | refine Fr.sub_cons rfl ?_))
  clear again
  obtain rfl : m = 8 := by omega
  have hPd : Dz ++ (be8 N).take 8 = (padded bs).drop (64 * j) := by
    rw [List.take_of_length_le (Nat.le_of_eq (be8_len N)), ← hDz, ← hDD, ← hN]
    unfold padded
    rw [List.drop_append_of_le_length hj]
    simp
  rw [hPd] at ho
  have hfinal : shaB bs = outB (stAt (padded bs) ((padded bs).length / 64)) := rfl
  have hPl : n2 + 8 = (padded bs).length - 64 * j := by rw [hpl]; omega
  rw [hPl] at ho
  generalize hPP : padded bs = P at ho hB3 hpm hfinal hpl
  have hPb : P.length ≤ 4294967400 := by omega
  have hjP : 64 * j ≤ P.length := by omega
  clear hPd hPl h56 hn2b hn2 hDz hDl hDD hnn hcr hq hlt8 hchunk hsl
  refine St0 ?_
  refine G.sub (f' := [(4, r), (2, ptr b2 0), (3, ptr b3 0)]) (by (repeat (first | exact Fr.sub_nil _ | refine Fr.sub_cons rfl ?_))) ?_
  refine G.rounds (α := Nat) (fun j f w' => 64 * j ≤ P.length ∧ Ext w w' ∧ w3.heap.size ≤ w'.heap.size ∧ Kt w' ∧ Blk w' b2 25 ti25.zero ∧ Blk w' b3 138 (wcells (stAt P j)) ∧ ∃ r, OwnO w3.heap.size w' r (P.length - 64 * j) 1 5 (bcells (P.drop (64 * j))) ∧
    f = [(4, r), (2, ptr b2 0), (3, ptr b3 0)]) (fun j => P.length - 64 * j) ?blocks j ⟨hjP, he9, s9, hK, hB2, hB3, r, ho, rfl⟩
  clear hB2 hB3 hK ho he9 s9 hjP hj
  rintro j f w10 ⟨hj, he10, s10, hK, hB2, hB3, r, ho, rfl⟩ again
  obtain ⟨pr2, cr2, rfl, hcr2⟩ := ho.shape
  have hsl := stAt_len P j
  by_cases hlt : 64 * j < P.length
  · refine St0 ?_
    refine GL.slice 0 64 cr2 1 hT rfl rfl rfl rfl rfl rfl rfl rfl ⟨_, _, rfl, rfl⟩ rfl (by simp) (by omega) (by omega) (by omega) ?_
    have hl : (P.drop (64 * j)).length = P.length - 64 * j := List.length_drop
    have hrd : RdB (fresh w3.heap.size) w10 (.slice pr2 (P.drop (64 * j)).length cr2) (P.drop (64 * j)) := by
      unfold RdB; rw [hl]; exact ho.fresh
    have hcut := RdB.cutB hrd (L := 0) (H := 64) (M := cr2) (by omega) (by omega) (by omega)
    rw [List.drop_zero, Nat.sub_zero] at hcut
    refine GL.call rfl rfl rfl (block_call b3 _ (stAt P j) (chunk P j) _ w10 hB3 hsl hcut (by unfold chunk; rw [List.length_take, hl]; omega) hK) ?_
    rintro r6 w11 ⟨rfl, hB11, hb11⟩
    have s11 := hb11.size
    have he11 : Ext w w11 := hb11.below (fun q hq => by cases hq; omega) (by omega) he10
    have ho11 := ho.keep (w' := w11) (fun g hg hgl => hb11.block g hgl (fun e => by cases e; omega))
    rw [stAt_succ] at hB11
    refine St0 ?_
    refine GL.slice 64 (P.length - 64 * j) cr2 1 hT rfl rfl rfl rfl rfl rfl rfl ⟨_, _, rfl, rfl⟩ rfl rfl (by simp) (by omega) (by omega) (by omega) ?_
    have ht := ho11.tail (k := 64) (by omega)
    have en : P.length - 64 * j - 64 = P.length - 64 * (j + 1) := by omega
    rw [bcells_drop, List.drop_drop, en] at ht
    rw [en]
    refine St0 ?_
    exact G.sub (by (repeat (first | exact Fr.sub_nil _ | refine Fr.sub_cons rfl ?_))) (again (j + 1) _ _ (by omega) ⟨by omega, he11, by omega, At.keep hK (hb11.block 0 (by omega) (fun e => by cases e; omega)), hB2.keep (hb11.block b2 (by omega) (fun e => by cases e; omega)), hB11, _, ht, rfl⟩)
  clear again
  have hjq : P.length / 64 = j := by omega
  rw [hjq] at hfinal
  generalize hst : stAt P j = s at hB3 hsl hfinal
  refine St0 ?_
  refine G.sub (f' := [(64, iv ((0 : Nat) : Int)), (2, ptr b2 0), (3, ptr b3 0)]) (by (repeat (first | exact Fr.sub_nil _ | refine Fr.sub_cons rfl ?_))) ?_
  refine G.rounds (α := Nat) (fun i f w' => i ≤ 32 ∧ Ext w w' ∧ Blk w' b2 25 (bcells (digAt s i)) ∧ Blk w' b3 138 (wcells s) ∧ f = [(64, iv i), (2, ptr b2 0), (3, ptr b3 0)]) (fun i => 32 - i) ?out 0 ⟨by omega, he10, hB2, hB3, rfl⟩
  clear hB2 hB3 hK ho he10 s10
  rintro i f w11 ⟨hi, he11, hB2, hB3, rfl⟩ again
  by_cases hlt5 : (i : Int) < 32
  · have hsh := shift_toNat ⟨i % 4, Nat.mod_lt _ (by omega)⟩
    have hsl5 := shift_lt ⟨i % 4, Nat.mod_lt _ (by omega)⟩
    simp only at hsh hsl5
    have hset := digAt_set s (m := i) (by omega)
    refine St0 ?_
    (refine GL.indexArr ((i / 4)) 1 ((i / 4)) hT rfl rfl rfl rfl rfl rfl rfl rfl ?_ ?_ ?_ ?_; (focus omega); (focus omega); (focus omega))
    refine St1 ((hB3.word (j := i / 4) (by omega))) ?_
    refine GL.shr32 (24 - 8 * UInt32.ofNat (i % 4)) hsl5 rfl rfl rfl rfl (by rw [hsh]; omega) ?_
    refine GL.conv32_8 hT rfl rfl rfl rfl rfl rfl rfl ?_
    (refine GL.indexArr (i) 1 (i) hT rfl rfl rfl rfl rfl rfl rfl rfl ?_ ?_ ?_ ?_; (focus omega); (focus omega); (focus omega))
    refine GL.store1 hT rfl rfl rfl rfl rfl rfl rfl hB2 (by rw [bcells_length, digAt_len s (by omega)]; omega) fun w12 hc12 hB12 => ?_
    rw [bcells_set, hset] at hB12
    refine St0 ?_
    exact G.sub (by (repeat (first | exact Fr.sub_nil _ | refine Fr.sub_cons rfl ?_))) (again (i + 1) _ _ (by omega) ⟨by omega, hc12.below (by omega) he11, hB12, hB3.chg hc12 (by omega), rfl⟩)
  · obtain rfl : i = 32 := by omega
    have ed : bcells (digAt s 32) = (shaD bs).cells := by
      show _ = bcells (shaB bs)
      rw [digAt_all, hfinal]
    rw [ed] at hB2
    refine St1 (hB2.all) ?_
    refine GL.storeVar hT rfl rfl rfl rfl rfl (Dig.len _) (Dig.one _) hB2 (Dig.len _) fun w12 hc12 hB12 => ?_
    refine St0 ?_
    exact G.retN rfl rfl hT rfl rfl rfl rfl hB12.all (Dig.len _) ⟨rfl, hc12.below (by omega) he11⟩
end Go.Proofs.YtefneilaongpbaaDoor
