/-
  Parts of what is digested, taken apart again.
-/
import Derived.Test.YtefneilaongpbaaDoorVerD
set_option linter.unusedVariables false
set_option linter.unusedSimpArgs false
set_option maxRecDepth 100000
set_option maxHeartbeats 4000000
namespace Go.Bd
open Go.RowKit Go.Proofs.YtefneilaongpbaaDoor
section
variable {P : Program} {n : Sz} {Q : Act → World → Prop} {f : Fr} {w : World} {ops : Array Oper} {rest : List Oper} {tt : List (Nat × Ti)} {d : Nat} {ty : TypeId} {pos : String} {aft : Array Edge} {g : Option (Nat × Bool)}
theorem run_shl_n64 {P : Program} {t : TypeId} {a b : Operand} {K : IntKind} (w : World) {x n : Nat} (hn : n < 64) (hx : x * 2 ^ n < 18446744073709551616) : (do eqGuard .shl t a b (nv x) (.int K (n : Int)); binOp .shl t (nv x) (.int K (n : Int)) : Sem Value).run P w = .ok (nv (x * 2 ^ n)) w := by
  have h0 : ¬ ((n : Int) < 0) := by omega
  have h1 : min (n : Int).toNat 64 = n := by simp; omega
  have e2 : (x : Int) * 2 ^ n = ((x * 2 ^ n : Nat) : Int) := by
    rw [Int.natCast_mul, Int.natCast_pow]; rfl
  show (Op.shift .shl .u64 (x : Int) K (n : Int)).run P w = _
  unfold Op.shift
  rw [if_neg h0]
  show Result.ok (Value.int .u64 (IntKind.u64.wrap ((x : Int) * 2 ^ min (n : Int).toNat 64))) w = Result.ok (Value.int .u64 ((x * 2 ^ n : Nat) : Int)) w
  rw [h1, e2, wrap_u64, Nat.mod_eq_of_lt hx]
theorem run_or_n64 {P : Program} {t : TypeId} {a b : Operand} (w : World) {x y : Nat} (hx : x < 18446744073709551616) (hy : y < 18446744073709551616) : (do eqGuard .or t a b (nv x) (nv y); binOp .or t (nv x) (nv y) : Sem Value).run P w = .ok (nv (x ||| y)) w := by
  show Result.ok (Value.int .u64 (IntKind.u64.wrap ((BitVec.ofInt 64 (x : Int) ||| BitVec.ofInt 64 (y : Int)).toNat : Int))) w = _
  have e : ∀ z : Nat, BitVec.ofInt 64 (z : Int) = BitVec.ofNat 64 z := fun z => BitVec.ofInt_natCast ..
  rw [e, e, wrap_u64, Nat.mod_eq_of_lt (BitVec.isLt _)]
  simp only [BitVec.toNat_or, BitVec.toNat_ofNat]
  rw [Nat.mod_eq_of_lt hx, Nat.mod_eq_of_lt hy]
theorem GL.shl64 {t t' : TypeId} {x y : Operand} {A' B' : Int} {K : IntKind} (A B : Nat) (hb : B < 64) (hx64 : A * 2 ^ B < 18446744073709551616) (hw : want ops f g = some true) (hlt : Nat.blt d n.size = true) (hx : ev f x = some (.int .u64 A')) (hy : ev f y = some (.int K B')) (ha : A' = (A : Int)) (hbb : B' = (B : Int))
    (h : GL P n Q ops rest ((d, nv (A * 2 ^ B)) :: f) w) : GL P n Q ops (⟨some d, .binOp .shl t x y t', ty, pos, aft, g⟩ :: rest) f w := by
  subst ha hbb
  exact GL.bin hw hlt hx hy (fun w => run_shl_n64 w hb hx64) h
theorem GL.or64 {t t' : TypeId} {x y : Operand} {A' B' : Int} (A B : Nat) (hx64 : A < 18446744073709551616) (hy64 : B < 18446744073709551616) (hw : want ops f g = some true) (hlt : Nat.blt d n.size = true) (hx : ev f x = some (.int .u64 A')) (hy : ev f y = some (.int .u64 B')) (ha : A' = (A : Int)) (hbb : B' = (B : Int))
    (h : GL P n Q ops rest ((d, nv (A ||| B)) :: f) w) : GL P n Q ops (⟨some d, .binOp .or t x y t', ty, pos, aft, g⟩ :: rest) f w := by
  subst ha hbb
  exact GL.bin hw hlt hx hy (fun w => run_or_n64 w hx64 hy64) h
end
end Go.Bd
namespace Go.Proofs.YtefneilaongpbaaDoor
open Go Go.Bd Go.RowKit
attribute [local irreducible] G GL GQ GS shaD

/-- The number that the first bytes tell. -/
def num4 : Bytes → Nat → Nat
  | [], a => a
  | b :: bs, a => num4 bs (a * 256 + b.toNat)
theorem num4_take {l : Bytes} {i : Nat} {b : UInt8} (h : l[i]? = some b) (a : Nat) : num4 (l.take (i + 1)) a = num4 (l.take i) a * 256 + b.toNat := by
  induction l generalizing i a with
  | nil => simp at h
  | cons c l ih =>
    cases i with
    | zero => simp only [List.getElem?_cons_zero, Option.some.injEq] at h; subst h; simp [num4]
    | succ i => simp only [List.getElem?_cons_succ] at h; simp only [List.take_succ_cons, num4]; exact ih h _
theorem num4_lt {l : Bytes} : ∀ (i : Nat), i ≤ l.length → num4 (l.take i) 0 < 256 ^ i
  | 0, _ => by simp [num4]
  | i + 1, h => by
    have hb : l[i]? = some (l[i]'(by omega)) := List.getElem?_eq_getElem (by omega)
    rw [num4_take hb]
    have := num4_lt (l := l) i (by omega)
    have h2 := (l[i]'(by omega)).toNat_lt
    rw [Nat.pow_succ]
    omega
theorem num4_be {n : Nat} (h : n < 4294967296) : num4 (be4 n) 0 = n := by
  simp only [be4, num4, UInt8.toNat_ofNat']
  omega
theorem or_low (a b : Nat) (h : b < 256) : a * 2 ^ 8 ||| b = a * 256 + b := by
  have := Nat.shiftLeft_add_eq_or_of_lt (a := a) (b := b) (i := 8) h
  rw [Nat.shiftLeft_eq] at this
  omega
theorem take_call (v : Value) (n : Nat) (rest : Bytes) (S : Where) (w : World) (h : RdB S w v (be4 n ++ rest)) (hn : n < 4294967296) (hl : rest.length ≤ 4000000000) :
    Does Tryd.prog 156 #[v, iv 4] w fun r w' => ∃ u, r = .tuple #[nv n, u, iv 0] ∧ OwnB w.heap.size w' u rest ∧ Ext w w' := by
  refine call_walk Tryd.func156 (by kernel_rfl) rfl Tryd.ntmps156 rfl ?_
  obtain ⟨p, c, rfl, hc⟩ := RdF.isSlice h
  have hlen : (be4 n ++ rest).length = 4 + rest.length := by rw [List.length_append]; rfl
  have hcut : RdB S w (.slice (cutP p 0 4 1) (4 - 0) (4 - 0)) (be4 n) := by
    have := RdB.cutB h (L := 0) (H := 4) (M := 4) (by omega) (by omega) (by omega)
    have e : ((be4 n ++ rest).drop 0).take (4 - 0) = be4 n := by simp [be4]
    rw [e] at this
    exact this
  have hcut2 : ∀ M, (be4 n ++ rest).length ≤ M → RdB S w (.slice (cutP p 4 M 1) ((be4 n ++ rest).length - 4) (M - 4)) rest := fun M hM => by
    have := RdB.cutB h (L := 4) (H := (be4 n ++ rest).length) (M := M) (by omega) (Nat.le_refl _) hM
    have e : ((be4 n ++ rest).drop 4).take ((be4 n ++ rest).length - 4) = rest := by simp [be4]
    rw [e] at this
    exact this
  clear h
  rw [hlen] at hc hcut2 ⊢
  refine St0 ?_
  refine GL.slice 0 4 4 1 hT rfl rfl rfl rfl rfl rfl rfl rfl ⟨_, _, rfl, rfl⟩ ⟨_, _, rfl, rfl⟩ (by simp) (by omega) (by omega) (by omega) ?_
  refine St0 ?_
  refine G.sub (f' := [(26, iv ((0 : Nat) : Int)), (25, iv 4), (24, .slice (cutP p 0 4 1) (4 - 0) (4 - 0)), (4, nv (num4 ((be4 n).take 0) 0)), (0, .slice p (4 + rest.length) c), (1, iv 4)]) (by (repeat (first | exact Fr.sub_nil _ | refine Fr.sub_cons rfl ?_))) ?_
  refine G.rounds (α := Nat) (fun i f w' => i ≤ 4 ∧ w' = w ∧ f = [(26, iv i), (25, iv 4), (24, .slice (cutP p 0 4 1) (4 - 0) (4 - 0)), (4, nv (num4 ((be4 n).take i) 0)), (0, .slice p (4 + rest.length) c), (1, iv 4)]) (fun i => 4 - i) ?round 0 ⟨by omega, rfl, rfl⟩
  rintro i f w2 ⟨hi, rfl, rfl⟩ again
  by_cases hlt : (i : Int) < 4
  · have hi4 : i < (be4 n).length := by show i < 4; omega
    have hb := getD_at hi4
    obtain ⟨bb, ob, cb, hvb, hAb⟩ := RdB.elem hcut hi4
    have hnx := num4_take hb 0
    generalize (be4 n).getD i 0 = b at *
    have hlt4 := num4_lt (l := be4 n) i (by show i ≤ 4; omega)
    have hp : (256 : Nat) ^ i ≤ 256 ^ 3 := Nat.pow_le_pow_right (by omega) (by omega)
    have hbl := b.toNat_lt
    generalize num4 ((be4 n).take i) 0 = m at *
    rw [hvb]
    refine St0 ?_
    (refine GL.indexSlice (i) 1 ((ob + i)) hT rfl rfl rfl rfl rfl rfl rfl rfl ?_ ?_ ?_ ?_; (focus omega); (focus omega); (focus omega))
    refine St1 (hAb) ?_
    refine GL.shl64 m 8 (by omega) (by omega) rfl rfl rfl rfl rfl rfl ?_
    refine St0 ?_
    refine GL.conv64 b.toNat hT rfl rfl rfl rfl rfl rfl rfl rfl (by omega) ?_
    refine GL.or64 (m * 2 ^ 8) b.toNat (by omega) (by omega) rfl rfl rfl rfl rfl rfl ?_
    rw [or_low m b.toNat hbl, ← hnx]
    refine St0 ?_
    rw [← hvb]
    exact G.sub (by (repeat (first | exact Fr.sub_nil _ | refine Fr.sub_cons rfl ?_))) (again (i + 1) _ _ (by omega) ⟨by omega, rfl, rfl⟩)
  · obtain rfl : i = 4 := by omega
    rw [show (be4 n).take 4 = be4 n from rfl, num4_be hn]
    refine St0 ?_
    refine GL.slice 4 (4 + rest.length) c 1 hT rfl rfl rfl rfl rfl rfl rfl ⟨_, _, rfl, rfl⟩ rfl rfl (by simp) (by omega) (by omega) (by omega) ?_
    refine GL.call rfl rfl rfl (cloneB_call _ rest S _ (hcut2 c (by omega)) (by omega)) ?_
    rintro r w3 ⟨ho, he3⟩
    refine St0 ?_
    exact G.ret3 rfl rfl rfl rfl rfl rfl ⟨_, rfl, ho, he3⟩

/-! the parts, one by one -/
/-- A part: bytes in a block of bytes of one's own. -/
def PartAt (U : Nat) (w : World) (u : Value) (x : Bytes) : Prop := ∃ p c, u = .slice p x.length c ∧ x.length ≤ c ∧ (x = [] ∨ ∃ g off cs, p = some ⟨g, off, none⟩ ∧ U ≤ g ∧ Blk w g 5 cs ∧ (cs.drop off).take x.length = bcells x)
theorem PartAt.own {B U : Nat} {w : World} {u : Value} {x : Bytes} (h : OwnB B w u x) (hU : U ≤ B) : PartAt U w u x := by
  obtain ⟨hl, h⟩ := h
  rcases h with ⟨h0, p, rfl⟩ | ⟨g, cap, rest, rfl, hB, hn, hblk, hr⟩
  · exact ⟨p, 0, by rw [h0], by omega, .inl (List.eq_nil_of_length_eq_zero h0)⟩
  · exact ⟨_, _, rfl, hn, .inr ⟨g, 0, _, rfl, by omega, hblk, by rw [List.drop_zero, List.take_left' (by simp)]⟩⟩
theorem PartAt.rd {U : Nat} {w : World} {u : Value} {x : Bytes} (h : PartAt U w u x) : RdB any w u x := by
  obtain ⟨p, c, hv, hc, h⟩ := h
  refine ⟨p, c, hv, hc, ?_⟩
  rcases h with rfl | ⟨g, off, cs, hp, _, hB, hcs⟩
  · exact .inl rfl
  · refine .inr ⟨g, off, hp, cs.toArray, _, _, hB, trivial, fun j v hj => ?_⟩
    rw [← hcs, List.getElem?_take] at hj
    split at hj
    · rw [List.getElem?_drop] at hj; rw [List.getElem?_toArray]; exact hj
    · cases hj
theorem PartAt.cut {U : Nat} {w : World} {p : Option Addr} {c : Nat} {x : Bytes} (h : PartAt U w (.slice p x.length c) x) {L H M : Nat} (h1 : L ≤ H) (h2 : H ≤ x.length) (h3 : H ≤ M) : PartAt U w (.slice (cutP p L M 1) (H - L) (M - L)) ((x.drop L).take (H - L)) := by
  have el : ((x.drop L).take (H - L)).length = H - L := by simp; omega
  refine ⟨_, _, by rw [el], by rw [el]; omega, ?_⟩
  by_cases h0 : H - L = 0
  · exact .inl (List.eq_nil_of_length_eq_zero (by rw [el, h0]))
  obtain ⟨p', c', hv, hc, h⟩ := h
  cases hv
  rcases h with rfl | ⟨g, off, cs, rfl, hU, hB, hcs⟩
  · simp at h2; omega
  · refine .inr ⟨g, off + L * 1, cs, cutP_some (by omega), hU, hB, ?_⟩
    rw [el]
    have e : bcells ((x.drop L).take (H - L)) = ((bcells x).drop L).take (H - L) := by simp [bcells, List.map_drop, List.map_take]
    rw [e, ← hcs]
    apply List.ext_getElem?
    intro j
    simp only [List.getElem?_take, List.getElem?_drop]
    by_cases hj : j < H - L
    · rw [if_pos hj, if_pos hj, if_pos (by omega)]
      congr 1; omega
    · rw [if_neg hj, if_neg hj]
theorem PartAt.ext {U : Nat} {w w' : World} {u : Value} {x : Bytes} (h : PartAt U w u x) (he : Ext w w') : PartAt U w' u x := by
  obtain ⟨p, c, hv, hc, h⟩ := h
  exact ⟨p, c, hv, hc, h.imp id fun ⟨g, off, cs, hp, hU, hB, hcs⟩ => ⟨g, off, cs, hp, hU, hB.ext he, hcs⟩⟩
theorem PartAt.chg {U b : Nat} {w w' : World} {u : Value} {x : Bytes} (h : PartAt U w u x) (hc : Chg b w w') (hb : b < U) : PartAt U w' u x := by
  obtain ⟨p, c, hv, hcc, h⟩ := h
  exact ⟨p, c, hv, hcc, h.imp id fun ⟨g, off, cs, hp, hU, hB, hcs⟩ => ⟨g, off, cs, hp, hU, hB.chg hc (by omega), hcs⟩⟩
def KeepB (U b : Nat) (w w' : World) : Prop := w'.heap[b]? = w.heap[b]? ∧ w.heap.size ≤ w'.heap.size ∧ ∀ k T vs, U ≤ k → Nat.beq 32 T = false → Blk w k T vs → Blk w' k T vs
theorem PartAt.keep {U b : Nat} {w w' : World} {u : Value} {x : Bytes} (h : PartAt U w u x) (hk : KeepB U b w w') : PartAt U w' u x := by
  obtain ⟨p, c, hv, hc, h⟩ := h
  exact ⟨p, c, hv, hc, h.imp id fun ⟨g, off, cs, hp, hU, hB, hcs⟩ => ⟨g, off, cs, hp, hU, hk.2.2 g _ _ hU rfl hB, hcs⟩⟩
def flatP (ps : List Bytes) : Bytes := ps.flatMap fun p => be4 p.length ++ p
theorem flatP_drop {ps : List Bytes} {i : Nat} {x : Bytes} (h : ps[i]? = some x) : flatP (ps.drop i) = be4 x.length ++ (x ++ flatP (ps.drop (i + 1))) := by
  obtain ⟨hlt, rfl⟩ := List.getElem?_eq_some_iff.1 h
  rw [List.drop_eq_getElem_cons hlt]
  simp only [flatP, List.flatMap_cons, List.append_assoc]
theorem flatP_le (ps : List Bytes) (i : Nat) : (flatP (ps.drop i)).length ≤ (flatP ps).length := by
  have : flatP ps = flatP (ps.take i) ++ flatP (ps.drop i) := by
    unfold flatP
    rw [← List.flatMap_append, List.take_append_drop]
  rw [this, List.length_append]; omega
theorem each1_call (l b1 : Nat) (v0 : Value) (ps : List Bytes) (I : Nat → World → Prop) (w : World) (hB1 : Blk w b1 32 [v0]) (hv0 : RdB any w v0 (flatP ps)) (hps : ∀ p ∈ ps, p.length ≤ 4096) (hl : (flatP ps).length ≤ 4000000000) (hI0 : I 0 w)
    (hI : ∀ i w' w'', I i w' → Ext w' w'' → I i w'') (hI1 : ∀ i w' w'', I i w' → Chg b1 w' w'' → I i w'')
    (hy : ∀ i w' u x, ps[i]? = some x → PartAt w.heap.size w' u x → w.heap.size ≤ w'.heap.size → I i w' → YieldC Tryd.prog l [u, iv 0] w' (fun r w'' => r = .bool true ∧ I (i + 1) w'' ∧ KeepB w.heap.size b1 w' w'')) :
    Does Tryd.prog 154 #[yieldv l, ptr b1 0] w fun r w' => I ps.length w' := by
  refine call_walk Tryd.func154 (by kernel_rfl) rfl Tryd.ntmps154 rfl ?_
  have lb1 := hB1.lt
  refine St0 ?_
  refine GL.box (vs := [yieldv l]) rfl rfl rfl rfl fun b2 w1 hb2 hB2 he1 => ?_
  have s1 := he1.size
  refine St0 ?_
  refine G.sub (f' := [(3, .func (.func 155) #[] #[ptr b2 0]), (2, ptr b2 0), (1, ptr b1 0)]) (by (repeat (first | exact Fr.sub_nil _ | refine Fr.sub_cons rfl ?_))) ?_
  refine G.rounds (α := Nat) (fun i f w' => i ≤ ps.length ∧ I i w' ∧ w.heap.size ≤ w'.heap.size ∧ (∃ T, Nat.beq 32 T = false ∧ Blk w' b2 T [yieldv l]) ∧ (∃ v, Blk w' b1 32 [v] ∧ RdB any w' v (flatP (ps.drop i))) ∧ f = [(3, .func (.func 155) #[] #[ptr b2 0]), (2, ptr b2 0), (1, ptr b1 0)]) (fun i => ps.length - i) ?round 0 ⟨by omega, hI 0 w w1 hI0 he1, s1, ⟨_, rfl, hB2⟩, ⟨v0, hB1.ext he1, by rw [List.drop_zero]; exact RdB.ext hv0 he1⟩, rfl⟩
  clear hB1 hB2 hv0 he1 hI0
  rintro i f w2 ⟨hi, hIi, s2, ⟨T2, hT2, hB2⟩, ⟨v, hB1, hv⟩, rfl⟩ again
  have lb2 := hB2.lt
  obtain ⟨p, c, rfl, hc⟩ := RdF.isSlice hv
  have hle := flatP_le ps i
  by_cases hlt : i < ps.length
  · obtain ⟨x, hx⟩ : ∃ x, ps[i]? = some x := ⟨_, List.getElem?_eq_getElem hlt⟩
    have hx4 := hps x (List.mem_of_getElem? hx)
    have hfl := flatP_drop hx
    have hlen : (flatP (ps.drop i)).length = 4 + (x ++ flatP (ps.drop (i + 1))).length := by rw [hfl, List.length_append]; rfl
    have hlen2 : (x ++ flatP (ps.drop (i + 1))).length = x.length + (flatP (ps.drop (i + 1))).length := List.length_append
    rw [hfl] at hv
    have hv' : RdB any w2 (.slice p (flatP (ps.drop i)).length c) (be4 x.length ++ (x ++ flatP (ps.drop (i + 1)))) := by rw [hfl]; exact hv
    refine St1 (hB1.all) ?_
    refine GL.call rfl rfl rfl (take_call _ x.length (x ++ flatP (ps.drop (i + 1))) any w2 hv' (by omega) (by omega)) ?_
    rintro r w3 ⟨u, rfl, hu, he3⟩
    have s3 := he3.size
    have hpu := PartAt.own hu s2
    obtain ⟨pu, cu, rfl⟩ := hu.shape
    generalize hM : (x ++ flatP (ps.drop (i + 1))).length = M at *
    have hcu : M ≤ cu := by obtain ⟨p', c', hv', hc', _⟩ := hpu; cases hv'; omega
    refine St0 ?_
    refine GL.conv64 M hT rfl rfl rfl rfl rfl rfl rfl rfl (by omega) ?_
    replace hB1 := hB1.ext he3
    replace hB2 := hB2.ext he3
    refine St0 ?_
    refine G.quietTail 5 follows (by kernel_rfl) (by kernel_rfl) (by kernel_rfl) (by kernel_rfl) ?_
    refine QSt1 (hB2.all) ?_
    refine GQ.slice 0 x.length x.length 1 hT rfl rfl rfl rfl rfl rfl rfl rfl ⟨_, _, rfl, rfl⟩ ⟨_, _, rfl, rfl⟩ (by simp) (by omega) (by omega) (by omega) ?_
    refine GQ.tail fun w4 he4 => ?_
    have s4 := he4.size
    have hpu4 := hpu.ext he4
    have hpx : PartAt w.heap.size w4 (.slice (cutP pu 0 x.length 1) (x.length - 0) (x.length - 0)) x := by
      have := PartAt.cut (x := x ++ flatP (ps.drop (i + 1))) (c := cu) (by rw [hM]; exact hpu4) (L := 0) (H := x.length) (M := x.length) (by omega) (by omega) (by omega)
      rw [List.drop_zero, Nat.sub_zero, List.take_left] at this
      exact this
    refine GL.yieldc rfl rfl rfl rfl (hy i w4 _ x hx hpx (by omega) (hI _ _ _ (hI _ _ _ hIi he3) he4)) ?_
    rintro r w5 ⟨rfl, hI5, hk5⟩
    have s5 := hk5.2.1
    replace hB1 := hB1.ext he4
    replace hB2 := hB2.ext he4
    replace hB2 := hk5.2.2 _ _ _ (by omega) hT2 hB2
    replace hB1 := hB1.keep hk5.1
    have hpr : PartAt w.heap.size w5 (.slice (cutP pu x.length cu 1) (M - x.length) (cu - x.length)) (flatP (ps.drop (i + 1))) := by
      have := PartAt.cut (x := x ++ flatP (ps.drop (i + 1))) (c := cu) (by rw [hM]; exact hpu4.keep hk5) (L := x.length) (H := M) (M := cu) (by omega) (by omega) (by omega)
      rw [List.drop_left, List.take_of_length_le (by omega)] at this
      exact this
    refine St0 ?_
    refine GL.slice x.length M cu 1 hT rfl rfl rfl rfl rfl rfl rfl ⟨_, _, rfl, rfl⟩ rfl rfl (by simp) (by omega) (by omega) (by omega) ?_
    refine GL.store1 hT rfl rfl rfl rfl rfl rfl rfl hB1 (by show 0 < 1; omega) fun w6 hc6 hB6 => ?_
    have s6 := hc6.size
    refine St0 ?_
    exact G.sub (by (repeat (first | exact Fr.sub_nil _ | refine Fr.sub_cons rfl ?_))) (again (i + 1) _ _ (by omega) ⟨by omega, hI1 _ _ _ hI5 hc6, by omega, ⟨T2, hT2, hB2.chg hc6 (by omega)⟩, ⟨_, hB6, (hpr.chg hc6 lb1).rd⟩, rfl⟩)
  · obtain rfl : i = ps.length := by omega
    rw [List.drop_length] at hB1
    rw [show (flatP ([] : List Bytes)).length = 0 from rfl] at hB1
    refine St1 (hB1.all) ?_
    exact G.end0 rfl rfl rfl hIi

theorem each_call (p : Option Addr) (m c : Nat) (w : World) :
    Does Tryd.prog 110 #[.slice p m c] w fun r w' => r = .func (.func 154) #[] #[ptr w.heap.size 0] ∧ Blk w' w.heap.size 32 [.slice p m c] ∧ Ext w w' := by
  refine call_walk Tryd.func110 (by kernel_rfl) rfl Tryd.ntmps110 rfl ?_
  refine St0 ?_
  refine GL.box (vs := [.slice p m c]) rfl rfl rfl rfl fun b2 w1 hb2 hB2 he1 => ?_
  subst hb2
  refine St0 ?_
  exact G.ret1 rfl rfl rfl rfl ⟨rfl, hB2, he1⟩
structure PS (w w5 w' : World) (b2 b3 b4 : Nat) (ps : List Bytes) : Prop where
  below : Below w.heap.size w w'
  size : w5.heap.size ≤ w'.heap.size
  z2 : Blk w' b2 5 ti5.zero
  z4 : Blk w' b4 26 ti26.zero
  row : ∃ o us, Blk w' b3 38 [o] ∧ All2 (PartAt w5.heap.size w') us ps ∧ Own w5.heap.size w' o ps.length 1 32 us
theorem PS.ext {w w5 w' w'' : World} {b2 b3 b4 : Nat} {ps : List Bytes} (h : PS w w5 w' b2 b3 b4 ps) (he : Ext w' w'') : PS w w5 w'' b2 b3 b4 ps := by
  obtain ⟨h1, h2, h3, h4, o, us, h5, h6, h7⟩ := h
  have := he.size
  exact ⟨Below.trans h1 (Below.mono he h1.size), by omega, h3.ext he, h4.ext he, o, us, h5.ext he, h6.imp fun _ _ h => h.ext he, h7.ext he⟩
theorem PS.chg {w w5 w' w'' : World} {b2 b3 b4 b : Nat} {ps : List Bytes} (h : PS w w5 w' b2 b3 b4 ps) (hc : Chg b w' w'') (hw : w.heap.size ≤ b) (hb : b < w5.heap.size) (n2 : b2 ≠ b) (n3 : b3 ≠ b) (n4 : b4 ≠ b) : PS w w5 w'' b2 b3 b4 ps := by
  obtain ⟨h1, h2, h3, h4, o, us, h5, h6, h7⟩ := h
  have := hc.size
  exact ⟨hc.below hw h1, by omega, h3.chg hc n2, h4.chg hc n4, o, us, h5.chg hc n3, h6.imp fun _ _ h => h.chg hc hb, h7.keep (fun g hg _ => hc.block g (by have := (h7.row hg).1; omega)) (by decide)⟩
theorem PartAt.but {U B : Nat} {w w' : World} {u v : Value} {x : Bytes} {n sz : Nat} {cs : List Value} (h : PartAt U w u x) (ho : Own B w v n sz 32 cs) (hb : But (rowOf v) w w') : PartAt U w' u x := by
  obtain ⟨p, c, hv, hc, h⟩ := h
  exact ⟨p, c, hv, hc, h.imp id fun ⟨g, off, cs, hp, hU, hB, hcs⟩ => ⟨g, off, cs, hp, hU, hB.keep (hb.block g hB.lt (fun e => own_ne ho hB rfl e.symm)), hcs⟩⟩
theorem parts_rd {U : Nat} {w w' : World} {us : List Value} {ps : List Bytes} (h : All2 (PartAt U w) us ps) (hk : ∀ q, U ≤ q → w'.heap[q]? = w.heap[q]?) : All2 (BytesC any w') (us.map fun u => [u]) ps := by
  induction h with
  | nil => exact .nil
  | cons h _ ih =>
    refine .cons ⟨_, rfl, PartAt.rd (U := U) ?_⟩ ih
    obtain ⟨p, c, hv, hc, h⟩ := h
    exact ⟨p, c, hv, hc, h.imp id fun ⟨g, off, cs, hp, hU, hB, hcs⟩ => ⟨g, off, cs, hp, hU, hB.keep (hk g hU), hcs⟩⟩
theorem tagB_cons (k : UInt8) (ps : List Bytes) : tagB k ps = k :: flatP ps := rfl
theorem parts_call (k : UInt8) (ps : List Bytes) (v : Value) (S : Where) (w : World) (h : RdB S w v (tagB k ps)) (hps : ∀ p ∈ ps, p.length ≤ 4096) (hl : (flatP ps).length ≤ 4000000000) (hn : ps.length ≤ 1000) :
    Does Tryd.prog 50 #[v] w fun r w' => ∃ vp, r = .tuple #[bv k, vp, iv 0] ∧ RdBs any w' vp ps ∧ Ext w w' := by
  refine call_walk Tryd.func50 (by kernel_rfl) rfl Tryd.ntmps50 rfl ?_
  obtain ⟨p, c, rfl, hc⟩ := RdF.isSlice h
  have hlen : (tagB k ps).length = (flatP ps).length + 1 := by rw [tagB_cons, List.length_cons]
  have hcut : RdB S w (.slice (cutP p 1 c 1) ((tagB k ps).length - 1) (c - 1)) (flatP ps) := by
    have := RdB.cutB h (L := 1) (H := (tagB k ps).length) (M := c) (by omega) (Nat.le_refl _) hc
    rw [List.take_of_length_le (by rw [List.length_drop]; exact Nat.le_refl _)] at this
    exact this
  obtain ⟨bk, ok, ck, hvk, hAk⟩ := RdB.elem h (i := 0) (by omega)
  have hk0 : (tagB k ps).getD 0 0 = k := rfl
  rw [hk0] at hAk
  cases hvk
  refine St0 ?_
  refine GL.alloc hT rfl rfl rfl fun b2 w1 hb2 hB2 he1 => ?_
  refine GL.alloc hT rfl rfl rfl fun b3 w2 hb3 hB3 he2 => ?_
  refine GL.alloc hT rfl rfl rfl fun b4 w3 hb4 hB4 he3 => ?_
  have l2 := hB2.lt
  have l3 := hB3.lt
  have l4 := hB4.lt
  replace hB2 := hB2.ext he2
  replace hB2 := hB2.ext he3
  replace hB3 := hB3.ext he3
  have e3 := he1.trans (he2.trans he3)
  have s1 := he1.size
  refine St0 ?_
  refine GL.slice 1 (tagB k ps).length c 1 hT rfl rfl rfl rfl rfl rfl rfl ⟨_, _, rfl, rfl⟩ rfl rfl (by simp) (by omega) (by omega) (by omega) ?_
  refine GL.call rfl rfl rfl (each_call _ _ _ w3) ?_
  rintro r w4 ⟨rfl, hBB, he4⟩
  have lB := hBB.lt
  replace hB2 := hB2.ext he4
  replace hB3 := hB3.ext he4
  replace hB4 := hB4.ext he4
  have e4 := e3.trans he4
  have s3 := e3.size
  have s4 := he4.size
  generalize hbb : w3.heap.size = bb at *
  have hcut4 := RdB.ext hcut e4
  refine St0 ?_
  refine G.rangeFunc (Θ := fun L _ w' => ∃ w5, PS w w5 w' b2 b3 b4 ps ∧ L.At w' .ready none ∧ NoDefers w' L.r ∧ L.l < w5.heap.size ∧ L.r < w5.heap.size) rfl rfl ?hit ?hk
  case hit =>
    intro L w5 hD hps' has hbo hr hl' he5 hLat hnd
    have lL := hLat.lt
    have lr := hnd.lt
    have s5 := he5.size
    refine (each1_call L.l bb _ ps (fun i w' => PS w w5 w' b2 b3 b4 (ps.take i) ∧ L.At w' .ready none ∧ NoDefers w' L.r) w5 (hBB.ext he5) ((RdB.ext hcut4 he5).imp fun _ _ _ => trivial) hps hl ⟨⟨Below.trans e4 (Below.mono he5 e4.size), Nat.le_refl _, hB2.ext he5, hB4.ext he5, _, [], hB3.ext he5, .nil, Own.bare _ _ none 1 _⟩, hLat, hnd⟩
      (fun i w' w'' ⟨h1, h2, h3⟩ he => ⟨h1.ext he, h2.ext he, h3.ext he⟩) (fun i w' w'' ⟨h1, h2, h3⟩ hc => ⟨h1.chg hc (by omega) (by omega) (by omega) (by omega) (by omega), h2.chg hc (by omega), h3.chg hc (by omega)⟩) ?_).mono fun r w' ⟨h1, h2, h3⟩ => ⟨w5, by rw [List.take_length] at h1; exact h1, h2, h3, lL, lr⟩
    intro i w6 u x hx hpx s6 ⟨hPS, hL6, hn6⟩
    have lL6 := hL6.lt
    refine Lo.yield (L := L) hL6 hD ?_ ?_ ?_
    · rw [hps']; rfl
    · rw [hps']; rfl
    rw [hps', has, hbo]
    refine St0 ?_
    refine G.beginRound rfl hL6 fun w7 hc7 hL7 => ?_
    have hPS7 := hPS.chg hc7 (by omega) (by omega) (by omega) (by omega) (by omega)
    have hn7 := hn6.chg hc7 (by omega)
    have hpx7 := hpx.chg hc7 (by omega)
    have s7 := hc7.size
    obtain ⟨o, us, hBo, hus, hown⟩ := hPS7.row
    have hli : (ps.take i).length = i := by
      have := (List.getElem?_eq_some_iff.1 hx).1
      rw [List.length_take]; omega
    rw [hli] at hown
    have hin : i < ps.length := (List.getElem?_eq_some_iff.1 hx).1
    obtain ⟨pu, cu, rfl, hcu, hpxx⟩ := id hpx7
    refine St1 (hBo.all) ?_
    refine GL.buildSlice [.slice pu x.length cu] hT rfl rfl rfl rfl rfl rfl rfl (fillL_one rfl rfl (madeLen _ _)) fun b20 w8 hb20 hB20 he8 => ?_
    have s8 := he8.size
    refine GL.append hT rfl rfl rfl rfl rfl rfl rfl rfl rfl rfl (hown.ext he8) (S := any) (news := [.slice pu x.length cu]) ⟨_, 1, rfl, Nat.le_refl _, .inr ⟨b20, 0, rfl, hB20.all⟩⟩ rfl (by intro u hu; simp at hu; subst hu; rfl) (by show (i + 1) * 24 ≤ _; omega) (by omega) (by omega) fun r' w9 ho9 hb9 hr9 => ?_
    have hPS8 := hPS7.ext he8
    have hrow := fun q hq => (hown.ext he8).row (k := q) hq
    have s9 := hb9.size
    have hBo9 := (hBo.ext he8).keep (hb9.block b3 (hBo.ext he8).lt (fun e => by have := (hrow b3 e.symm).1; omega))
    obtain ⟨p', c', rfl⟩ := ho9.shape
    refine GL.store1 hT rfl rfl rfl rfl rfl rfl rfl hBo9 (by show 0 < 1; omega) fun w10 hc10 hBo10 => ?_
    have s10 := hc10.size
    have lL7 := hL7.lt
    have hL10 : L.At w10 .busy none := ((hL7.ext he8).keep (hb9.block L.l (by omega) (fun e => by have := (hrow _ e.symm).1; omega))).chg hc10 (by omega)
    have hn10 : NoDefers w10 L.r := NoDefers.chg (w' := w10) (show NoDefers w9 L.r from (hb9.block L.r (by omega) (fun e => by have := (hrow _ e.symm).1; omega)).trans (hn7.ext he8)) hc10 (by omega)
    refine St0 ?_
    refine G.roundEnd (L := L) rfl hL10 fun w11 hc11 hL11 => ⟨rfl, ⟨?_, hL11, hn10.chg hc11 (by omega)⟩, ?_⟩
    · have hU5 : w.heap.size ≤ w5.heap.size := by omega
      have hrow' : ∀ q, rowOf o = some q → w5.heap.size ≤ q := fun q hq => (hrow q hq).1
      refine ⟨hc11.below (by omega) (hc10.below (by omega) (hb9.below (fun q hq => by have := hrow' q hq; omega) (by omega) hPS8.below)), by have := hc11.size; omega, ?_, ?_, _, us ++ [.slice pu x.length cu], hBo10.chg hc11 (by omega), ?_, ?_⟩
      · exact ((hPS8.z2.keep (hb9.block b2 hPS8.z2.lt (fun e => by have := hrow' b2 e.symm; omega))).chg hc10 (by omega)).chg hc11 (by omega)
      · exact ((hPS8.z4.keep (hb9.block b4 hPS8.z4.lt (fun e => by have := hrow' b4 e.symm; omega))).chg hc10 (by omega)).chg hc11 (by omega)
      · rw [List.take_add_one, hx]
        exact (All2.append hus (.cons hpx7 .nil)).imp fun u y h => (((h.ext he8).but (hown.ext he8) hb9).chg hc10 (by omega)).chg hc11 (by omega)
      · rw [List.length_take, Nat.min_eq_left (by omega)]
        exact (ho9.keep (fun g hg _ => hc10.block g (by have := (ho9.row hg).1; omega)) (by decide)).keep (fun g hg _ => hc11.block g (by have := (ho9.row hg).1; omega)) (by decide)
    · have hrow' : ∀ q, rowOf o = some q → w5.heap.size ≤ q := fun q hq => (hrow q hq).1
      refine ⟨?_, by have := hc11.size; omega, fun k T vs hk hT hBk => ?_⟩
      · rw [hc11.block bb (by omega), hc10.block bb (by omega), hb9.block bb (by omega) (fun e => by have := hrow' bb e.symm; omega), he8.block bb (by omega), hc7.block bb (by omega)]
      · have hB8 := (hBk.chg hc7 (by omega)).ext he8
        exact ((hB8.keep (hb9.block k hB8.lt (fun e => own_ne (hown.ext he8) hB8 hT e.symm))).chg hc10 (by omega)).chg hc11 (by omega)
  case hk =>
    rintro L v w6 hr hl' ⟨w5, hPS, hLat, hnd, lL, lr⟩
    refine ⟨.ready, none, hLat, by simp, fun w7 hc7 => ?_⟩
    have hPS7 := hPS.chg hc7 (by omega) lL (by omega) (by omega) (by omega)
    have hnd7 := hnd.chg hc7 (by omega)
    obtain ⟨hbel, hsz, hz2, hz4, o, us, hBo, hus, hown⟩ := hPS7
    obtain ⟨po, co, rfl⟩ := hown.shape
    have hA7 := At.keep hAk (w' := w7) (hbel.block bk (by obtain ⟨c', T', fr', h1, _⟩ := hAk; exact (Array.getElem?_eq_some_iff.1 h1).1))
    refine St0 ?_
    refine G.drawWt 6 4 5 [0, 0, 0, 5, 3, 4] [(0, .slice (some ⟨bk, ok, none⟩) (tagB k ps).length c), (2, ptr b2 0), (3, ptr b3 0), (4, ptr b4 0)] (fun i v => match i with
      | 0 => Value.slice (some ⟨bk, ok, none⟩) (tagB k ps).length c = v | 1 => ptr bk ok = v | 2 => bv k = v | 3 => Value.slice po ps.length co = v | _ => True) follows (by kernel_rfl) (by kernel_rfl) (by (repeat (first | exact Fr.sub_nil _ | refine Fr.sub_cons rfl ?_))) ?_
    intro w8 he8
    have hz2' := hz2.ext he8
    have hz4' := hz4.ext he8
    have hBo' := hBo.ext he8
    have n23 : b3 ≠ b2 := by omega
    have hBo1 : Blk (World.put w8 b2 0 [bv k]) b3 38 _ := hBo'.put n23
    refine ⟨World.put w8 b2 0 [bv k], World.put (World.put w8 b2 0 [bv k]) b3 0 [.slice po ps.length co], ⟨?_, ?_, ?_, ⟨?_, ?_⟩, ?_, ?_, trivial⟩, ?_⟩
    · refine St0 ?_
      exact GL.val rfl rfl
    · rintro v rfl
      (refine GL.indexSlice (0) 1 (ok) hT rfl rfl rfl rfl rfl rfl rfl rfl ?_ ?_ ?_ ?_; (focus omega); (focus omega); (focus omega))
      exact GL.val rfl rfl
    · rintro v rfl
      refine St1 (hA7.ext he8) ?_
      exact GL.val rfl rfl
    · refine St1 (hBo'.all) ?_
      exact GL.val rfl rfl
    · refine St1 (hBo1.all) ?_
      exact GL.val rfl rfl
    · rintro v rfl
      refine GL.storeX (vs := [bv k]) hT rfl rfl rfl rfl rfl rfl (by intro u hu; simp at hu; subst hu; rfl) hz2' (by show 0 + 1 ≤ 1; omega) ?_
      exact GL.stop (by (repeat (first | exact Fr.sub_nil _ | refine Fr.sub_cons rfl ?_)))
    · rintro v rfl
      refine GL.storeX (vs := [.slice po ps.length co]) hT rfl rfl rfl rfl rfl rfl (by intro u hu; simp at hu; subst hu; rfl) hBo1 (by show 0 + 1 ≤ 1; omega) ?_
      exact GL.stop (by (repeat (first | exact Fr.sub_nil _ | refine Fr.sub_cons rfl ?_)))
    have hC2 : Blk (World.put (World.put w8 b2 0 [bv k]) b3 0 [.slice po ps.length co]) b2 5 [bv k] := (blk_put (o := 0) (vs := [bv k]) hz2').put (fun e => n23 e.symm)
    have hC3 : Blk (World.put (World.put w8 b2 0 [bv k]) b3 0 [.slice po ps.length co]) b3 38 [.slice po ps.length co] := blk_put (o := 0) (vs := [.slice po ps.length co]) hBo1
    have hC4 : Blk (World.put (World.put w8 b2 0 [bv k]) b3 0 [.slice po ps.length co]) b4 26 ti26.zero := (hz4'.put (by omega)).put (by omega)
    have hbel9 : Below w.heap.size w (World.put (World.put w8 b2 0 [bv k]) b3 0 [.slice po ps.length co]) := below_put (below_put (Below.trans hbel (Below.mono he8 hbel.size)) (by omega)) (by omega)
    have hk9 : ∀ q, q ≠ b2 → q ≠ b3 → (World.put (World.put w8 b2 0 [bv k]) b3 0 [.slice po ps.length co]).heap[q]? = w8.heap[q]? := fun q h1 h2 => (heap_put_other h2).trans (heap_put_other h1)
    generalize World.put (World.put w8 b2 0 [bv k]) b3 0 [.slice po ps.length co] = w9 at *
    refine GL.store1 hT rfl rfl rfl rfl rfl rfl rfl hC4 (by show 0 < 1; omega) fun w10 hc10 hC4 => ?_
    replace hC2 := hC2.chg hc10 (by omega)
    replace hC3 := hC3.chg hc10 (by omega)
    have hnd10 : NoDefers w10 L.r := NoDefers.chg (show NoDefers w9 L.r from (hk9 L.r (by omega) (by omega)).trans (hnd7.ext he8)) hc10 (by omega)
    refine St0 ?_
    refine G.ret_coll rfl rfl hnd10 (fun a' w11 ha hc => run_result3c hT rfl rfl rfl rfl rfl rfl rfl rfl rfl rfl (hC2.chg hc (by omega)).all (hC3.chg hc (by omega)).all (hC4.chg hc (by omega)).all a' ha) fun w11 hc11 => ⟨_, rfl, ?_, hc11.below (by omega) (hc10.below (by omega) hbel9)⟩
    have hkk : ∀ q, w5.heap.size ≤ q → w11.heap[q]? = w8.heap[q]? := fun q h => ((hc11.block q (by omega)).trans (hc10.block q (by omega))).trans (hk9 q (by omega) (by omega))
    refine ⟨us.map fun u => [u], ?_, ?_⟩
    · exact parts_rd (hus.imp fun u x h => h.ext he8) hkk
    · rw [singles]
      exact (RdF.keep (hown.ext he8).fresh (w' := w11) fun b fr h => hkk b h.1).imp fun _ _ _ => trivial
end Go.Proofs.YtefneilaongpbaaDoor
