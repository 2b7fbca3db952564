import Derived.Test.YtefneilaongpbaaDoorData
import Derived.Test.YtefneilaongpbaaDoorKeys
/-
  path.Bit, pairs.value.
-/
set_option linter.unusedVariables false
namespace Go.Proofs.YtefneilaongpbaaDoor
open Go Go.Bd
attribute [local irreducible] G GL GQ

theorem run_and1_u8 (x : Nat) (hx : x < 256) (w : World) {P : Program} {t : TypeId} {a b : Operand} : (do eqGuard .and t a b (.int .u8 (x : Int)) (.int .u8 1); binOp .and t (.int .u8 (x : Int)) (.int .u8 1) : Sem Value).run P w = .ok (.int .u8 ((x % 2 : Nat) : Int)) w := by
  have e : IntKind.u8.wrap ((BitVec.ofInt IntKind.u8.bits (x : Int) &&& BitVec.ofInt IntKind.u8.bits 1).toNat : Int) = ((x % 2 : Nat) : Int) := by
    have : ∀ y : Fin 256, IntKind.u8.wrap ((BitVec.ofInt IntKind.u8.bits (y.1 : Int) &&& BitVec.ofInt IntKind.u8.bits 1).toNat : Int) = ((y.1 % 2 : Nat) : Int) := by decide +kernel
    exact this ⟨x, hx⟩
  show Result.ok (Value.int .u8 (IntKind.u8.wrap ((BitVec.ofInt IntKind.u8.bits (x : Int) &&& BitVec.ofInt IntKind.u8.bits 1).toNat : Int))) w = _
  rw [e]
theorem run_shr_u8 (x s : Nat) (hs : s ≤ 8) (w : World) {P : Program} {t : TypeId} {a b : Operand} : (do eqGuard .shr t a b (.int .u8 (x : Int)) (.int .i64 (s : Int)); binOp .shr t (.int .u8 (x : Int)) (.int .i64 (s : Int)) : Sem Value).run P w = .ok (.int .u8 ((x / 2 ^ s : Nat) : Int)) w := by
  have e : min s IntKind.u8.bits = s := by simp [IntKind.bits]; omega
  have e2 : (x : Int).fdiv (2 ^ s) = ((x / 2 ^ s : Nat) : Int) := by
    rw [Int.fdiv_eq_ediv_of_nonneg _ (by exact Int.le_of_lt (Int.pow_pos (by omega)))]
    simp
  simp only [eqGuard, binOp, Op.shift, Sem.run_bind]
  simp [e, show ¬ ((s : Int) < 0) by omega, e2]

theorem GL.shr_u8 {P : Program} {n : Sz} {Q : Act → World → Prop} {f : Fr} {w : World} {ops : Array Oper} {rest : List Oper} {d : Nat} {ty : TypeId} {pos : String} {aft : Array Edge} {g : Option (Nat × Bool)} (s : Nat)
    {t t' : TypeId} {x y : Operand} {X : Nat} {A : Int} (hw : want ops f g = some true) (hlt : Nat.blt d n.size = true) (hx : ev f x = some (.int .u8 (X : Int))) (hy : ev f y = some (iv A)) (hA : A = (s : Int)) (h8 : s ≤ 8)
    (h : GL P n Q ops rest ((d, .int .u8 ((X / 2 ^ s : Nat) : Int)) :: f) w) : GL P n Q ops (⟨some d, .binOp .shr t x y t', ty, pos, aft, g⟩ :: rest) f w :=
  GL.bin hw hlt hx (by rw [hy, hA]) (fun w => run_shr_u8 X s h8 w) h
theorem GL.and1_u8 {P : Program} {n : Sz} {Q : Act → World → Prop} {f : Fr} {w : World} {ops : Array Oper} {rest : List Oper} {d : Nat} {ty : TypeId} {pos : String} {aft : Array Edge} {g : Option (Nat × Bool)}
    {t t' : TypeId} {x y : Operand} {X : Nat} (hw : want ops f g = some true) (hlt : Nat.blt d n.size = true) (hx : ev f x = some (.int .u8 (X : Int))) (hy : ev f y = some (.int .u8 1)) (h8 : X < 256)
    (h : GL P n Q ops rest ((d, .int .u8 ((X % 2 : Nat) : Int)) :: f) w) : GL P n Q ops (⟨some d, .binOp .and t x y t', ty, pos, aft, g⟩ :: rest) f w :=
  GL.bin hw hlt hx hy (fun w => run_and1_u8 X h8 w) h

theorem bit_call (k : Dig) (i : Nat) (hi : i < 256) (w : World) : Does Tryd.prog 91 #[dv k, iv i] w (fun v w' => v = .tuple #[.int .u8 (k.bit i : Nat), iv 0] ∧ Ext w w') := by
  refine call_walk Tryd.func91 (by kernel_rfl) rfl Tryd.ntmps91 rfl ?_
  refine St0 ?_
  refine GL.box rfl rfl rfl rfl fun b w1 hb hB he => ?_
  refine St0 ?_
  (refine GL.indexArr ((i / 8)) 1 ((i / 8)) hT rfl rfl rfl rfl rfl rfl rfl rfl ?_ ?_ ?_ ?_; (focus omega); (focus omega); (focus omega))
  refine GL.load1 hT rfl rfl rfl rfl rfl (hB.one (k.cell_at (i / 8) (by omega))) ?_
  refine St0 ?_
  refine GL.shr_u8 (7 - i % 8) rfl rfl rfl rfl (by omega) (by omega) ?_
  refine GL.and1_u8 rfl rfl rfl rfl (Nat.lt_of_le_of_lt (Nat.div_le_self _ _) (k.at (i / 8)).toNat_lt) ?_
  refine St0 ?_
  refine G.ret2 rfl rfl rfl rfl rfl ⟨rfl, he⟩

theorem bit_call_bad (k : Dig) (i : Int) (hi : i < 0 ∨ 256 ≤ i) (w : World) : Does Tryd.prog 91 #[dv k, iv i] w (fun v w' => v = .tuple #[.int .u8 0, iv 2] ∧ Ext w w') := by
  refine call_walk Tryd.func91 (by kernel_rfl) rfl Tryd.ntmps91 rfl ?_
  refine St0 ?_
  refine GL.box rfl rfl rfl rfl fun b w1 hb hB he => ?_
  by_cases h : i < 0
  all_goals
    refine St0 ?_
    exact G.ret2 rfl rfl rfl rfl rfl ⟨rfl, he⟩

/-- Bytes that may be a value. -/
def valB (n : Nat) : Bool := decide (0 < n) && decide (n ≤ 64)
theorem value_call (p : Option Addr) (m c : Nat) (w : World) : Does Tryd.prog 113 #[.slice p m c] w (fun v w' => v = .bool (valB m) ∧ w' = w) := by
  refine call_walk Tryd.func113 (by kernel_rfl) rfl Tryd.ntmps113 rfl ?_
  by_cases h1 : (0 : Int) < m
  · by_cases h2 : (m : Int) ≤ 64
    · refine St0 ?_
      exact G.ret1 rfl rfl rfl rfl ⟨by simp [valB]; omega, rfl⟩
    · refine St0 ?_
      exact G.ret1 rfl rfl rfl rfl ⟨by simp [valB]; omega, rfl⟩
  · refine St0 ?_
    exact G.ret1 rfl rfl rfl rfl ⟨by simp [valB]; omega, rfl⟩
end Go.Proofs.YtefneilaongpbaaDoor
/-
  path.apart, Ahead, Shared.
-/
set_option linter.unusedVariables false
namespace Go.Proofs.YtefneilaongpbaaDoor
open Go Go.Bd
attribute [local irreducible] G GL GQ

theorem wrap_u8 {z : Int} (h0 : 0 ≤ z) (h1 : z < 256) : IntKind.u8.wrap z = z := by
  simp only [IntKind.wrap, IntKind.signed, IntKind.bits]
  simp
  omega
theorem run_xor_u8 (x y : UInt8) (w : World) {P : Program} {t : TypeId} {a b : Operand} : (do eqGuard .xor t a b (bv x) (bv y); binOp .xor t (bv x) (bv y) : Sem Value).run P w = .ok (bv (x ^^^ y)) w := by
  have e : IntKind.u8.wrap ((BitVec.ofInt 8 (x.toNat : Int) ^^^ BitVec.ofInt 8 (y.toNat : Int)).toNat : Int) = ((x ^^^ y).toNat : Int) := by
    have h1 : BitVec.ofInt 8 (x.toNat : Int) = x.toBitVec := by simp [BitVec.ofInt_natCast]
    have h2 : BitVec.ofInt 8 (y.toNat : Int) = y.toBitVec := by simp [BitVec.ofInt_natCast]
    rw [h1, h2]
    have h4 := (x ^^^ y).toNat_lt
    have h3 : ((x.toBitVec ^^^ y.toBitVec).toNat : Int) = ((x ^^^ y).toNat : Int) := by rw [← UInt8.toBitVec_xor]; rfl
    rw [h3]
    exact wrap_u8 (by omega) (by omega)
  show Result.ok (Value.int .u8 (IntKind.u8.wrap ((BitVec.ofInt 8 (x.toNat : Int) ^^^ BitVec.ofInt 8 (y.toNat : Int)).toNat : Int))) w = _
  rw [e]
theorem xor_ne (x y : UInt8) : ((x ^^^ y).toNat : Int) ≠ 0 ↔ x ≠ y := by
  have h : (x ^^^ y).toNat = 0 ↔ x = y := by
    rw [← UInt8.xor_eq_zero_iff (a := x) (b := y)]
    constructor
    · intro h; exact UInt8.toNat_inj.1 h
    · intro h; rw [h]; rfl
  constructor
  · intro h1 h2; exact h1 (by rw [h.2 h2]; rfl)
  · intro h1 h2; exact h1 (h.1 (by omega))

/-- What the body of a loop over 'apart' keeps is handed on. -/
theorem apart1_call (a b : Dig) (ba bb l : Nat) (Inv : Nat → World → Prop) (Stop : World → Prop) (w : World) (h0 : Inv 0 w)
    (hext : ∀ i w' w'', Inv i w' → Ext w' w'' → Inv i w'')
    (hmem : ∀ i w', Inv i w' → At any w' ba 0 a.cells ∧ At any w' bb 0 b.cells)
    (hskip : ∀ i w', i < 32 → a.at i = b.at i → Inv i w' → Inv (i + 1) w')
    (hyield : ∀ i w', i < 32 → a.at i ≠ b.at i → Inv i w' → YieldC Tryd.prog l [iv i, bv (a.at i ^^^ b.at i)] w' fun v w'' => (v = .bool true ∧ Inv (i + 1) w'') ∨ (v = .bool false ∧ Stop w'')) :
    Does Tryd.prog 172 #[yieldv l, ptr ba 0, ptr bb 0] w fun _ w' => Inv 32 w' ∨ Stop w' := by
  refine call_walk Tryd.func172 (by kernel_rfl) rfl Tryd.ntmps172 rfl ?_
  refine St0 ?_
  refine G.rounds (α := Nat) (fun i f w' => i ≤ 32 ∧ Inv i w' ∧ f = [(6, iv i), (0, yieldv l), (1, ptr ba 0), (2, ptr bb 0)]) (fun i => 32 - i) ?round 0 ?start
  case start => exact ⟨by omega, h0, rfl⟩
  case round =>
    rintro i f w' ⟨hi, hI, rfl⟩ again
    by_cases hlt : i < 32
    · obtain ⟨hA, hB⟩ := hmem i w' hI
      refine St0 ?_
      refine G.quiet follows (by kernel_rfl) ?_
      refine QSt0 ?_
      (refine GQ.indexArr (i) 1 (i) hT rfl rfl rfl rfl rfl rfl rfl rfl ?_ ?_ ?_ ?_; (focus omega); (focus omega); (focus omega))
      refine GQ.load1 hT rfl rfl rfl rfl rfl (hA.one0 (a.cell_at i hlt)) ?_
      refine QSt0 ?_
      (refine GQ.indexArr (i) 1 (i) hT rfl rfl rfl rfl rfl rfl rfl rfl ?_ ?_ ?_ ?_; (focus omega); (focus omega); (focus omega))
      refine GQ.load1 hT rfl rfl rfl rfl rfl (hB.one0 (b.cell_at i hlt)) ?_
      refine QSt0 ?_
      refine GQ.bin rfl rfl rfl rfl (fun w => run_xor_u8 _ _ w) ?_
      refine QSt0 ?_
      refine GQ.nil fun w1 he => ?_
      have hI1 := hext i _ _ hI he
      by_cases hne : a.at i = b.at i
      · have hz := (not_congr (xor_ne (a.at i) (b.at i))).2 (by simpa using hne)
        refine St0 ?_
        exact G.sub (by (repeat (first | exact Fr.sub_nil _ | refine Fr.sub_cons rfl ?_))) (again (i + 1) _ _ (by omega) ⟨by omega, hskip i _ hlt hne hI1, rfl⟩)
      · have hz := (xor_ne (a.at i) (b.at i)).2 hne
        refine St0 ?_
        refine GL.yieldc rfl rfl rfl rfl (hyield i _ hlt hne hI1) ?_
        rintro v w2 (⟨rfl, hI2⟩ | ⟨rfl, hS⟩)
        · refine St0 ?_
          exact G.sub (by (repeat (first | exact Fr.sub_nil _ | refine Fr.sub_cons rfl ?_))) (again (i + 1) _ _ (by omega) ⟨by omega, hI2, rfl⟩)
        · refine St0 ?_
          exact G.end0 rfl rfl rfl (.inr hS)
    · refine St0 ?_
      refine G.end0 rfl rfl rfl (.inl ?_)
      obtain rfl : i = 32 := by omega
      exact hI

theorem apart_call (a b : Dig) (w : World) : Does Tryd.prog 152 #[dv a, dv b] w fun v w' => ∃ ba bb, v = .func (.func 172) #[] #[ptr ba 0, ptr bb 0] ∧ w.heap.size ≤ ba ∧ w.heap.size ≤ bb ∧ At any w' ba 0 a.cells ∧ At any w' bb 0 b.cells ∧ Ext w w' := by
  refine call_walk Tryd.func152 (by kernel_rfl) rfl Tryd.ntmps152 rfl ?_
  refine St0 ?_
  refine GL.box rfl rfl rfl rfl fun ba w1 hba hBa he1 => ?_
  refine GL.box rfl rfl rfl rfl fun bb w2 hbb hBb he2 => ?_
  refine St0 ?_
  exact G.ret1 rfl rfl rfl rfl ⟨ba, bb, rfl, by omega, by have := he1.size; omega, (hBa.ext he2).all, hBb.all, he1.trans he2⟩
end Go.Proofs.YtefneilaongpbaaDoor
/-
  path.Ahead.
-/
set_option linter.unusedVariables false
set_option maxRecDepth 100000
namespace Go.Proofs.YtefneilaongpbaaDoor
open Go Go.Bd Go.RowKit
attribute [local irreducible] G GL GQ

theorem pre_succ {p : Nat → Prop} {i : Nat} (h : ∀ j, j < i → p j) (hi : p i) : ∀ j, j < i + 1 → p j := fun j hj => by
  rcases Nat.lt_or_eq_of_le (Nat.lt_succ_iff.1 hj) with h1 | h1
  · exact h j h1
  · subst h1; exact hi

theorem ahead_call (a b : Dig) (w : World) : Does Tryd.prog 128 #[dv a, dv b] w fun v w' => v = .bool (aheadB a b) ∧ Ext w w' := by
  refine call_walk Tryd.func128 (by kernel_rfl) rfl Tryd.ntmps128 rfl ?_
  refine St0 ?_
  refine GL.box rfl rfl rfl rfl fun b2 w1 hb2 hB2 he1 => ?_
  refine GL.box rfl rfl rfl rfl fun b3 w2 hb3 hB3 he2 => ?_
  refine GL.alloc hT rfl rfl rfl fun b4 w3 hb4 hB4 he3 => ?_
  refine St0 ?_
  replace hB2 := hB2.ext he2
  replace hB2 := hB2.ext he3
  replace hB3 := hB3.ext he3
  refine GL.loadN hT rfl rfl rfl rfl rfl hB2.all a.len ?_
  refine GL.loadN hT rfl rfl rfl rfl rfl hB3.all b.len ?_
  refine GL.call rfl rfl rfl (apart_call a b w3) ?_
  rintro v w4 ⟨ba, bb, rfl, hba, hbb, hA, hAb, he4⟩
  refine St0 ?_
  replace hB2 := hB2.ext he4
  replace hB3 := hB3.ext he4
  replace hB4 := hB4.ext he4
  have e4 : Ext w w4 := (he1.trans he2).trans (he3.trans he4)
  have s1 := he1.size
  have s2 := he2.size
  have s3 := he3.size
  have s4 := he4.size
  have l4 := hB4.lt
  refine G.rangeFunc (Θ := fun L _ w' => (Ext w4 w' ∧ L.At w' .ready none ∧ NoDefers w' L.r ∧ a = b) ∨ (Below w.heap.size w w' ∧ L.At w' .done (some .ret) ∧ NoDefers w' L.r ∧ Blk w' b4 4 [.bool (aheadB a b)])) rfl rfl ?hit ?hk
  case hit =>
    intro L w5 hD hps has hbo hr hl he5 hLat hnd
    have hc := apart1_call a b ba bb L.l (fun i w' => Ext w5 w' ∧ ∀ j, j < i → a.at j = b.at j) (fun w' => Below w.heap.size w w' ∧ L.At w' .done (some .ret) ∧ NoDefers w' L.r ∧ Blk w' b4 4 [.bool (aheadB a b)]) w5 ⟨Ext.refl _, fun j hj => by omega⟩
      (fun i w' w'' h he => ⟨h.1.trans he, h.2⟩) (fun i w' h => ⟨(hA.ext he5).ext h.1, (hAb.ext he5).ext h.1⟩) (fun i w' hi heq h => ⟨h.1, pre_succ h.2 heq⟩) ?_
    · refine hc.mono fun v w' h => ?_
      rcases h with ⟨h1, h2⟩ | h
      · exact .inl ⟨he5.trans h1, hLat.ext h1, hnd.ext h1, Dig.ext_at h2⟩
      · exact .inr h
    · intro i w6 hi hne ⟨he6, hpre⟩
      refine Lo.yield (L := L) (hLat.ext he6) hD ?_ ?_ ?_
      · rw [hps]; rfl
      · rw [hps]; rfl
      rw [hps, has, hbo]
      refine St0 ?_
      refine G.beginRound rfl (hLat.ext he6) fun w7 hc7 hL7 => ?_
      refine St0 ?_
      have l2 := hB2.lt
      have l3 := hB3.lt
      replace hB2 := hB2.ext he5
      replace hB3 := hB3.ext he5
      replace hB4 := hB4.ext he5
      replace hB2 := hB2.ext he6
      replace hB3 := hB3.ext he6
      replace hB4 := hB4.ext he6
      replace hnd := hnd.ext he6
      replace hB2 := hB2.chg hc7 (by omega)
      replace hB3 := hB3.chg hc7 (by omega)
      replace hB4 := hB4.chg hc7 (by omega)
      replace hnd := hnd.chg hc7 (by omega)
      have hBel : Below w.heap.size w w7 := hc7.below (by omega) (e4.trans (he5.trans he6))
      refine G.quietTail 7 follows (by kernel_rfl) (by kernel_rfl) (by kernel_rfl) (by kernel_rfl) ?_
      refine QSt0 ?_
      (refine GQ.indexArr (i) 1 (i) hT rfl rfl rfl rfl rfl rfl rfl rfl ?_ ?_ ?_ ?_; (focus omega); (focus omega); (focus omega))
      refine GQ.load1 hT rfl rfl rfl rfl rfl (hB2.one (a.cell_at i hi)) ?_
      refine QSt0 ?_
      (refine GQ.indexArr (i) 1 (i) hT rfl rfl rfl rfl rfl rfl rfl rfl ?_ ?_ ?_ ?_; (focus omega); (focus omega); (focus omega))
      refine GQ.load1 hT rfl rfl rfl rfl rfl (hB3.one (b.cell_at i hi)) ?_
      have hah := aheadB_diff hi hpre hne
      generalize aheadB a b = ab at hah ⊢
      by_cases hlt : ((a.at i).toNat : Int) < (b.at i).toNat
      all_goals
        refine QSt0 ?_
        refine GQ.tail fun w8 he8 => ?_
        replace hB4 := hB4.ext he8
        replace hnd := hnd.ext he8
        refine GL.store1 hT rfl rfl rfl rfl rfl rfl rfl hB4 (by decide) fun w9 hc9 hB9 => ?_
        refine St0 ?_
        have l8 := he8.size
        refine G.roundRet (L := L) rfl ((hL7.ext he8).chg hc9 (by omega)) fun w10 hc10 hL10 => .inr ⟨rfl, ?_, hL10, ?_, ?_⟩
        · exact hc10.below (by omega) (hc9.below (by omega) (hBel.trans (he8.mono (by have := hBel.size; omega))))
        · exact (hnd.chg hc9 (by omega)).chg hc10 (by omega)
        · rw [hah]
          simp only [hlt, decide_true, decide_false]
          exact hB9.chg hc10 (by omega)
  case hk =>
    rintro L v w5 hr hl (⟨he5, hLat, hnd, rfl⟩ | ⟨hBel, hLat, hnd, hB⟩)
    · refine ⟨.ready, none, hLat, by simp, fun w6 hc6 => ?_⟩
      replace hB4 := hB4.ext he5
      have s5 := he5.size
      replace hB4 := hB4.chg hc6 (by omega)
      replace hnd := hnd.chg hc6 (by omega)
      have hBel : Below w.heap.size w w6 := hc6.below (by omega) (e4.trans he5)
      refine St0 ?_
      refine GL.store1 hT rfl rfl rfl rfl rfl rfl rfl hB4 (by decide) fun w9 hc9 hB9 => ?_
      refine St0 ?_
      replace hnd := hnd.chg hc9 (by omega)
      refine G.ret_coll (v := .bool false) rfl rfl hnd (fun a' w10 ha hc => run_result1 hT rfl rfl rfl rfl ((hB9.chg hc (by omega)).one rfl) a' ha) fun w10 hc10 => ⟨by rw [aheadB_self], hc10.below (by omega) (hc9.below (by omega) hBel)⟩
    · refine ⟨.done, some .ret, hLat, by simp, fun w6 hc6 => ?_⟩
      replace hB := hB.chg hc6 (by omega)
      replace hnd := hnd.chg hc6 (by omega)
      show G _ _ _ _ (.code .ret :: _) _ _
      refine G.ret_coll (v := .bool (aheadB a b)) rfl rfl hnd (fun a' w10 ha hc => run_result1 hT rfl rfl rfl rfl ((hB.chg hc (by omega)).one rfl) a' ha) fun w10 hc10 => ⟨rfl, hc10.below (by omega) (hc6.below (by omega) hBel)⟩
end Go.Proofs.YtefneilaongpbaaDoor
