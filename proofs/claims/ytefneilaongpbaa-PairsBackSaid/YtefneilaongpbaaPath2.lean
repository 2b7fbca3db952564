/-
  path.apart, Ahead, Shared.
-/
import Derived.Test.YtefneilaongpbaaPath1
set_option linter.unusedVariables false
namespace Go.Proofs.Ytefneilaongpbaa
open Go Go.Bd
attribute [local irreducible] G GL GQ

theorem wrap_u8 {z : Int} (h0 : 0 ≤ z) (h1 : z < 256) : IntKind.u8.wrap z = z := by
  simp only [IntKind.wrap, IntKind.signed, IntKind.bits]
  simp
  omega
theorem run_xor_u8 (x y : UInt8) (w : World) {P : Program} {t : TypeId} {a b : Operand} : (do eqGuard .xor t a b (bv x) (bv y); binOp .xor t (bv x) (bv y) : Sem Value).run P w = .ok (bv (x ^^^ y)) w := by
  have e : IntKind.u8.wrap ((BitVec.ofInt 8 (x.toNat : Int) ^^^ BitVec.ofInt 8 (y.toNat : Int)).toNat : Int) = ((x ^^^ y).toNat : Int) := by
    have h1 : BitVec.ofInt 8 (x.toNat : Int) = x.toBitVec := by simp [BitVec.ofInt_natCast]
    have h2 : BitVec.ofInt 8 (y.toNat : Int) = y.toBitVec := by simp [BitVec.ofInt_natCast]
    rw [h1, h2]
    have h4 := (x ^^^ y).toNat_lt
    have h3 : ((x.toBitVec ^^^ y.toBitVec).toNat : Int) = ((x ^^^ y).toNat : Int) := by rw [← UInt8.toBitVec_xor]; rfl
    rw [h3]
    exact wrap_u8 (by omega) (by omega)
  show Result.ok (Value.int .u8 (IntKind.u8.wrap ((BitVec.ofInt 8 (x.toNat : Int) ^^^ BitVec.ofInt 8 (y.toNat : Int)).toNat : Int))) w = _
  rw [e]
theorem xor_ne (x y : UInt8) : ((x ^^^ y).toNat : Int) ≠ 0 ↔ x ≠ y := by
  have h : (x ^^^ y).toNat = 0 ↔ x = y := by
    rw [← UInt8.xor_eq_zero_iff (a := x) (b := y)]
    constructor
    · intro h; exact UInt8.toNat_inj.1 h
    · intro h; rw [h]; rfl
  constructor
  · intro h1 h2; exact h1 (by rw [h.2 h2]; rfl)
  · intro h1 h2; exact h1 (h.1 (by omega))

/-- What the body of a loop over 'apart' keeps is handed on. -/
theorem apart1_call (a b : Dig) (ba bb l : Nat) (Inv : Nat → World → Prop) (Stop : World → Prop) (w : World) (h0 : Inv 0 w)
    (hext : ∀ i w' w'', Inv i w' → Ext w' w'' → Inv i w'')
    (hmem : ∀ i w', Inv i w' → At any w' ba 0 a.cells ∧ At any w' bb 0 b.cells)
    (hskip : ∀ i w', i < 32 → a.at i = b.at i → Inv i w' → Inv (i + 1) w')
    (hyield : ∀ i w', i < 32 → a.at i ≠ b.at i → Inv i w' → YieldC Try.prog l [iv i, bv (a.at i ^^^ b.at i)] w' fun v w'' => (v = .bool true ∧ Inv (i + 1) w'') ∨ (v = .bool false ∧ Stop w'')) :
    Does Try.prog 91 #[yieldv l, ptr ba 0, ptr bb 0] w fun _ w' => Inv 32 w' ∨ Stop w' := by
  refine call_walk Try.func91 (by kernel_rfl) rfl Try.ntmps91 rfl ?_
  refine St0 ?_
  refine G.rounds (α := Nat) (fun i f w' => i ≤ 32 ∧ Inv i w' ∧ f = [(6, iv i), (0, yieldv l), (1, ptr ba 0), (2, ptr bb 0)]) (fun i => 32 - i) ?round 0 ?start
  case start => exact ⟨by omega, h0, rfl⟩
  case round =>
    rintro i f w' ⟨hi, hI, rfl⟩ again
    by_cases hlt : i < 32
    · obtain ⟨hA, hB⟩ := hmem i w' hI
      refine St0 ?_
      refine G.quiet follows (by kernel_rfl) ?_
      refine QSt0 ?_
      (refine GQ.indexArr (i) 1 (i) hT rfl rfl rfl rfl rfl rfl rfl rfl ?_ ?_ ?_ ?_; (focus omega); (focus omega); (focus omega))
      refine GQ.load1 hT rfl rfl rfl rfl rfl (hA.one0 (a.cell_at i hlt)) ?_
      refine QSt0 ?_
      (refine GQ.indexArr (i) 1 (i) hT rfl rfl rfl rfl rfl rfl rfl rfl ?_ ?_ ?_ ?_; (focus omega); (focus omega); (focus omega))
      refine GQ.load1 hT rfl rfl rfl rfl rfl (hB.one0 (b.cell_at i hlt)) ?_
      refine QSt0 ?_
      refine GQ.bin rfl rfl rfl rfl (fun w => run_xor_u8 _ _ w) ?_
      refine QSt0 ?_
      refine GQ.nil fun w1 he => ?_
      have hI1 := hext i _ _ hI he
      by_cases hne : a.at i = b.at i
      · have hz := (not_congr (xor_ne (a.at i) (b.at i))).2 (by simpa using hne)
        refine St0 ?_
        exact G.sub (by (repeat (first | exact Fr.sub_nil _ | refine Fr.sub_cons rfl ?_))) (again (i + 1) _ _ (by omega) ⟨by omega, hskip i _ hlt hne hI1, rfl⟩)
      · have hz := (xor_ne (a.at i) (b.at i)).2 hne
        refine St0 ?_
        refine GL.yieldc rfl rfl rfl rfl (hyield i _ hlt hne hI1) ?_
        rintro v w2 (⟨rfl, hI2⟩ | ⟨rfl, hS⟩)
        · refine St0 ?_
          exact G.sub (by (repeat (first | exact Fr.sub_nil _ | refine Fr.sub_cons rfl ?_))) (again (i + 1) _ _ (by omega) ⟨by omega, hI2, rfl⟩)
        · refine St0 ?_
          exact G.end0 rfl rfl rfl (.inr hS)
    · refine St0 ?_
      refine G.end0 rfl rfl rfl (.inl ?_)
      obtain rfl : i = 32 := by omega
      exact hI

theorem apart_call (a b : Dig) (w : World) : Does Try.prog 74 #[dv a, dv b] w fun v w' => ∃ ba bb, v = .func (.func 91) #[] #[ptr ba 0, ptr bb 0] ∧ w.heap.size ≤ ba ∧ w.heap.size ≤ bb ∧ At any w' ba 0 a.cells ∧ At any w' bb 0 b.cells ∧ Ext w w' := by
  refine call_walk Try.func74 (by kernel_rfl) rfl Try.ntmps74 rfl ?_
  refine St0 ?_
  refine GL.box rfl rfl rfl rfl fun ba w1 hba hBa he1 => ?_
  refine GL.box rfl rfl rfl rfl fun bb w2 hbb hBb he2 => ?_
  refine St0 ?_
  exact G.ret1 rfl rfl rfl rfl ⟨ba, bb, rfl, by omega, by have := he1.size; omega, (hBa.ext he2).all, hBb.all, he1.trans he2⟩
end Go.Proofs.Ytefneilaongpbaa
