/-
  path.Bit, pairs.value.
-/
import Derived.Test.YtefneilaongpbaaData
set_option linter.unusedVariables false
namespace Go.Proofs.Ytefneilaongpbaa
open Go Go.Bd
attribute [local irreducible] G GL GQ

theorem run_and1_u8 (x : Nat) (hx : x < 256) (w : World) {P : Program} {t : TypeId} {a b : Operand} : (do eqGuard .and t a b (.int .u8 (x : Int)) (.int .u8 1); binOp .and t (.int .u8 (x : Int)) (.int .u8 1) : Sem Value).run P w = .ok (.int .u8 ((x % 2 : Nat) : Int)) w := by
  have e : IntKind.u8.wrap ((BitVec.ofInt IntKind.u8.bits (x : Int) &&& BitVec.ofInt IntKind.u8.bits 1).toNat : Int) = ((x % 2 : Nat) : Int) := by
    have : ∀ y : Fin 256, IntKind.u8.wrap ((BitVec.ofInt IntKind.u8.bits (y.1 : Int) &&& BitVec.ofInt IntKind.u8.bits 1).toNat : Int) = ((y.1 % 2 : Nat) : Int) := by decide +kernel
    exact this ⟨x, hx⟩
  show Result.ok (Value.int .u8 (IntKind.u8.wrap ((BitVec.ofInt IntKind.u8.bits (x : Int) &&& BitVec.ofInt IntKind.u8.bits 1).toNat : Int))) w = _
  rw [e]
theorem run_shr_u8 (x s : Nat) (hs : s ≤ 8) (w : World) {P : Program} {t : TypeId} {a b : Operand} : (do eqGuard .shr t a b (.int .u8 (x : Int)) (.int .i64 (s : Int)); binOp .shr t (.int .u8 (x : Int)) (.int .i64 (s : Int)) : Sem Value).run P w = .ok (.int .u8 ((x / 2 ^ s : Nat) : Int)) w := by
  have e : min s IntKind.u8.bits = s := by simp [IntKind.bits]; omega
  have e2 : (x : Int).fdiv (2 ^ s) = ((x / 2 ^ s : Nat) : Int) := by
    rw [Int.fdiv_eq_ediv_of_nonneg _ (by exact Int.le_of_lt (Int.pow_pos (by omega)))]
    simp
  simp only [eqGuard, binOp, Op.shift, Sem.run_bind]
  simp [e, show ¬ ((s : Int) < 0) by omega, e2]

theorem GL.shr_u8 {P : Program} {n : Sz} {Q : Act → World → Prop} {f : Fr} {w : World} {ops : Array Oper} {rest : List Oper} {d : Nat} {ty : TypeId} {pos : String} {aft : Array Edge} {g : Option (Nat × Bool)} (s : Nat)
    {t t' : TypeId} {x y : Operand} {X : Nat} {A : Int} (hw : want ops f g = some true) (hlt : Nat.blt d n.size = true) (hx : ev f x = some (.int .u8 (X : Int))) (hy : ev f y = some (iv A)) (hA : A = (s : Int)) (h8 : s ≤ 8)
    (h : GL P n Q ops rest ((d, .int .u8 ((X / 2 ^ s : Nat) : Int)) :: f) w) : GL P n Q ops (⟨some d, .binOp .shr t x y t', ty, pos, aft, g⟩ :: rest) f w :=
  GL.bin hw hlt hx (by rw [hy, hA]) (fun w => run_shr_u8 X s h8 w) h
theorem GL.and1_u8 {P : Program} {n : Sz} {Q : Act → World → Prop} {f : Fr} {w : World} {ops : Array Oper} {rest : List Oper} {d : Nat} {ty : TypeId} {pos : String} {aft : Array Edge} {g : Option (Nat × Bool)}
    {t t' : TypeId} {x y : Operand} {X : Nat} (hw : want ops f g = some true) (hlt : Nat.blt d n.size = true) (hx : ev f x = some (.int .u8 (X : Int))) (hy : ev f y = some (.int .u8 1)) (h8 : X < 256)
    (h : GL P n Q ops rest ((d, .int .u8 ((X % 2 : Nat) : Int)) :: f) w) : GL P n Q ops (⟨some d, .binOp .and t x y t', ty, pos, aft, g⟩ :: rest) f w :=
  GL.bin hw hlt hx hy (fun w => run_and1_u8 X h8 w) h

theorem bit_call (k : Dig) (i : Nat) (hi : i < 256) (w : World) : Does Try.prog 94 #[dv k, iv i] w (fun v w' => v = .tuple #[.int .u8 (k.bit i : Nat), iv 0] ∧ Ext w w') := by
  refine call_walk Try.func94 (by kernel_rfl) rfl Try.ntmps94 rfl ?_
  refine St0 ?_
  refine GL.box rfl rfl rfl rfl fun b w1 hb hB he => ?_
  refine St0 ?_
  (refine GL.indexArr ((i / 8)) 1 ((i / 8)) hT rfl rfl rfl rfl rfl rfl rfl rfl ?_ ?_ ?_ ?_; (focus omega); (focus omega); (focus omega))
  refine GL.load1 hT rfl rfl rfl rfl rfl (hB.one (k.cell_at (i / 8) (by omega))) ?_
  refine St0 ?_
  refine GL.shr_u8 (7 - i % 8) rfl rfl rfl rfl (by omega) (by omega) ?_
  refine GL.and1_u8 rfl rfl rfl rfl (Nat.lt_of_le_of_lt (Nat.div_le_self _ _) (k.at (i / 8)).toNat_lt) ?_
  refine St0 ?_
  refine G.ret2 rfl rfl rfl rfl rfl ⟨rfl, he⟩

theorem bit_call_bad (k : Dig) (i : Int) (hi : i < 0 ∨ 256 ≤ i) (w : World) : Does Try.prog 94 #[dv k, iv i] w (fun v w' => v = .tuple #[.int .u8 0, iv 2] ∧ Ext w w') := by
  refine call_walk Try.func94 (by kernel_rfl) rfl Try.ntmps94 rfl ?_
  refine St0 ?_
  refine GL.box rfl rfl rfl rfl fun b w1 hb hB he => ?_
  by_cases h : i < 0
  all_goals
    refine St0 ?_
    exact G.ret2 rfl rfl rfl rfl rfl ⟨rfl, he⟩

/-- Bytes that may be a value. -/
def valB (n : Nat) : Bool := decide (0 < n) && decide (n ≤ 64)
theorem value_call (p : Option Addr) (m c : Nat) (w : World) : Does Try.prog 64 #[.slice p m c] w (fun v w' => v = .bool (valB m) ∧ w' = w) := by
  refine call_walk Try.func64 (by kernel_rfl) rfl Try.ntmps64 rfl ?_
  by_cases h1 : (0 : Int) < m
  · by_cases h2 : (m : Int) ≤ 64
    · refine St0 ?_
      exact G.ret1 rfl rfl rfl rfl ⟨by simp [valB]; omega, rfl⟩
    · refine St0 ?_
      exact G.ret1 rfl rfl rfl rfl ⟨by simp [valB]; omega, rfl⟩
  · refine St0 ?_
    exact G.ret1 rfl rfl rfl rfl ⟨by simp [valB]; omega, rfl⟩
end Go.Proofs.Ytefneilaongpbaa
