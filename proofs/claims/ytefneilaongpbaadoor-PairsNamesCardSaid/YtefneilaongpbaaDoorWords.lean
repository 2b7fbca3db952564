/-
  Words of 32 and of 64 bits.
-/
import Derived.Test.YtefneilaongpbaaDoorQuiet
set_option linter.unusedVariables false
set_option linter.unusedSimpArgs false
set_option maxRecDepth 100000
namespace Go.Bd
open Go.RowKit
abbrev wv (x : UInt32) : Value := .int .u32 (x.toNat : Int)
abbrev lv (x : UInt64) : Value := .int .u64 (x.toNat : Int)
theorem wrap_u32 (n : Nat) : IntKind.u32.wrap (n : Int) = ((n % 4294967296 : Nat) : Int) := by
  simp [IntKind.wrap, IntKind.signed, IntKind.bits]
theorem wrap_u64 (n : Nat) : IntKind.u64.wrap (n : Int) = ((n % 18446744073709551616 : Nat) : Int) := by
  simp [IntKind.wrap, IntKind.signed, IntKind.bits]
theorem wrap_u8 (n : Nat) : IntKind.u8.wrap (n : Int) = ((n % 256 : Nat) : Int) := by
  simp [IntKind.wrap, IntKind.signed, IntKind.bits]
theorem ofInt_u32 (x : UInt32) : BitVec.ofInt 32 (x.toNat : Int) = x.toBitVec := by
  rw [BitVec.ofInt_natCast]
  apply BitVec.eq_of_toNat_eq
  simp
section
variable {P : Program} {t : TypeId} {a b : Operand} (w : World)
theorem run_add_u32 (x y : UInt32) : (do eqGuard .add t a b (wv x) (wv y); binOp .add t (wv x) (wv y) : Sem Value).run P w = .ok (wv (x + y)) w := by
  show Result.ok (Value.int .u32 (IntKind.u32.wrap ((x.toNat : Int) + (y.toNat : Int)))) w = _
  show _ = Result.ok (Value.int .u32 ((x + y).toNat : Int)) w
  rw [← Int.natCast_add, wrap_u32, UInt32.toNat_add]
theorem run_sub_u32 (x y : UInt32) : (do eqGuard .sub t a b (wv x) (wv y); binOp .sub t (wv x) (wv y) : Sem Value).run P w = .ok (wv (x - y)) w := by
  show Result.ok (Value.int .u32 (IntKind.u32.wrap ((x.toNat : Int) - (y.toNat : Int)))) w = _
  have h : ((x.toNat : Int) - (y.toNat : Int)) = ((4294967296 - y.toNat + x.toNat : Nat) : Int) - 4294967296 := by
    have := y.toNat_lt
    omega
  have e : IntKind.u32.wrap ((x.toNat : Int) - (y.toNat : Int)) = (((4294967296 - y.toNat + x.toNat) % 4294967296 : Nat) : Int) := by
    rw [← wrap_u32, h]
    simp only [IntKind.wrap, IntKind.signed, IntKind.bits]
    simp
  show _ = Result.ok (Value.int .u32 ((x - y).toNat : Int)) w
  rw [e, UInt32.toNat_sub]
theorem run_mul_u32 (x y : UInt32) : (do eqGuard .mul t a b (wv x) (wv y); binOp .mul t (wv x) (wv y) : Sem Value).run P w = .ok (wv (x * y)) w := by
  show Result.ok (Value.int .u32 (IntKind.u32.wrap ((x.toNat : Int) * (y.toNat : Int)))) w = _
  show _ = Result.ok (Value.int .u32 ((x * y).toNat : Int)) w
  rw [← Int.natCast_mul, wrap_u32, UInt32.toNat_mul]
theorem run_and_u32 (x y : UInt32) : (do eqGuard .and t a b (wv x) (wv y); binOp .and t (wv x) (wv y) : Sem Value).run P w = .ok (wv (x &&& y)) w := by
  show Result.ok (Value.int .u32 (IntKind.u32.wrap ((BitVec.ofInt 32 (x.toNat : Int) &&& BitVec.ofInt 32 (y.toNat : Int)).toNat : Int))) w = _
  rw [ofInt_u32, ofInt_u32, wrap_u32, Nat.mod_eq_of_lt (BitVec.isLt _)]
  rfl
theorem run_or_u32 (x y : UInt32) : (do eqGuard .or t a b (wv x) (wv y); binOp .or t (wv x) (wv y) : Sem Value).run P w = .ok (wv (x ||| y)) w := by
  show Result.ok (Value.int .u32 (IntKind.u32.wrap ((BitVec.ofInt 32 (x.toNat : Int) ||| BitVec.ofInt 32 (y.toNat : Int)).toNat : Int))) w = _
  rw [ofInt_u32, ofInt_u32, wrap_u32, Nat.mod_eq_of_lt (BitVec.isLt _)]
  rfl
theorem run_xor_u32 (x y : UInt32) : (do eqGuard .xor t a b (wv x) (wv y); binOp .xor t (wv x) (wv y) : Sem Value).run P w = .ok (wv (x ^^^ y)) w := by
  show Result.ok (Value.int .u32 (IntKind.u32.wrap ((BitVec.ofInt 32 (x.toNat : Int) ^^^ BitVec.ofInt 32 (y.toNat : Int)).toNat : Int))) w = _
  rw [ofInt_u32, ofInt_u32, wrap_u32, Nat.mod_eq_of_lt (BitVec.isLt _)]
  rfl
theorem run_shl_u32 (x : UInt32) {K : IntKind} (n : UInt32) (hn : n.toNat < 32) : (do eqGuard .shl t a b (wv x) (.int K (n.toNat : Int)); binOp .shl t (wv x) (.int K (n.toNat : Int)) : Sem Value).run P w = .ok (wv (x <<< n)) w := by
  have h0 : ¬ ((n.toNat : Int) < 0) := by omega
  have h1 : min n.toNat 32 = n.toNat := Nat.min_eq_left (by omega)
  have e : (x <<< n).toNat = x.toNat * 2 ^ n.toNat % 4294967296 := by
    rw [UInt32.toNat_shiftLeft, Nat.mod_eq_of_lt (show n.toNat < 32 from hn), Nat.shiftLeft_eq]
  have e2 : (x.toNat : Int) * 2 ^ n.toNat = ((x.toNat * 2 ^ n.toNat : Nat) : Int) := by
    rw [Int.natCast_mul, Int.natCast_pow]; rfl
  show (Op.shift .shl .u32 (x.toNat : Int) K (n.toNat : Int)).run P w = _
  unfold Op.shift
  rw [if_neg h0]
  show Result.ok (Value.int .u32 (IntKind.u32.wrap ((x.toNat : Int) * 2 ^ min n.toNat 32))) w = Result.ok (Value.int .u32 ((x <<< n).toNat : Int)) w
  rw [h1, e2, wrap_u32, e]
theorem run_shr_u32 (x : UInt32) {K : IntKind} (n : UInt32) (hn : n.toNat < 32) : (do eqGuard .shr t a b (wv x) (.int K (n.toNat : Int)); binOp .shr t (wv x) (.int K (n.toNat : Int)) : Sem Value).run P w = .ok (wv (x >>> n)) w := by
  have h0 : ¬ ((n.toNat : Int) < 0) := by omega
  have h1 : min n.toNat 32 = n.toNat := Nat.min_eq_left (by omega)
  have e : (x >>> n).toNat = x.toNat / 2 ^ n.toNat := by
    rw [UInt32.toNat_shiftRight, Nat.mod_eq_of_lt (show n.toNat < 32 from hn), Nat.shiftRight_eq_div_pow]
  have e2 : (x.toNat : Int).fdiv (2 ^ n.toNat) = ((x.toNat / 2 ^ n.toNat : Nat) : Int) := by
    have : ((2 : Int) ^ n.toNat) = ((2 ^ n.toNat : Nat) : Int) := by rw [Int.natCast_pow]; rfl
    rw [this, Int.fdiv_eq_ediv_of_nonneg _ (Int.natCast_nonneg _)]
    rfl
  show (Op.shift .shr .u32 (x.toNat : Int) K (n.toNat : Int)).run P w = _
  unfold Op.shift
  rw [if_neg h0]
  show Result.ok (Value.int .u32 ((x.toNat : Int).fdiv (2 ^ min n.toNat 32))) w = Result.ok (Value.int .u32 ((x >>> n).toNat : Int)) w
  rw [h1, e2, e]
end
section
variable {P : Program} {n : Sz} {Q : Act → World → Prop} {f : Fr} {w : World} {ops : Array Oper} {rest : List Oper} {tt : List (Nat × Ti)} {d : Nat} {ty : TypeId} {pos : String} {aft : Array Edge} {g : Option (Nat × Bool)}
theorem run_not_op {t : TypeId} {x : Operand} {A : UInt32} (hx : ev f x = some (wv A)) (w : World) : ∀ a, St n f a → (execOp a.eval ⟨some d, .unOp .xor t x, ty, pos, aft, g⟩).run P w = .ok (.value (wv (~~~ A))) w := by
  intro a ha
  have e : (Op.unary .xor (wv A)).run P w = .ok (wv (~~~ A)) w := by
    show Result.ok (Value.int .u32 (IntKind.u32.wrap ((BitVec.ofInt 32 (4294967295 : Int) ^^^ BitVec.ofInt 32 (A.toNat : Int)).toNat : Int))) w = _
    rw [ofInt_u32, wrap_u32, Nat.mod_eq_of_lt (BitVec.isLt _)]
    have h1 : (BitVec.ofInt 32 4294967295 : BitVec 32) = BitVec.allOnes 32 := by decide
    rw [h1, BitVec.allOnes_xor]
    rfl
  simp [execOp, ha.eval hx, e]
theorem GL.not32 {t : TypeId} {x : Operand} {A : UInt32} (hw : want ops f g = some true) (hlt : Nat.blt d n.size = true) (hx : ev f x = some (wv A)) (h : GL P n Q ops rest ((d, wv (~~~ A)) :: f) w) : GL P n Q ops (⟨some d, .unOp .xor t x, ty, pos, aft, g⟩ :: rest) f w :=
  GL.yields hw rfl hlt (run_not_op hx w) h
theorem GQ.not32 {t : TypeId} {x : Operand} {A : UInt32} (hw : want ops f g = some true) (hlt : Nat.blt d n.size = true) (hx : ev f x = some (wv A)) (h : GQ P n Q ops rest ((d, wv (~~~ A)) :: f) w) : GQ P n Q ops (⟨some d, .unOp .xor t x, ty, pos, aft, g⟩ :: rest) f w :=
  GQ.yields hw rfl hlt (fun w _ => run_not_op hx w) h
theorem run_conv {src dst : TypeId} {x : Operand} {K K1 K' : IntKind} {A : Int} {i j : Ti} (hT : Tys P tt) (hi : TT.get tt src = some i) (hdi : i.desc = .int K1) (hj : TT.get tt dst = some j) (hdj : j.desc = .int K') (hx : ev f x = some (.int K A)) {B : Int} (hB : K'.wrap A = B) (w : World) :
    ∀ a, St n f a → (execOp a.eval ⟨some d, .convert src dst x, ty, pos, aft, g⟩).run P w = .ok (.value (.int K' B)) w := by
  intro a ha
  have hs : P.underlying src = some (.int K1) := by have := (hT.ok src i hi).desc; rw [hdi] at this; exact this
  have ht : P.underlying dst = some (.int K') := by have := (hT.ok dst j hj).desc; rw [hdj] at this; exact this
  simp [execOp, ha.eval hx, convert, run_underlying hs, run_underlying ht, Conv.intToInt, hB]
theorem wrap_byte32 (b : UInt8) : IntKind.u32.wrap (b.toNat : Int) = (b.toUInt32.toNat : Int) := by
  rw [wrap_u32, UInt8.toNat_toUInt32, Nat.mod_eq_of_lt (by have := b.toNat_lt; omega)]
theorem wrap_32byte (x : UInt32) : IntKind.u8.wrap (x.toNat : Int) = (x.toUInt8.toNat : Int) := by
  rw [wrap_u8, UInt32.toNat_toUInt8]
theorem wrap_64byte (x : UInt64) : IntKind.u8.wrap (x.toNat : Int) = (x.toUInt8.toNat : Int) := by
  rw [wrap_u8, UInt64.toNat_toUInt8]
theorem GL.conv8_32 {src dst : TypeId} {x : Operand} {b : UInt8} {i j : Ti} {K1 : IntKind} (hT : Tys P tt) (hw : want ops f g = some true) (hlt : Nat.blt d n.size = true) (hi : TT.get tt src = some i) (hdi : i.desc = .int K1) (hj : TT.get tt dst = some j) (hdj : j.desc = .int .u32) (hx : ev f x = some (bv b))
    (h : GL P n Q ops rest ((d, wv b.toUInt32) :: f) w) : GL P n Q ops (⟨some d, .convert src dst x, ty, pos, aft, g⟩ :: rest) f w :=
  GL.yields hw rfl hlt (run_conv hT hi hdi hj hdj hx (wrap_byte32 b) w) h
theorem GQ.conv8_32 {src dst : TypeId} {x : Operand} {b : UInt8} {i j : Ti} {K1 : IntKind} (hT : Tys P tt) (hw : want ops f g = some true) (hlt : Nat.blt d n.size = true) (hi : TT.get tt src = some i) (hdi : i.desc = .int K1) (hj : TT.get tt dst = some j) (hdj : j.desc = .int .u32) (hx : ev f x = some (bv b))
    (h : GQ P n Q ops rest ((d, wv b.toUInt32) :: f) w) : GQ P n Q ops (⟨some d, .convert src dst x, ty, pos, aft, g⟩ :: rest) f w :=
  GQ.yields hw rfl hlt (fun w _ => run_conv hT hi hdi hj hdj hx (wrap_byte32 b) w) h
theorem GL.conv32_8 {src dst : TypeId} {x : Operand} {b : UInt32} {i j : Ti} {K1 : IntKind} (hT : Tys P tt) (hw : want ops f g = some true) (hlt : Nat.blt d n.size = true) (hi : TT.get tt src = some i) (hdi : i.desc = .int K1) (hj : TT.get tt dst = some j) (hdj : j.desc = .int .u8) (hx : ev f x = some (wv b))
    (h : GL P n Q ops rest ((d, bv b.toUInt8) :: f) w) : GL P n Q ops (⟨some d, .convert src dst x, ty, pos, aft, g⟩ :: rest) f w :=
  GL.yields hw rfl hlt (run_conv hT hi hdi hj hdj hx (wrap_32byte b) w) h
theorem GL.conv64_8 {src dst : TypeId} {x : Operand} {b : UInt64} {i j : Ti} {K1 : IntKind} (hT : Tys P tt) (hw : want ops f g = some true) (hlt : Nat.blt d n.size = true) (hi : TT.get tt src = some i) (hdi : i.desc = .int K1) (hj : TT.get tt dst = some j) (hdj : j.desc = .int .u8) (hx : ev f x = some (lv b))
    (h : GL P n Q ops rest ((d, bv b.toUInt8) :: f) w) : GL P n Q ops (⟨some d, .convert src dst x, ty, pos, aft, g⟩ :: rest) f w :=
  GL.yields hw rfl hlt (run_conv hT hi hdi hj hdj hx (wrap_64byte b) w) h
/-- A conversion of an int into some kind, its value given. -/
theorem GL.convI {src dst : TypeId} {x : Operand} {K K1 K' : IntKind} {A : Int} (B : Int) {i j : Ti} (hT : Tys P tt) (hw : want ops f g = some true) (hlt : Nat.blt d n.size = true) (hi : TT.get tt src = some i) (hdi : i.desc = .int K1) (hj : TT.get tt dst = some j) (hdj : j.desc = .int K') (hx : ev f x = some (.int K A)) (hB : K'.wrap A = B)
    (h : GL P n Q ops rest ((d, .int K' B) :: f) w) : GL P n Q ops (⟨some d, .convert src dst x, ty, pos, aft, g⟩ :: rest) f w :=
  GL.yields hw rfl hlt (run_conv hT hi hdi hj hdj hx hB w) h
theorem GL.neg {t : TypeId} {x : Operand} {A : Int} (hw : want ops f g = some true) (hlt : Nat.blt d n.size = true) (hx : ev f x = some (.int .i64 A)) (h1 : -9223372036854775808 ≤ 0 - A) (h2 : 0 - A ≤ 9223372036854775807) (h : GL P n Q ops rest ((d, .int .i64 (0 - A)) :: f) w) : GL P n Q ops (⟨some d, .unOp .neg t x, ty, pos, aft, g⟩ :: rest) f w :=
  GL.yields hw rfl hlt (fun a ha => by
    have e : (Op.unary .neg (.int .i64 A)).run P w = .ok (.int .i64 (0 - A)) w := by
      show Result.ok (Value.int .i64 (IntKind.i64.wrap (0 - A))) w = _
      rw [wrap_i64 h1 h2]
    simp [execOp, ha.eval hx, e]) h
theorem GL.add32 {t t' : TypeId} {x y : Operand} {A B : UInt32} (hw : want ops f g = some true) (hlt : Nat.blt d n.size = true) (hx : ev f x = some (wv A)) (hy : ev f y = some (wv B)) (h : GL P n Q ops rest ((d, wv (A + B)) :: f) w) : GL P n Q ops (⟨some d, .binOp .add t x y t', ty, pos, aft, g⟩ :: rest) f w :=
  GL.bin hw hlt hx hy (fun w => run_add_u32 w A B) h
theorem GQ.add32 {t t' : TypeId} {x y : Operand} {A B : UInt32} (hw : want ops f g = some true) (hlt : Nat.blt d n.size = true) (hx : ev f x = some (wv A)) (hy : ev f y = some (wv B)) (h : GQ P n Q ops rest ((d, wv (A + B)) :: f) w) : GQ P n Q ops (⟨some d, .binOp .add t x y t', ty, pos, aft, g⟩ :: rest) f w :=
  GQ.bin hw hlt hx hy (fun w => run_add_u32 w A B) h
theorem GL.sub32 {t t' : TypeId} {x y : Operand} {A B : UInt32} (hw : want ops f g = some true) (hlt : Nat.blt d n.size = true) (hx : ev f x = some (wv A)) (hy : ev f y = some (wv B)) (h : GL P n Q ops rest ((d, wv (A - B)) :: f) w) : GL P n Q ops (⟨some d, .binOp .sub t x y t', ty, pos, aft, g⟩ :: rest) f w :=
  GL.bin hw hlt hx hy (fun w => run_sub_u32 w A B) h
theorem GQ.sub32 {t t' : TypeId} {x y : Operand} {A B : UInt32} (hw : want ops f g = some true) (hlt : Nat.blt d n.size = true) (hx : ev f x = some (wv A)) (hy : ev f y = some (wv B)) (h : GQ P n Q ops rest ((d, wv (A - B)) :: f) w) : GQ P n Q ops (⟨some d, .binOp .sub t x y t', ty, pos, aft, g⟩ :: rest) f w :=
  GQ.bin hw hlt hx hy (fun w => run_sub_u32 w A B) h
theorem GL.mul32 {t t' : TypeId} {x y : Operand} {A B : UInt32} (hw : want ops f g = some true) (hlt : Nat.blt d n.size = true) (hx : ev f x = some (wv A)) (hy : ev f y = some (wv B)) (h : GL P n Q ops rest ((d, wv (A * B)) :: f) w) : GL P n Q ops (⟨some d, .binOp .mul t x y t', ty, pos, aft, g⟩ :: rest) f w :=
  GL.bin hw hlt hx hy (fun w => run_mul_u32 w A B) h
theorem GQ.mul32 {t t' : TypeId} {x y : Operand} {A B : UInt32} (hw : want ops f g = some true) (hlt : Nat.blt d n.size = true) (hx : ev f x = some (wv A)) (hy : ev f y = some (wv B)) (h : GQ P n Q ops rest ((d, wv (A * B)) :: f) w) : GQ P n Q ops (⟨some d, .binOp .mul t x y t', ty, pos, aft, g⟩ :: rest) f w :=
  GQ.bin hw hlt hx hy (fun w => run_mul_u32 w A B) h
theorem GL.and32 {t t' : TypeId} {x y : Operand} {A B : UInt32} (hw : want ops f g = some true) (hlt : Nat.blt d n.size = true) (hx : ev f x = some (wv A)) (hy : ev f y = some (wv B)) (h : GL P n Q ops rest ((d, wv (A &&& B)) :: f) w) : GL P n Q ops (⟨some d, .binOp .and t x y t', ty, pos, aft, g⟩ :: rest) f w :=
  GL.bin hw hlt hx hy (fun w => run_and_u32 w A B) h
theorem GQ.and32 {t t' : TypeId} {x y : Operand} {A B : UInt32} (hw : want ops f g = some true) (hlt : Nat.blt d n.size = true) (hx : ev f x = some (wv A)) (hy : ev f y = some (wv B)) (h : GQ P n Q ops rest ((d, wv (A &&& B)) :: f) w) : GQ P n Q ops (⟨some d, .binOp .and t x y t', ty, pos, aft, g⟩ :: rest) f w :=
  GQ.bin hw hlt hx hy (fun w => run_and_u32 w A B) h
theorem GL.or32 {t t' : TypeId} {x y : Operand} {A B : UInt32} (hw : want ops f g = some true) (hlt : Nat.blt d n.size = true) (hx : ev f x = some (wv A)) (hy : ev f y = some (wv B)) (h : GL P n Q ops rest ((d, wv (A ||| B)) :: f) w) : GL P n Q ops (⟨some d, .binOp .or t x y t', ty, pos, aft, g⟩ :: rest) f w :=
  GL.bin hw hlt hx hy (fun w => run_or_u32 w A B) h
theorem GQ.or32 {t t' : TypeId} {x y : Operand} {A B : UInt32} (hw : want ops f g = some true) (hlt : Nat.blt d n.size = true) (hx : ev f x = some (wv A)) (hy : ev f y = some (wv B)) (h : GQ P n Q ops rest ((d, wv (A ||| B)) :: f) w) : GQ P n Q ops (⟨some d, .binOp .or t x y t', ty, pos, aft, g⟩ :: rest) f w :=
  GQ.bin hw hlt hx hy (fun w => run_or_u32 w A B) h
theorem GL.xor32 {t t' : TypeId} {x y : Operand} {A B : UInt32} (hw : want ops f g = some true) (hlt : Nat.blt d n.size = true) (hx : ev f x = some (wv A)) (hy : ev f y = some (wv B)) (h : GL P n Q ops rest ((d, wv (A ^^^ B)) :: f) w) : GL P n Q ops (⟨some d, .binOp .xor t x y t', ty, pos, aft, g⟩ :: rest) f w :=
  GL.bin hw hlt hx hy (fun w => run_xor_u32 w A B) h
theorem GQ.xor32 {t t' : TypeId} {x y : Operand} {A B : UInt32} (hw : want ops f g = some true) (hlt : Nat.blt d n.size = true) (hx : ev f x = some (wv A)) (hy : ev f y = some (wv B)) (h : GQ P n Q ops rest ((d, wv (A ^^^ B)) :: f) w) : GQ P n Q ops (⟨some d, .binOp .xor t x y t', ty, pos, aft, g⟩ :: rest) f w :=
  GQ.bin hw hlt hx hy (fun w => run_xor_u32 w A B) h
theorem GL.shl32 {t t' : TypeId} {x y : Operand} {A : UInt32} {K : IntKind} {m : Int} (B : UInt32) (hB : B.toNat < 32) (hw : want ops f g = some true) (hlt : Nat.blt d n.size = true) (hx : ev f x = some (wv A)) (hy : ev f y = some (.int K m)) (hm : m = (B.toNat : Int)) (h : GL P n Q ops rest ((d, wv (A <<< B)) :: f) w) : GL P n Q ops (⟨some d, .binOp .shl t x y t', ty, pos, aft, g⟩ :: rest) f w := by
  subst hm
  exact GL.bin hw hlt hx hy (fun w => run_shl_u32 w A B hB) h
theorem GQ.shl32 {t t' : TypeId} {x y : Operand} {A : UInt32} {K : IntKind} {m : Int} (B : UInt32) (hB : B.toNat < 32) (hw : want ops f g = some true) (hlt : Nat.blt d n.size = true) (hx : ev f x = some (wv A)) (hy : ev f y = some (.int K m)) (hm : m = (B.toNat : Int)) (h : GQ P n Q ops rest ((d, wv (A <<< B)) :: f) w) : GQ P n Q ops (⟨some d, .binOp .shl t x y t', ty, pos, aft, g⟩ :: rest) f w := by
  subst hm
  exact GQ.bin hw hlt hx hy (fun w => run_shl_u32 w A B hB) h
theorem GL.shr32 {t t' : TypeId} {x y : Operand} {A : UInt32} {K : IntKind} {m : Int} (B : UInt32) (hB : B.toNat < 32) (hw : want ops f g = some true) (hlt : Nat.blt d n.size = true) (hx : ev f x = some (wv A)) (hy : ev f y = some (.int K m)) (hm : m = (B.toNat : Int)) (h : GL P n Q ops rest ((d, wv (A >>> B)) :: f) w) : GL P n Q ops (⟨some d, .binOp .shr t x y t', ty, pos, aft, g⟩ :: rest) f w := by
  subst hm
  exact GL.bin hw hlt hx hy (fun w => run_shr_u32 w A B hB) h
theorem GQ.shr32 {t t' : TypeId} {x y : Operand} {A : UInt32} {K : IntKind} {m : Int} (B : UInt32) (hB : B.toNat < 32) (hw : want ops f g = some true) (hlt : Nat.blt d n.size = true) (hx : ev f x = some (wv A)) (hy : ev f y = some (.int K m)) (hm : m = (B.toNat : Int)) (h : GQ P n Q ops rest ((d, wv (A >>> B)) :: f) w) : GQ P n Q ops (⟨some d, .binOp .shr t x y t', ty, pos, aft, g⟩ :: rest) f w := by
  subst hm
  exact GQ.bin hw hlt hx hy (fun w => run_shr_u32 w A B hB) h
/-! whole numbers of 64 bits, as natural numbers -/
abbrev nv (x : Nat) : Value := .int .u64 (x : Int)
theorem run_add_n64 {P : Program} {t : TypeId} {a b : Operand} (w : World) {x y : Nat} (h : x + y < 18446744073709551616) : (do eqGuard .add t a b (nv x) (nv y); binOp .add t (nv x) (nv y) : Sem Value).run P w = .ok (nv (x + y)) w := by
  show Result.ok (Value.int .u64 (IntKind.u64.wrap ((x : Int) + (y : Int)))) w = Result.ok (Value.int .u64 ((x + y : Nat) : Int)) w
  rw [← Int.natCast_add, wrap_u64, Nat.mod_eq_of_lt h]
theorem run_mul_n64 {P : Program} {t : TypeId} {a b : Operand} (w : World) {x y : Nat} (h : x * y < 18446744073709551616) : (do eqGuard .mul t a b (nv x) (nv y); binOp .mul t (nv x) (nv y) : Sem Value).run P w = .ok (nv (x * y)) w := by
  show Result.ok (Value.int .u64 (IntKind.u64.wrap ((x : Int) * (y : Int)))) w = Result.ok (Value.int .u64 ((x * y : Nat) : Int)) w
  rw [← Int.natCast_mul, wrap_u64, Nat.mod_eq_of_lt h]
theorem run_rem_n64 {P : Program} {t : TypeId} {a b : Operand} (w : World) {x y : Nat} (h : y ≠ 0) : (do eqGuard .rem t a b (nv x) (nv y); binOp .rem t (nv x) (nv y) : Sem Value).run P w = .ok (nv (x % y)) w := by
  have h0 : ¬ ((y : Int) = 0) := by omega
  show (Op.intDiv .rem .u64 (x : Int) (y : Int)).run P w = _
  unfold Op.intDiv
  rw [if_neg h0]
  show Result.ok (Value.int .u64 ((x : Int).tmod (y : Int))) w = Result.ok (Value.int .u64 ((x % y : Nat) : Int)) w
  rw [Int.tmod_eq_emod_of_nonneg (Int.natCast_nonneg _)]
  rfl
theorem run_quo_n64 {P : Program} {t : TypeId} {a b : Operand} (w : World) {x y : Nat} (h : y ≠ 0) (hx : x < 18446744073709551616) : (do eqGuard .quo t a b (nv x) (nv y); binOp .quo t (nv x) (nv y) : Sem Value).run P w = .ok (nv (x / y)) w := by
  have h0 : ¬ ((y : Int) = 0) := by omega
  show (Op.intDiv .quo .u64 (x : Int) (y : Int)).run P w = _
  unfold Op.intDiv
  rw [if_neg h0]
  show Result.ok (Value.int .u64 (IntKind.u64.wrap ((x : Int).tdiv (y : Int)))) w = Result.ok (Value.int .u64 ((x / y : Nat) : Int)) w
  have e : (x : Int).tdiv (y : Int) = ((x / y : Nat) : Int) := by
    rw [Int.tdiv_eq_ediv_of_nonneg (Int.natCast_nonneg _)]
    rfl
  rw [e, wrap_u64, Nat.mod_eq_of_lt (Nat.lt_of_le_of_lt (Nat.div_le_self _ _) hx)]
theorem run_shr_n64 {P : Program} {t : TypeId} {a b : Operand} {K : IntKind} (w : World) {x n : Nat} (hn : n < 64) : (do eqGuard .shr t a b (nv x) (.int K (n : Int)); binOp .shr t (nv x) (.int K (n : Int)) : Sem Value).run P w = .ok (nv (x / 2 ^ n)) w := by
  have h0 : ¬ ((n : Int) < 0) := by omega
  have h1 : min (n : Int).toNat 64 = n := by simp; omega
  have e2 : (x : Int).fdiv (2 ^ n) = ((x / 2 ^ n : Nat) : Int) := by
    have : ((2 : Int) ^ n) = ((2 ^ n : Nat) : Int) := by rw [Int.natCast_pow]; rfl
    rw [this, Int.fdiv_eq_ediv_of_nonneg _ (Int.natCast_nonneg _)]
    rfl
  show (Op.shift .shr .u64 (x : Int) K (n : Int)).run P w = _
  unfold Op.shift
  rw [if_neg h0]
  show Result.ok (Value.int .u64 ((x : Int).fdiv (2 ^ min (n : Int).toNat 64))) w = Result.ok (Value.int .u64 ((x / 2 ^ n : Nat) : Int)) w
  rw [h1, e2]
theorem GL.add64 {t t' : TypeId} {x y : Operand} {A' B' : Int} (A B : Nat) (hb : A + B < 18446744073709551616) (hw : want ops f g = some true) (hlt : Nat.blt d n.size = true) (hx : ev f x = some (.int .u64 A')) (hy : ev f y = some (.int .u64 B')) (ha : A' = (A : Int)) (hbb : B' = (B : Int)) (h : GL P n Q ops rest ((d, nv (A + B)) :: f) w) : GL P n Q ops (⟨some d, .binOp .add t x y t', ty, pos, aft, g⟩ :: rest) f w := by
  subst ha hbb
  exact GL.bin hw hlt hx hy (fun w => run_add_n64 w hb) h
theorem GL.mul64 {t t' : TypeId} {x y : Operand} {A' B' : Int} (A B : Nat) (hb : A * B < 18446744073709551616) (hw : want ops f g = some true) (hlt : Nat.blt d n.size = true) (hx : ev f x = some (.int .u64 A')) (hy : ev f y = some (.int .u64 B')) (ha : A' = (A : Int)) (hbb : B' = (B : Int)) (h : GL P n Q ops rest ((d, nv (A * B)) :: f) w) : GL P n Q ops (⟨some d, .binOp .mul t x y t', ty, pos, aft, g⟩ :: rest) f w := by
  subst ha hbb
  exact GL.bin hw hlt hx hy (fun w => run_mul_n64 w hb) h
theorem GL.rem64 {t t' : TypeId} {x y : Operand} {A' B' : Int} (A B : Nat) (hb : B ≠ 0) (hw : want ops f g = some true) (hlt : Nat.blt d n.size = true) (hx : ev f x = some (.int .u64 A')) (hy : ev f y = some (.int .u64 B')) (ha : A' = (A : Int)) (hbb : B' = (B : Int)) (h : GL P n Q ops rest ((d, nv (A % B)) :: f) w) : GL P n Q ops (⟨some d, .binOp .rem t x y t', ty, pos, aft, g⟩ :: rest) f w := by
  subst ha hbb
  exact GL.bin hw hlt hx hy (fun w => run_rem_n64 w hb) h
theorem GL.quo64 {t t' : TypeId} {x y : Operand} {A' B' : Int} (A B : Nat) (hb : B ≠ 0) (hA : A < 18446744073709551616) (hw : want ops f g = some true) (hlt : Nat.blt d n.size = true) (hx : ev f x = some (.int .u64 A')) (hy : ev f y = some (.int .u64 B')) (ha : A' = (A : Int)) (hbb : B' = (B : Int)) (h : GL P n Q ops rest ((d, nv (A / B)) :: f) w) : GL P n Q ops (⟨some d, .binOp .quo t x y t', ty, pos, aft, g⟩ :: rest) f w := by
  subst ha hbb
  exact GL.bin hw hlt hx hy (fun w => run_quo_n64 w hb hA) h
theorem GL.shr64 {t t' : TypeId} {x y : Operand} {A' B' : Int} {K : IntKind} (A B : Nat) (hb : B < 64) (hw : want ops f g = some true) (hlt : Nat.blt d n.size = true) (hx : ev f x = some (.int .u64 A')) (hy : ev f y = some (.int K B')) (ha : A' = (A : Int)) (hbb : B' = (B : Int)) (h : GL P n Q ops rest ((d, nv (A / 2 ^ B)) :: f) w) : GL P n Q ops (⟨some d, .binOp .shr t x y t', ty, pos, aft, g⟩ :: rest) f w := by
  subst ha hbb
  exact GL.bin hw hlt hx hy (fun w => run_shr_n64 w hb) h
theorem wrap_nbyte (m : Nat) : IntKind.u8.wrap (m : Int) = ((UInt8.ofNat m).toNat : Int) := by
  rw [wrap_u8, UInt8.toNat_ofNat']
theorem GL.convN8 {src dst : TypeId} {x : Operand} {m : Nat} {i j : Ti} {K1 : IntKind} (hT : Tys P tt) (hw : want ops f g = some true) (hlt : Nat.blt d n.size = true) (hi : TT.get tt src = some i) (hdi : i.desc = .int K1) (hj : TT.get tt dst = some j) (hdj : j.desc = .int .u8) (hx : ev f x = some (nv m))
    (h : GL P n Q ops rest ((d, bv (UInt8.ofNat m)) :: f) w) : GL P n Q ops (⟨some d, .convert src dst x, ty, pos, aft, g⟩ :: rest) f w :=
  GL.yields hw rfl hlt (run_conv hT hi hdi hj hdj hx (wrap_nbyte m) w) h
theorem GL.conv64 {src dst : TypeId} {x : Operand} {A : Int} {K : IntKind} (m : Nat) {i j : Ti} {K1 : IntKind} (hT : Tys P tt) (hw : want ops f g = some true) (hlt : Nat.blt d n.size = true) (hi : TT.get tt src = some i) (hdi : i.desc = .int K1) (hj : TT.get tt dst = some j) (hdj : j.desc = .int .u64) (hx : ev f x = some (.int K A)) (hA : A = (m : Int)) (hm : m < 18446744073709551616)
    (h : GL P n Q ops rest ((d, nv m) :: f) w) : GL P n Q ops (⟨some d, .convert src dst x, ty, pos, aft, g⟩ :: rest) f w := by
  subst hA
  exact GL.yields hw rfl hlt (run_conv hT hi hdi hj hdj hx (by rw [wrap_u64, Nat.mod_eq_of_lt hm]) w) h
end
end Go.Bd
