/-
  Bits of keys: how many two share; math/bits.Len8, LeadingZeros8; the document's At and Shared.
-/
import Derived.Test.YtefneilaongpbaaDoorEq
import Derived.Test.YtefneilaongpbaaDoorPath
set_option linter.unusedVariables false
set_option linter.unusedSimpArgs false
set_option maxRecDepth 100000
namespace Go.Proofs.YtefneilaongpbaaDoor
open Go Go.Bd Go.RowKit
attribute [local irreducible] G GL GQ

/-- From bit i on, so many of the next n bits are shared. -/
def sharedFrom (a b : Dig) : Nat → Nat → Nat
  | _, 0 => 0
  | i, n + 1 => if a.bit i = b.bit i then sharedFrom a b (i + 1) n + 1 else 0
def sharedB (a b : Dig) : Nat := sharedFrom a b 0 256
theorem sharedFrom_spec (a b : Dig) : ∀ (n i : Nat), sharedFrom a b i n ≤ n ∧ (∀ j, j < sharedFrom a b i n → a.bit (i + j) = b.bit (i + j)) ∧ (sharedFrom a b i n < n → a.bit (i + sharedFrom a b i n) ≠ b.bit (i + sharedFrom a b i n))
  | 0, i => by simp [sharedFrom]
  | n + 1, i => by
    obtain ⟨h1, h2, h3⟩ := sharedFrom_spec a b n (i + 1)
    simp only [sharedFrom]
    by_cases h : a.bit i = b.bit i
    · rw [if_pos h]
      refine ⟨by omega, fun j hj => ?_, fun hlt => ?_⟩
      · cases j with
        | zero => exact h
        | succ j => have := h2 j (by omega); rw [show i + (j + 1) = i + 1 + j by omega]; exact this
      · have := h3 (by omega)
        rw [show i + (sharedFrom a b (i + 1) n + 1) = i + 1 + sharedFrom a b (i + 1) n by omega]
        exact this
    · rw [if_neg h]
      exact ⟨by omega, fun j hj => by omega, fun _ => h⟩
theorem sharedB_le (a b : Dig) : sharedB a b ≤ 256 := (sharedFrom_spec a b 256 0).1
theorem sharedB_eq {a b : Dig} {j : Nat} (h : j < sharedB a b) : a.bit j = b.bit j := by have := (sharedFrom_spec a b 256 0).2.1 j h; simpa using this
theorem sharedB_ne {a b : Dig} (h : sharedB a b < 256) : a.bit (sharedB a b) ≠ b.bit (sharedB a b) := by have := (sharedFrom_spec a b 256 0).2.2 h; simpa [sharedB] using this
theorem sharedB_unique {a b : Dig} {n : Nat} (hn : n ≤ 256) (h : ∀ j, j < n → a.bit j = b.bit j) (h' : n < 256 → a.bit n ≠ b.bit n) : sharedB a b = n := by
  rcases Nat.lt_trichotomy (sharedB a b) n with h1 | h1 | h1
  · exact absurd (h _ h1) (sharedB_ne (by omega))
  · exact h1
  · exact absurd (sharedB_eq h1) (h' (by have := sharedB_le a b; omega))
theorem sharedB_self (a : Dig) : sharedB a a = 256 := sharedB_unique (Nat.le_refl _) (fun _ _ => rfl) (fun h => absurd h (by omega))

def len8 (z : Nat) : Nat := if z = 0 then 0 else Nat.log2 z + 1
theorem len8_le : ∀ z : Fin 256, len8 z.1 ≤ 8 := by decide +kernel
theorem lead8 : ∀ z : Fin 256, z.1 ≠ 0 → 8 - len8 z.1 < 8 ∧ (∀ j : Fin 8, j.1 < 8 - len8 z.1 → Nat.testBit z.1 (7 - j.1) = false) ∧ Nat.testBit z.1 (7 - (8 - len8 z.1)) = true := by decide +kernel
/-- Two bytes that differ: where they do so first. -/
theorem byte_diff (x y : UInt8) (h : x ≠ y) : 8 - len8 (x ^^^ y).toNat < 8 ∧ (∀ j, j < 8 - len8 (x ^^^ y).toNat → x.toNat / 2 ^ (7 - j) % 2 = y.toNat / 2 ^ (7 - j) % 2) ∧ x.toNat / 2 ^ (7 - (8 - len8 (x ^^^ y).toNat)) % 2 ≠ y.toNat / 2 ^ (7 - (8 - len8 (x ^^^ y).toNat)) % 2 := by
  have hz : (x ^^^ y).toNat ≠ 0 := by
    have := (xor_ne x y).2 h
    omega
  have hb : ∀ i, Nat.testBit (x ^^^ y).toNat i = (Nat.testBit x.toNat i != Nat.testBit y.toNat i) := fun i => by rw [UInt8.toNat_xor, Nat.testBit_xor]
  have hd : ∀ (u : Nat) (i : Nat), Nat.testBit u i = decide (u / 2 ^ i % 2 = 1) := fun u i => Nat.testBit_eq_decide_div_mod_eq
  obtain ⟨h1, h2, h3⟩ := lead8 ⟨(x ^^^ y).toNat, (x ^^^ y).toNat_lt⟩ hz
  refine ⟨h1, fun j hj => ?_, ?_⟩
  · have := h2 ⟨j, by omega⟩ hj
    simp only at this
    rw [hb, hd, hd] at this
    have m1 := Nat.mod_two_eq_zero_or_one (x.toNat / 2 ^ (7 - j))
    have m2 := Nat.mod_two_eq_zero_or_one (y.toNat / 2 ^ (7 - j))
    rcases m1 with m1 | m1 <;> rcases m2 with m2 | m2 <;> simp [m1, m2] at this ⊢
  · simp only at h3
    rw [hb, hd, hd] at h3
    intro he
    rw [he, bne_self_eq_false] at h3
    cases h3

theorem len8_call (x : UInt8) (w : World) : Does Tryd.prog 173 #[bv x] w fun v w' => v = iv (len8 x.toNat : Nat) ∧ w' = w := by
  refine call_walk Tryd.func173 (by kernel_rfl) rfl Tryd.ntmps173 rfl ?_
  refine St0 ?_
  refine GL.indexS (b := UInt8.ofNat (len8 x.toNat)) x.toNat Tryd.underlying9 rfl rfl rfl rfl rfl ?_ ?_
  · exact (show ∀ z : Fin 256, (_ : ByteArray)[z.1]? = some (UInt8.ofNat (len8 z.1)) from by decide +kernel) ⟨x.toNat, x.toNat_lt⟩
  have hle := len8_le ⟨x.toNat, x.toNat_lt⟩
  simp only at hle
  have hb : (UInt8.ofNat (len8 x.toNat)).toNat = len8 x.toNat := by rw [UInt8.toNat_ofNat']; exact Nat.mod_eq_of_lt (by omega)
  refine GL.conv_int hT rfl rfl rfl rfl rfl rfl rfl ?_
  refine St0 ?_
  refine G.ret1 rfl rfl rfl rfl ⟨?_, rfl⟩
  rw [hb, wrap_i64 (by omega) (by omega)]
theorem lead8_call (x : UInt8) (w : World) : Does Tryd.prog 153 #[bv x] w fun v w' => v = iv (8 - len8 x.toNat : Nat) ∧ w' = w := by
  refine call_walk Tryd.func153 (by kernel_rfl) rfl Tryd.ntmps153 rfl ?_
  have hle := len8_le ⟨x.toNat, x.toNat_lt⟩
  simp only at hle
  refine St0 ?_
  refine GL.call rfl rfl rfl (len8_call x w) ?_
  rintro v w1 ⟨rfl, rfl⟩
  refine St0 ?_
  refine G.ret1 rfl rfl rfl rfl ⟨?_, rfl⟩
  show iv _ = iv _
  congr 1
  omega

/-- One step of shifting a byte. -/
theorem div2_i (c : Nat) (hc : c < 256) (w : World) {P : Program} {t : TypeId} {a b : Operand} : (do eqGuard .quo t a b (.int .u8 (c : Int)) (.int .u8 2); binOp .quo t (.int .u8 (c : Int)) (.int .u8 2) : Sem Value).run P w = .ok (.int .u8 ((c / 2 : Nat) : Int)) w := by
  have e : ((c : Int)).tdiv 2 = ((c / 2 : Nat) : Int) := by rw [Int.tdiv_eq_ediv_of_nonneg (by omega)]; simp
  simp [eqGuard, binOp, Op.intDiv, e]
  have := wrap_u8 (z := ((c / 2 : Nat) : Int)) (by omega) (by omega)
  simpa using this
theorem mod2_i (c : Nat) (w : World) {P : Program} {t : TypeId} {a b : Operand} : (do eqGuard .rem t a b (.int .u8 (c : Int)) (.int .u8 2); binOp .rem t (.int .u8 (c : Int)) (.int .u8 2) : Sem Value).run P w = .ok (.int .u8 ((c % 2 : Nat) : Int)) w := by
  have e : ((c : Int)).tmod 2 = ((c % 2 : Nat) : Int) := by rw [Int.tmod_eq_emod_of_nonneg (by omega)]; simp
  simp [eqGuard, binOp, Op.intDiv, e]
theorem refAt_call (k : Dig) (i : Nat) (hi : i < 256) (w : World) : Does Tryd.prog 139 #[dv k, iv i] w fun v w' => v = .int .u8 (k.bit i : Nat) ∧ Ext w w' := by
  refine call_walk Tryd.func139 (by kernel_rfl) rfl Tryd.ntmps139 rfl ?_
  refine St0 ?_
  refine GL.box rfl rfl rfl rfl fun b w1 hb hB he => ?_
  refine St0 ?_
  (refine GL.indexArr ((i / 8)) 1 ((i / 8)) hT rfl rfl rfl rfl rfl rfl rfl rfl ?_ ?_ ?_ ?_; (focus omega); (focus omega); (focus omega))
  refine GL.load1 hT rfl rfl rfl rfl rfl (hB.one (k.cell_at (i / 8) (by omega))) ?_
  refine St0 ?_
  have hk := (k.at (i / 8)).toNat_lt
  refine G.sub (f' := [(6, iv ((7 : Nat) : Int)), (5, .int .u8 (((k.at (i / 8)).toNat / 2 ^ (7 - 7) : Nat) : Int)), (1, iv i)]) ?_ ?_
  · rw [show 2 ^ (7 - 7) = 1 from rfl, Nat.div_one]
    (repeat (first | exact Fr.sub_nil _ | refine Fr.sub_cons rfl ?_))
  refine G.rounds (α := Nat) (fun j f w' => i % 8 ≤ j ∧ j ≤ 7 ∧ Ext w w' ∧ f = [(6, iv j), (5, .int .u8 (((k.at (i / 8)).toNat / 2 ^ (7 - j) : Nat) : Int)), (1, iv i)]) (fun j => j) ?round 7 ⟨by omega, by omega, he, rfl⟩
  case round =>
    rintro j f w' ⟨h1, h2, he', rfl⟩ again
    by_cases hlt : (j : Int) > (i : Int) % 8
    · refine St0 ?_
      refine GL.bin rfl rfl rfl rfl (fun w => div2_i _ (Nat.lt_of_le_of_lt (Nat.div_le_self _ _) hk) w) ?_
      refine St0 ?_
      refine G.sub ?_ (again (j - 1) _ _ (by omega) ⟨by omega, by omega, he', rfl⟩)
      have e1 : (iv ((j : Int) - 1)) = iv ((j - 1 : Nat) : Int) := by congr 1; omega
      have e2 : (k.at (i / 8)).toNat / 2 ^ (7 - j) / 2 = (k.at (i / 8)).toNat / 2 ^ (7 - (j - 1)) := by
        rw [Nat.div_div_eq_div_mul, ← Nat.pow_succ]; congr 2; omega
      rw [e1, e2]
      (repeat (first | exact Fr.sub_nil _ | refine Fr.sub_cons rfl ?_))
    · have hj : j = i % 8 := by omega
      refine St0 ?_
      refine GL.bin rfl rfl rfl rfl (fun w => mod2_i _ w) ?_
      refine St0 ?_
      refine G.ret1 rfl rfl rfl rfl ⟨?_, he'⟩
      rw [hj]
      rfl
theorem refShared_call (a b : Dig) (w : World) : Does Tryd.prog 141 #[dv a, dv b] w fun v w' => v = iv (sharedB a b : Nat) ∧ Ext w w' := by
  refine call_walk Tryd.func141 (by kernel_rfl) rfl Tryd.ntmps141 rfl ?_
  refine St0 ?_
  refine GL.box rfl rfl rfl rfl fun b2 w1 hb2 hB2 he1 => ?_
  refine GL.box rfl rfl rfl rfl fun b3 w2 hb3 hB3 he2 => ?_
  refine St0 ?_
  replace hB2 := hB2.ext he2
  refine G.sub (f' := [(5, iv ((0 : Nat) : Int)), (2, ptr b2 0), (3, ptr b3 0)]) (by (repeat (first | exact Fr.sub_nil _ | refine Fr.sub_cons rfl ?_))) ?_
  refine G.rounds (α := Nat) (fun j f w' => j ≤ sharedB a b ∧ Ext w2 w' ∧ f = [(5, iv j), (2, ptr b2 0), (3, ptr b3 0)]) (fun j => sharedB a b - j) ?round 0 ⟨by omega, Ext.refl _, rfl⟩
  have hle := sharedB_le a b
  rintro j f w' ⟨h1, he', rfl⟩ again
  replace hB2 := hB2.ext he'
  replace hB3 := hB3.ext he'
  by_cases hlt : (j : Int) < 256
  · refine St0 ?_
    refine G.quiet follows (by kernel_rfl) ?_
    refine QSt2 (hB2.all) (hB3.all) ?_
    refine GQ.call rfl rfl rfl (fun w'' he'' => refAt_call a j (by omega) w'') ?_
    refine QSt2 (hB2.all) (hB3.all) ?_
    refine GQ.call rfl rfl rfl (fun w'' he'' => refAt_call b j (by omega) w'') ?_
    by_cases heq : ((a.bit j : Nat) : Int) = (b.bit j : Nat)
    · refine QSt0 ?_
      refine GQ.nil fun w4 he4 => ?_
      refine St0 ?_
      refine G.sub (by (repeat (first | exact Fr.sub_nil _ | refine Fr.sub_cons rfl ?_))) (again (j + 1) _ _ ?_ ⟨?_, he'.trans he4, rfl⟩)
      · have : j ≠ sharedB a b := fun h => by subst h; exact sharedB_ne (a := a) (b := b) (by omega) (by omega)
        omega
      · have : j ≠ sharedB a b := fun h => by subst h; exact sharedB_ne (a := a) (b := b) (by omega) (by omega)
        omega
    · refine QSt0 ?_
      refine GQ.nil fun w4 he4 => ?_
      refine St0 ?_
      refine G.ret1 rfl rfl rfl rfl ⟨?_, (he1.trans he2).trans (he'.trans he4)⟩
      rw [sharedB_unique (n := j) (by omega) (fun i hi => sharedB_eq (by omega)) (fun _ => by omega)]
  · refine St0 ?_
    refine G.quiet follows (by kernel_rfl) ?_
    refine QSt0 ?_
    refine GQ.nil fun w4 he4 => ?_
    refine St0 ?_
    refine G.ret1 rfl rfl rfl rfl ⟨?_, (he1.trans he2).trans (he'.trans he4)⟩
    show iv _ = iv _
    congr 1
    omega
end Go.Proofs.YtefneilaongpbaaDoor
