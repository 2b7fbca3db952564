/-
  A key with a bit turned; the key of zeros.
-/
import Derived.Test.YtefneilaongpbaaDoorKeys2
set_option linter.unusedVariables false
set_option linter.unusedSimpArgs false
set_option maxRecDepth 100000
namespace Go.Proofs.YtefneilaongpbaaDoor
open Go Go.Bd
/-! ### A bit turned -/
def maskB (i : Nat) : UInt8 := UInt8.ofNat (2 ^ (7 - i % 8))
def Dig.turn (k : Dig) (i : Nat) : Dig := ⟨k.1.set (i / 8) (k.at (i / 8) ^^^ maskB i), by rw [List.length_set]; exact k.2⟩
theorem turn_byte : ∀ (c : Fin 256) (r s : Fin 8), (c.1 ^^^ 2 ^ (7 - r.1)) / 2 ^ (7 - s.1) % 2 = if s = r then 1 - c.1 / 2 ^ (7 - s.1) % 2 else c.1 / 2 ^ (7 - s.1) % 2 := by decide +kernel
theorem turn_lt : ∀ (c : Fin 256) (r : Fin 8), c.1 ^^^ 2 ^ (7 - r.1) < 256 := by decide +kernel
theorem Dig.turn_at (k : Dig) {i j : Nat} (hi : i < 256) : (k.turn i).at j = if j = i / 8 then k.at j ^^^ maskB i else k.at j := by
  unfold Dig.turn Dig.at
  simp only [List.getD_eq_getElem?_getD, List.getElem?_set]
  have hl := k.2
  by_cases h : i / 8 = j
  · subst h
    simp only [if_true]
    rw [if_pos (by rw [hl]; omega)]
    rfl
  · rw [if_neg h, if_neg (fun e => h e.symm)]
theorem mask_toNat (i : Nat) : (maskB i).toNat = 2 ^ (7 - i % 8) := by
  unfold maskB
  have : ∀ r : Fin 8, (UInt8.ofNat (2 ^ (7 - r.1))).toNat = 2 ^ (7 - r.1) := by decide
  exact this ⟨i % 8, Nat.mod_lt _ (by omega)⟩
theorem Dig.turn_bit (k : Dig) {i j : Nat} (hi : i < 256) : (k.turn i).bit j = if j = i then 1 - k.bit j else k.bit j := by
  unfold Dig.bit
  rw [k.turn_at hi]
  by_cases h : j / 8 = i / 8
  · rw [if_pos h]
    have hx := turn_byte ⟨(k.at (j / 8)).toNat, UInt8.toNat_lt _⟩ ⟨i % 8, Nat.mod_lt _ (by omega)⟩ ⟨j % 8, Nat.mod_lt _ (by omega)⟩
    simp only [Fin.mk.injEq] at hx
    rw [UInt8.toNat_xor, mask_toNat, hx]
    by_cases e : j = i
    · subst e; simp
    · rw [if_neg e, if_neg (by omega)]
  · rw [if_neg h, if_neg (fun e => h (by rw [e]))]
theorem Dig.turn_other (k : Dig) {i j : Nat} (hi : i < 256) (hj : j ≠ i) : (k.turn i).bit j = k.bit j := by rw [k.turn_bit hi, if_neg hj]
theorem Dig.turn_same (k : Dig) {i : Nat} (hi : i < 256) : (k.turn i).bit i = 1 - k.bit i := by rw [k.turn_bit hi, if_pos rfl]
def dig0 : Dig := ⟨List.replicate 32 0, by simp⟩
theorem dig0_bit (i : Nat) : dig0.bit i = 0 := by
  have : dig0.at (i / 8) = 0 := by
    unfold dig0 Dig.at
    rw [List.getD_eq_getElem?_getD, List.getElem?_replicate]
    split <;> rfl
  unfold Dig.bit
  rw [this]
  simp
end Go.Proofs.YtefneilaongpbaaDoor
