/-
  The bits of keys, by their numbers; what they share; their order.
-/
import Derived.Test.YtefneilaongpbaaDoorBits1
set_option linter.unusedVariables false
set_option maxRecDepth 100000
namespace Go.Proofs.YtefneilaongpbaaDoor
open Go Go.Bd

theorem numL_digit : ∀ (l : List UInt8) (i : Nat), i < l.length → numL l / 256 ^ (l.length - 1 - i) % 256 = (l.getD i 0).toNat
  | [], i, h => by simp at h
  | b :: l, 0, _ => by
    rw [numL_cons]
    have h1 := numL_lt l
    have hb := b.toNat_lt
    have e : (b :: l).length - 1 - 0 = l.length := by simp
    rw [e, Nat.mul_comm, Nat.mul_add_div (Nat.pow_pos (by omega)), Nat.div_eq_of_lt h1]
    simp
  | b :: l, i + 1, h => by
    have hi : i < l.length := by simpa using h
    rw [numL_cons]
    have ih := numL_digit l i hi
    have e : (b :: l).length - 1 - (i + 1) = l.length - 1 - i := by simp; omega
    rw [e]
    have hp : 256 ^ l.length = 256 ^ (l.length - 1 - i) * (256 * 256 ^ i) := by
      rw [← Nat.pow_succ', ← Nat.pow_add]
      congr 1
      omega
    have e2 : b.toNat * 256 ^ l.length + numL l = 256 ^ (l.length - 1 - i) * (256 * (256 ^ i * b.toNat)) + numL l := by
      rw [hp]
      congr 1
      rw [Nat.mul_comm b.toNat, Nat.mul_assoc, Nat.mul_assoc]
    rw [e2, Nat.mul_add_div (Nat.pow_pos (by omega)), Nat.mul_add_mod, ih]
    simp
theorem Dig.bit_num (k : Dig) (i : Nat) (hi : i < 256) : k.bit i = k.num / 2 ^ (255 - i) % 2 := by
  have h := numL_digit k.1 (i / 8) (by rw [k.2]; omega)
  rw [k.2] at h
  unfold Dig.bit Dig.at Dig.num
  rw [← h]
  have e1 : (256 : Nat) ^ (32 - 1 - i / 8) = 2 ^ (8 * (31 - i / 8)) := by
    rw [Nat.pow_mul]
  rw [e1]
  have hr : 7 - i % 8 < 8 := by omega
  have key : ∀ (x r : Nat), r < 8 → x % 256 / 2 ^ r % 2 = x / 2 ^ r % 2 := by
    intro x r hr
    have e : (256 : Nat) = 2 ^ r * (2 * 2 ^ (7 - r)) := by
      rw [← Nat.pow_succ', ← Nat.pow_add]
      rw [show r + (7 - r).succ = 8 by omega]
    rw [e, Nat.mod_mul_right_div_self, Nat.mod_mul_right_mod]
  rw [key _ _ hr, Nat.div_div_eq_div_mul, ← Nat.pow_add]
  congr 2
  congr 1
  omega
theorem half_step (x e : Nat) : x / 2 ^ e = 2 * (x / 2 ^ (e + 1)) + x / 2 ^ e % 2 := by
  rw [Nat.pow_succ, ← Nat.div_div_eq_div_mul]
  omega
/-- The first n bits agree: the first n bits' numbers do. -/
theorem prefix_iff (a b : Dig) : ∀ n, n ≤ 256 → ((∀ j, j < n → a.bit j = b.bit j) ↔ a.num / 2 ^ (256 - n) = b.num / 2 ^ (256 - n))
  | 0, _ => by
    have ha := a.num_lt
    have hb := b.num_lt
    simp only [Nat.sub_zero]
    rw [Nat.div_eq_of_lt ha, Nat.div_eq_of_lt hb]
    simp
  | n + 1, hn => by
    have ih := prefix_iff a b n (by omega)
    have ea := half_step a.num (256 - (n + 1))
    have eb := half_step b.num (256 - (n + 1))
    rw [show 256 - (n + 1) + 1 = 256 - n by omega] at ea eb
    have ha := a.bit_num n (by omega)
    have hb := b.bit_num n (by omega)
    rw [show 255 - n = 256 - (n + 1) by omega] at ha hb
    rw [← ha] at ea
    rw [← hb] at eb
    constructor
    · intro h
      have h1 := ih.1 (fun j hj => h j (by omega))
      have h2 := h n (by omega)
      rw [ea, eb, h1, h2]
    · intro h
      have la := a.bit_lt n
      have lb := b.bit_lt n
      have h2 : a.bit n = b.bit n := by omega
      have h1 : a.num / 2 ^ (256 - n) = b.num / 2 ^ (256 - n) := by omega
      intro j hj
      rcases Nat.lt_or_eq_of_le (Nat.lt_succ_iff.1 hj) with h3 | h3
      · exact ih.2 h1 j h3
      · subst h3; exact h2
theorem bits_inj {a b : Dig} (h : ∀ j, j < 256 → a.bit j = b.bit j) : a = b := by
  have := (prefix_iff a b 256 (Nat.le_refl _)).1 h
  simp at this
  exact Dig.num_inj this
theorem shared_full {a b : Dig} (h : sharedB a b = 256) : a = b := bits_inj fun j hj => sharedB_eq (by omega)
/-- Order, by the first bit that is not shared. -/
theorem ahead_at {a b : Dig} {n : Nat} (hn : n < 256) (h : ∀ j, j < n → a.bit j = b.bit j) (hne : a.bit n ≠ b.bit n) : aheadB a b = decide (a.bit n < b.bit n) := by
  have hp := (prefix_iff a b n (by omega)).1 h
  have ea := half_step a.num (256 - (n + 1))
  have eb := half_step b.num (256 - (n + 1))
  rw [show 256 - (n + 1) + 1 = 256 - n by omega] at ea eb
  have ha := a.bit_num n hn
  have hb := b.bit_num n hn
  rw [show 255 - n = 256 - (n + 1) by omega] at ha hb
  rw [← ha] at ea
  rw [← hb] at eb
  have la := a.bit_lt n
  have lb := b.bit_lt n
  unfold aheadB
  have mono : ∀ x y : Nat, x / 2 ^ (256 - (n + 1)) < y / 2 ^ (256 - (n + 1)) → x < y := fun x y h => by
    rcases Nat.lt_or_ge x y with h1 | h1
    · exact h1
    · have := Nat.div_le_div_right (c := 2 ^ (256 - (n + 1))) h1; omega
  by_cases hlt : a.bit n < b.bit n
  · have := mono a.num b.num (by omega)
    simp [this, hlt]
  · have := mono b.num a.num (by omega)
    have h2 : ¬ a.num < b.num := by omega
    simp [h2, hlt]
theorem ahead_shared (a b : Dig) : aheadB a b = (decide (sharedB a b < 256) && decide (a.bit (sharedB a b) < b.bit (sharedB a b))) := by
  by_cases h : sharedB a b < 256
  · rw [ahead_at h (fun j hj => sharedB_eq hj) (sharedB_ne h)]
    simp [h]
  · have hle := sharedB_le a b
    have := shared_full (a := a) (b := b) (by omega)
    subst this
    simp [aheadB, h]
end Go.Proofs.YtefneilaongpbaaDoor
