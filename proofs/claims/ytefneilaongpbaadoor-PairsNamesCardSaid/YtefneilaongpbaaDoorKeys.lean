/-
  Keys as numbers: their order, their bits, what they share.
-/
import Derived.Test.YtefneilaongpbaaDoorData
set_option linter.unusedVariables false
namespace Go.Proofs.YtefneilaongpbaaDoor
open Go Go.Bd

def numL (l : List UInt8) : Nat := l.foldl (fun n b => n * 256 + b.toNat) 0
theorem numL_from (l : List UInt8) : ∀ n, l.foldl (fun n b => n * 256 + b.toNat) n = n * 256 ^ l.length + numL l := by
  unfold numL
  induction l with
  | nil => intro n; simp
  | cons b l ih =>
    intro n
    simp only [List.foldl_cons, List.length_cons]
    rw [ih (n * 256 + b.toNat), ih (0 * 256 + b.toNat)]
    rw [Nat.pow_succ]
    have : (n * 256 + b.toNat) * 256 ^ l.length = n * (256 ^ l.length * 256) + b.toNat * 256 ^ l.length := by
      rw [Nat.add_mul, Nat.mul_assoc, Nat.mul_comm 256]
    simp only [Nat.zero_mul, Nat.zero_add]
    omega
theorem numL_cons (b : UInt8) (l : List UInt8) : numL (b :: l) = b.toNat * 256 ^ l.length + numL l := by
  have := numL_from l b.toNat
  simpa [numL] using this
theorem numL_lt (l : List UInt8) : numL l < 256 ^ l.length := by
  induction l with
  | nil => simp [numL]
  | cons b l ih =>
    rw [numL_cons, List.length_cons, Nat.pow_succ]
    have hb := b.toNat_lt
    have h : (b.toNat + 1) * 256 ^ l.length ≤ 256 * 256 ^ l.length := Nat.mul_le_mul_right _ (by omega)
    rw [Nat.add_mul] at h
    rw [Nat.mul_comm (256 ^ l.length)]
    omega
theorem numL_inj : ∀ (a b : List UInt8), a.length = b.length → numL a = numL b → a = b
  | [], [], _, _ => rfl
  | x :: a, y :: b, hl, h => by
    have hl' : a.length = b.length := by simpa using hl
    rw [numL_cons, numL_cons, hl'] at h
    have h1 := numL_lt a
    have h2 := numL_lt b
    rw [hl'] at h1
    have hxy : x.toNat = y.toNat := by
      have e1 : (x.toNat * 256 ^ b.length + numL a) / 256 ^ b.length = x.toNat := by
        rw [Nat.mul_comm, Nat.mul_add_div (by exact Nat.pow_pos (by omega)), Nat.div_eq_of_lt h1]; omega
      have e2 : (y.toNat * 256 ^ b.length + numL b) / 256 ^ b.length = y.toNat := by
        rw [Nat.mul_comm, Nat.mul_add_div (by exact Nat.pow_pos (by omega)), Nat.div_eq_of_lt h2]; omega
      rw [← e1, ← e2, h]
    have hx : x = y := UInt8.toNat_inj.1 hxy
    subst hx
    rw [numL_inj a b hl' (by omega)]
  | [], _ :: _, hl, _ => by simp at hl
  | _ :: _, [], hl, _ => by simp at hl
theorem numL_lex : ∀ (a b : List UInt8) (i : Nat), a.length = b.length → i < a.length → (∀ j, j < i → a.getD j 0 = b.getD j 0) → a.getD i 0 < b.getD i 0 → numL a < numL b
  | [], _, i, _, hi, _, _ => by simp at hi
  | x :: a, [], i, hl, _, _, _ => by simp at hl
  | x :: a, y :: b, 0, hl, _, _, h => by
    have hl' : a.length = b.length := by simpa using hl
    rw [numL_cons, numL_cons, hl']
    have h1 := numL_lt a
    rw [hl'] at h1
    have hxy : x.toNat < y.toNat := by simpa using UInt8.lt_iff_toNat_lt.1 (by simpa using h)
    have : (x.toNat + 1) * 256 ^ b.length ≤ y.toNat * 256 ^ b.length := Nat.mul_le_mul_right _ (by omega)
    rw [Nat.add_mul] at this
    omega
  | x :: a, y :: b, i + 1, hl, hi, hj, h => by
    have hl' : a.length = b.length := by simpa using hl
    have hx : x = y := by simpa using hj 0 (by omega)
    subst hx
    rw [numL_cons, numL_cons, hl']
    have := numL_lex a b i hl' (by simpa using hi) (fun j hj' => by simpa using hj (j + 1) (by omega)) (by simpa using h)
    omega

def Dig.num (k : Dig) : Nat := numL k.1
theorem Dig.num_lt (k : Dig) : k.num < 2 ^ 256 := by
  have := numL_lt k.1
  rw [k.2] at this
  have e : (256 : Nat) ^ 32 = 2 ^ 256 := by decide +kernel
  rw [e] at this
  exact this
theorem Dig.num_inj {a b : Dig} (h : a.num = b.num) : a = b := Subtype.ext (numL_inj _ _ (by rw [a.2, b.2]) h)
theorem Dig.lex {a b : Dig} {i : Nat} (hi : i < 32) (hj : ∀ j, j < i → a.at j = b.at j) (h : a.at i < b.at i) : a.num < b.num :=
  numL_lex _ _ i (by rw [a.2, b.2]) (by rw [a.2]; exact hi) hj h
theorem Dig.ext_at {a b : Dig} (h : ∀ j, j < 32 → a.at j = b.at j) : a = b := by
  refine Subtype.ext (List.ext_getElem (by rw [a.2, b.2]) fun j h1 h2 => ?_)
  have := h j (by rw [a.2] at h1; exact h1)
  simpa [Dig.at, List.getD, List.getElem?_eq_getElem, h1, h2] using this
/-- Is a key ahead of another one? -/
def aheadB (a b : Dig) : Bool := decide (a.num < b.num)
theorem aheadB_self (a : Dig) : aheadB a a = false := by simp [aheadB]
theorem aheadB_diff {a b : Dig} {i : Nat} (hi : i < 32) (hj : ∀ j, j < i → a.at j = b.at j) (hne : a.at i ≠ b.at i) : aheadB a b = decide (((a.at i).toNat : Int) < (b.at i).toNat) := by
  unfold aheadB
  rcases Nat.lt_or_ge (a.at i).toNat (b.at i).toNat with h | h
  · have := Dig.lex hi hj (UInt8.lt_iff_toNat_lt.2 h)
    simp [this, h]
  · have hlt : (b.at i).toNat < (a.at i).toNat := by
      rcases Nat.lt_or_eq_of_le h with h1 | h1
      · exact h1
      · exact absurd (UInt8.toNat_inj.1 h1.symm) hne
    have := Dig.lex hi (fun j hj' => (hj j hj').symm) (UInt8.lt_iff_toNat_lt.2 hlt)
    have h2 : ¬ a.num < b.num := by omega
    have h3 : ¬ ((a.at i).toNat : Int) < (b.at i).toNat := by omega
    simp [h2, h3]
end Go.Proofs.YtefneilaongpbaaDoor
