/-
  SHA-256 in plain Lean; what is digested of tagged parts.
-/
import Derived.Test.YtefneilaongpbaaDoorMem
set_option linter.unusedVariables false
set_option linter.unusedSimpArgs false
namespace Go.Proofs.YtefneilaongpbaaDoor
open Go Go.Bd
/-- A word turned down. -/
def rotr (x n : UInt32) : UInt32 := x >>> n ||| x <<< (32 - n)
/-- Word t of a block. -/
def wordAt (b : Bytes) (t : Nat) : UInt32 := (b.getD (4 * t) 0).toUInt32 <<< 24 ||| (b.getD (4 * t + 1) 0).toUInt32 <<< 16 ||| (b.getD (4 * t + 2) 0).toUInt32 <<< 8 ||| (b.getD (4 * t + 3) 0).toUInt32
def wNext (w : List UInt32) (t : Nat) : UInt32 :=
  w.getD (t - 16) 0 + (rotr (w.getD (t - 15) 0) 7 ^^^ rotr (w.getD (t - 15) 0) 18 ^^^ w.getD (t - 15) 0 >>> 3) + w.getD (t - 7) 0 + (rotr (w.getD (t - 2) 0) 17 ^^^ rotr (w.getD (t - 2) 0) 19 ^^^ w.getD (t - 2) 0 >>> 10)
def wAt (b : Bytes) : Nat → List UInt32
  | 0 => List.replicate 64 0
  | t + 1 => (wAt b t).set t (if t < 16 then wordAt b t else wNext (wAt b t) t)
def kTab : List UInt32 := [0x428a2f98, 0x71374491, 0xb5c0fbcf, 0xe9b5dba5, 0x3956c25b, 0x59f111f1, 0x923f82a4, 0xab1c5ed5,
  0xd807aa98, 0x12835b01, 0x243185be, 0x550c7dc3, 0x72be5d74, 0x80deb1fe, 0x9bdc06a7, 0xc19bf174,
  0xe49b69c1, 0xefbe4786, 0x0fc19dc6, 0x240ca1cc, 0x2de92c6f, 0x4a7484aa, 0x5cb0a9dc, 0x76f988da,
  0x983e5152, 0xa831c66d, 0xb00327c8, 0xbf597fc7, 0xc6e00bf3, 0xd5a79147, 0x06ca6351, 0x14292967,
  0x27b70a85, 0x2e1b2138, 0x4d2c6dfc, 0x53380d13, 0x650a7354, 0x766a0abb, 0x81c2c92e, 0x92722c85,
  0xa2bfe8a1, 0xa81a664b, 0xc24b8b70, 0xc76c51a3, 0xd192e819, 0xd6990624, 0xf40e3585, 0x106aa070,
  0x19a4c116, 0x1e376c08, 0x2748774c, 0x34b0bcb5, 0x391c0cb3, 0x4ed8aa4a, 0x5b9cca4f, 0x682e6ff3,
  0x748f82ee, 0x78a5636f, 0x84c87814, 0x8cc70208, 0x90befffa, 0xa4506ceb, 0xbef9a3f7, 0xc67178f2]
def rndA (v : List UInt32) (k w : UInt32) : UInt32 :=
  v.getD 7 0 + (rotr (v.getD 4 0) 6 ^^^ rotr (v.getD 4 0) 11 ^^^ rotr (v.getD 4 0) 25) + ((v.getD 4 0 &&& v.getD 5 0) ^^^ (~~~ v.getD 4 0 &&& v.getD 6 0)) + k + w
def rndB (v : List UInt32) : UInt32 :=
  (rotr (v.getD 0 0) 2 ^^^ rotr (v.getD 0 0) 13 ^^^ rotr (v.getD 0 0) 22) + ((v.getD 0 0 &&& v.getD 1 0) ^^^ (v.getD 0 0 &&& v.getD 2 0) ^^^ (v.getD 1 0 &&& v.getD 2 0))
def rnd (v : List UInt32) (k w : UInt32) : List UInt32 :=
  [rndA v k w + rndB v, v.getD 0 0, v.getD 1 0, v.getD 2 0, v.getD 3 0 + rndA v k w, v.getD 4 0, v.getD 5 0, v.getD 6 0]
def vAt (s w : List UInt32) : Nat → List UInt32
  | 0 => s
  | t + 1 => rnd (vAt s w t) (kTab.getD t 0) (w.getD t 0)
/-- The state behind a block. -/
def compress (s : List UInt32) (b : Bytes) : List UInt32 := List.zipWith (· + ·) s (vAt s (wAt b 64) 64)
def shaInit : List UInt32 := [0x6a09e667, 0xbb67ae85, 0x3c6ef372, 0xa54ff53a, 0x510e527f, 0x9b05688c, 0x1f83d9ab, 0x5be0cd19]
def chunk (p : Bytes) (j : Nat) : Bytes := (p.drop (64 * j)).take 64
/-- The state behind j blocks. -/
def stAt (p : Bytes) : Nat → List UInt32
  | 0 => shaInit
  | j + 1 => compress (stAt p j) (chunk p j)
/-- How many zeros. -/
def zerosN (n : Nat) : Nat := (119 - n % 64) % 64
def be8 (n : Nat) : Bytes := (List.range 8).map fun i => UInt8.ofNat (n / 256 ^ (7 - i))
def padded (b : Bytes) : Bytes := b ++ (128 :: (List.replicate (zerosN b.length) 0 ++ be8 (8 * b.length)))
def outB (s : List UInt32) : Bytes := (List.range 32).map fun i => (s.getD (i / 4) 0 >>> (24 - 8 * (UInt32.ofNat (i % 4)))).toUInt8
theorem outB_len (s : List UInt32) : (outB s).length = 32 := by simp [outB]
def shaB (b : Bytes) : Bytes := outB (stAt (padded b) ((padded b).length / 64))
theorem padded_len (b : Bytes) : (padded b).length = b.length + 9 + zerosN b.length := by simp [padded, be8]; omega
theorem padded_mod (b : Bytes) : (padded b).length % 64 = 0 := by rw [padded_len]; unfold zerosN; omega
theorem zeros_spec (n : Nat) : (n + 1 + zerosN n) % 64 = 56 ∧ ∀ i, i < zerosN n → (n + 1 + i) % 64 ≠ 56 := by unfold zerosN; constructor <;> omega
theorem not_eq (e : UInt32) : 4294967295 - e = ~~~ e := by
  apply UInt32.toBitVec_inj.1
  simp only [UInt32.toBitVec_sub, UInt32.toBitVec_not]
  rw [← BitVec.allOnes_sub_eq_not]
  rfl
theorem compress_len {s : List UInt32} {b : Bytes} (h : s.length = 8) : (compress s b).length = 8 := by
  have : ∀ t, (vAt s (wAt b 64) t).length = 8 := by
    intro t
    cases t with
    | zero => exact h
    | succ t => rfl
  simp [compress, h, this]
theorem vAt_len {s w : List UInt32} (h : s.length = 8) (t : Nat) : (vAt s w t).length = 8 := by
  cases t with
  | zero => exact h
  | succ t => rfl
theorem wAt_len (b : Bytes) : ∀ t, (wAt b t).length = 64
  | 0 => by simp [wAt]
  | t + 1 => by simp [wAt, wAt_len b t]
theorem stAt_len (p : Bytes) : ∀ j, (stAt p j).length = 8
  | 0 => rfl
  | j + 1 => compress_len (stAt_len p j)
theorem or_add (a : Nat) {b i : Nat} (h : b < 2 ^ i) : a <<< i ||| b = a * 2 ^ i + b := by
  rw [← Nat.shiftLeft_add_eq_or_of_lt h, Nat.shiftLeft_eq]
theorem word_toNat (b0 b1 b2 b3 : UInt8) : (b0.toUInt32 <<< 24 ||| b1.toUInt32 <<< 16 ||| b2.toUInt32 <<< 8 ||| b3.toUInt32).toNat = ((b0.toNat * 256 + b1.toNat) * 256 + b2.toNat) * 256 + b3.toNat := by
  have h0 := b0.toNat_lt
  have h1 := b1.toNat_lt
  have h2 := b2.toNat_lt
  have h3 := b3.toNat_lt
  have e : ∀ (x : UInt8) (n : UInt32), n.toNat ≤ 24 → (x.toUInt32 <<< n).toNat = x.toNat <<< n.toNat := by
    intro x n hn
    have hx := x.toNat_lt
    rw [UInt32.toNat_shiftLeft, UInt8.toNat_toUInt32]
    have : n.toNat % 32 = n.toNat := Nat.mod_eq_of_lt (by omega)
    rw [this, Nat.mod_eq_of_lt]
    rw [Nat.shiftLeft_eq]
    have : 2 ^ n.toNat ≤ 2 ^ 24 := Nat.pow_le_pow_right (by omega) hn
    calc x.toNat * 2 ^ n.toNat ≤ 255 * 2 ^ 24 := Nat.mul_le_mul (by omega) this
      _ < 2 ^ 32 := by decide
  rw [UInt32.toNat_or, UInt32.toNat_or, UInt32.toNat_or, e _ 24 (by decide), e _ 16 (by decide), e _ 8 (by decide), UInt8.toNat_toUInt32]
  show ((b0.toNat <<< 24 ||| b1.toNat <<< 16) ||| b2.toNat <<< 8) ||| b3.toNat = _
  have e1 : b0.toNat <<< 24 ||| b1.toNat <<< 16 = (b0.toNat * 256 + b1.toNat) <<< 16 := by
    rw [← or_add b0.toNat (i := 8) (by omega), Nat.shiftLeft_or_distrib, ← Nat.shiftLeft_add]
  rw [e1]
  have e2 : (b0.toNat * 256 + b1.toNat) <<< 16 ||| b2.toNat <<< 8 = ((b0.toNat * 256 + b1.toNat) * 256 + b2.toNat) <<< 8 := by
    rw [← or_add _ (i := 8) (by omega : b2.toNat < 2 ^ 8), Nat.shiftLeft_or_distrib, ← Nat.shiftLeft_add]
  rw [e2, or_add _ (i := 8) (by omega : b3.toNat < 2 ^ 8)]
/-- A word, as it is summed up. -/
theorem word_sum (b0 b1 b2 b3 : UInt8) : (256 : UInt32) * ((256 : UInt32) * ((256 : UInt32) * ((256 : UInt32) * 0 + b0.toUInt32) + b1.toUInt32) + b2.toUInt32) + b3.toUInt32 = (b0.toUInt32 <<< (24 : UInt32) ||| b1.toUInt32 <<< (16 : UInt32) ||| b2.toUInt32 <<< (8 : UInt32) ||| b3.toUInt32) := by
  apply UInt32.toNat_inj.1
  rw [word_toNat]
  have h0 := b0.toNat_lt
  have h1 := b1.toNat_lt
  have h2 := b2.toNat_lt
  have h3 := b3.toNat_lt
  simp only [UInt32.toNat_add, UInt32.toNat_mul, UInt8.toNat_toUInt32, UInt32.toNat_zero]
  have e : (256 : UInt32).toNat = 256 := rfl
  rw [e]
  omega
theorem rot_or (x n : UInt32) : x <<< (32 - n) ||| x >>> n = rotr x n := by unfold rotr; rw [UInt32.or_comm]
theorem chunk_front {b : Bytes} {j : Nat} (h : 64 * (j + 1) ≤ b.length) : chunk (padded b) j = (b.drop (64 * j)).take 64 := by
  unfold chunk padded
  rw [List.drop_append_of_le_length (by omega), List.take_append_of_le_length (by simp; omega)]
def shaD (b : Bytes) : Dig := ⟨shaB b, outB_len _⟩
/-- A length, in four bytes. -/
def be4 (n : Nat) : Bytes := [UInt8.ofNat (n / 16777216), UInt8.ofNat (n / 65536), UInt8.ofNat (n / 256), UInt8.ofNat n]
def tagB (kind : UInt8) (parts : List Bytes) : Bytes := kind :: parts.flatMap fun p => be4 p.length ++ p
def noneD : Dig := shaD (tagB 0 [])
def leafD (k : Dig) (v : Bytes) : Dig := shaD (tagB 1 [k.1, v])
def twoD (a b : Dig) : Dig := shaD (tagB 2 [a.1, b.1])
end Go.Proofs.YtefneilaongpbaaDoor
