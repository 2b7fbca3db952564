/-
  Go's data as plain data: digests, pairs, nodes, proofs; how they lie in memory.
-/
import Derived.Test.YtefneilaongpbaaDoorFacts
set_option linter.unusedVariables false
namespace Go.Proofs.YtefneilaongpbaaDoor
open Go Go.Bd

/-- A digest: 32 bytes. -/
def Dig := { l : List UInt8 // l.length = 32 }
instance : DecidableEq Dig := inferInstanceAs (DecidableEq { l : List UInt8 // l.length = 32 })
def Dig.cells (k : Dig) : List Value := k.1.map bv
abbrev dv (k : Dig) : Value := .agg k.cells.toArray
theorem Dig.len (k : Dig) : k.cells.length = 32 := by simp [Dig.cells, k.2]
theorem Dig.one (k : Dig) : ∀ u ∈ k.cells, u.oneCell' = true := by
  intro u hu
  obtain ⟨b, _, rfl⟩ := List.mem_map.1 hu
  rfl
def Dig.at (k : Dig) (i : Nat) : UInt8 := k.1.getD i 0
theorem Dig.cell_at (k : Dig) (i : Nat) (h : i < 32) : k.cells[i]? = some (bv (k.at i)) := by
  simp [Dig.cells, Dig.at, List.getD, k.2, h]
/-- Bit i of a digest. -/
def Dig.bit (k : Dig) (i : Nat) : Nat := (k.at (i / 8)).toNat / 2 ^ (7 - i % 8) % 2
theorem Dig.bit_lt (k : Dig) (i : Nat) : k.bit i < 2 := Nat.mod_lt _ (by omega)
end Go.Proofs.YtefneilaongpbaaDoor
