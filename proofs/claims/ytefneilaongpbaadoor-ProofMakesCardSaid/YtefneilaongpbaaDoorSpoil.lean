/-
  Turning bytes of one's own memory.
-/
import Derived.Test.YtefneilaongpbaaDoorPrf
set_option linter.unusedVariables false
set_option linter.unusedSimpArgs false
set_option maxRecDepth 100000
namespace Go.Proofs.YtefneilaongpbaaDoor
open Go Go.Bd Go.RowKit

def IsB (cs : List Value) : Prop := ∀ c ∈ cs, ∃ b : UInt8, c = bv b
theorem isB_bcells (bs : Bytes) : IsB (bcells bs) := by
  intro c hc
  obtain ⟨b, _, rfl⟩ := List.mem_map.1 hc
  exact ⟨b, rfl⟩
theorem isB_dcells (ds : List Dig) : IsB (dcells ds) := by
  intro c hc
  obtain ⟨d, _, h⟩ := List.mem_flatMap.1 hc
  obtain ⟨b, _, rfl⟩ := List.mem_map.1 h
  exact ⟨b, rfl⟩
theorem IsB.set {cs : List Value} (h : IsB cs) (k : Nat) (b : UInt8) : IsB (cs.set k (bv b)) := by
  intro c hc
  rcases List.mem_or_eq_of_mem_set hc with h1 | h1
  · exact h c h1
  · exact ⟨b, h1⟩
theorem run_add1_u8 (b : UInt8) (w : World) {P : Program} {t : TypeId} {x y : Operand} : (do eqGuard .add t x y (bv b) (.int .u8 1); binOp .add t (bv b) (.int .u8 1) : Sem Value).run P w = .ok (bv (b + 1)) w := by
  have h : ∀ y : Fin 256, IntKind.u8.wrap ((y.1 : Int) + 1) = (((y.1 + 1) % 256 : Nat) : Int) := by decide +kernel
  have h1 := h ⟨b.toNat, b.toNat_lt⟩
  have e : (b + 1).toNat = (b.toNat + 1) % 256 := by rw [UInt8.toNat_add]; rfl
  show Result.ok (Value.int .u8 (IntKind.u8.wrap ((b.toNat : Int) + 1))) w = _
  rw [h1]
  show _ = Result.ok (Value.int .u8 ((b + 1).toNat : Int)) w
  rw [e]
/-- Cell k of a slice of one's own. -/
theorem _root_.Go.Bd.Own.atCell {B : Nat} {w : World} {v : Value} {n sz : Nat} {T : TypeId} {cs : List Value} (h : Own B w v n sz T cs) (hb : IsB cs) {k : Nat} (hk : k < n * sz) :
    ∃ g cap rest b, v = .slice (some ⟨g, 0, none⟩) n cap ∧ rowOf v = some g ∧ Blk w g T (cs ++ rest) ∧ k < (cs ++ rest).length ∧ At any w g k [bv b] ∧ ∀ w' c, Blk w' g T ((cs ++ rest).set k (bv c)) → Own B w' v n sz T (cs.set k (bv c)) := by
  obtain ⟨hl, h⟩ := h
  rcases h with ⟨rfl, p, rfl⟩ | ⟨g, cap, rest, rfl, hB, hn, hblk, hr⟩
  · simp at hk
  · have hkl : k < cs.length := by omega
    obtain ⟨b, hbb⟩ := hb cs[k] (List.getElem_mem hkl)
    have hck : cs[k]? = some (bv b) := by rw [List.getElem?_eq_getElem hkl, hbb]
    refine ⟨g, cap, rest, b, rfl, ?_, hblk, by simp; omega, ?_, fun w' c hB' => ⟨by simp [hl], .inr ⟨g, cap, rest, rfl, hB, hn, ?_, hr⟩⟩⟩
    · cases cap with
      | zero =>
        obtain rfl : n = 0 := by omega
        simp at hk
      | succ c => rfl
    · have : (cs ++ rest)[k]? = some (bv b) := by rw [List.getElem?_append_left hkl]; exact hck
      exact (hblk.one this).imp fun _ _ _ => trivial
    · rw [List.set_append_left _ _ hkl] at hB'
      exact hB'
theorem nbeq_self (b : Bool) : (!(b == b)) = false := by cases b <;> rfl
end Go.Proofs.YtefneilaongpbaaDoor
