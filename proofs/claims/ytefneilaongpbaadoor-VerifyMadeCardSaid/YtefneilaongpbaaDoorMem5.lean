/-
  Texts as bytes.
-/
import Derived.Test.YtefneilaongpbaaDoorEq
import Derived.Lib.ConvBytes
set_option linter.unusedVariables false
set_option linter.unusedSimpArgs false
set_option maxRecDepth 100000
namespace Go.Bd
open Go.RowKit Go.Proofs.YtefneilaongpbaaDoor
section
variable {P : Program} {n : Sz} {Q : Act → World → Prop} {f : Fr} {w : World} {ops : Array Oper} {rest : List Oper} {tt : List (Nat × Ti)} {d : Nat} {ty : TypeId} {pos : String} {aft : Array Edge} {g : Option (Nat × Bool)}
theorem GL.strBytes {src dst e : TypeId} {i ie : Ti} {x : Operand} {s : ByteArray} {u : TypeDesc} (hT : Tys P tt) (hw : want ops f g = some true) (hlt : Nat.blt d n.size = true) (hs : P.underlying src = some u) (hi : TT.get tt dst = some i) (hdesc : i.desc = .slice e) (hie : TT.get tt e = some ie) (hde : ie.desc = .int .u8)
    (hx : ev f x = some (.string s)) (h : ∀ v w', RdB (fun b _ => w.heap.size ≤ b) w' v s.data.toList → Ext w w' → GL P n Q ops rest ((d, v) :: f) w') : GL P n Q ops (⟨some d, .convert src dst x, ty, pos, aft, g⟩ :: rest) f w := by
  have hd : P.underlying dst = some (.slice e) := by have := (hT.ok dst i hi).desc; rw [hdesc] at this; exact this
  have he : P.underlying e = some (.int .u8) := by have := (hT.ok e ie hie).desc; rw [hde] at this; exact this
  have hr := Lib.run_convert_string_bytes (P := P) w src dst e s hs hd he
  have hge := grownCap_ge w s.size 0 e
  refine GL.yields (v := .slice (some ⟨w.heap.size, 0, none⟩) s.size (grownCap w s.size 0 e)) (w' := Lib.bytesWorld w e s) hw rfl hlt (fun a ha => by simp [execOp, ha.eval hx, hr]) (h _ _ ?_ ?_)
  · refine ⟨_, _, rfl, ?_, ?_⟩
    · show s.data.toList.length ≤ _
      simpa using hge
    · by_cases h0 : s.data.toList = []
      · left; rw [h0]; rfl
      · right
        refine ⟨w.heap.size, 0, rfl, _, e, _, Lib.bytesWorld_at_new w e s, Nat.le_refl _, fun j v hj => ?_⟩
        simp only [bcells, List.getElem?_map] at hj
        have hjl : j < s.data.toList.length := by
          rcases Nat.lt_or_ge j s.data.toList.length with h1 | h1
          · exact h1
          · rw [List.getElem?_eq_none h1] at hj; cases hj
        rw [List.getElem?_eq_getElem hjl] at hj
        simp only [Option.map_some, Option.some.injEq] at hj
        have hjl' : j < s.data.size := by simpa using hjl
        rw [Nat.zero_add, Lib.bytesCells, Array.getElem?_append_left (by simpa using hjl')]
        subst hj
        simp [Array.getElem?_map, Array.getElem?_eq_getElem hjl', bv]
  · exact ⟨rfl, rfl, rfl, by rw [Lib.bytesWorld_size]; omega, fun k hk => Lib.bytesWorld_at_old w e s k hk⟩
/-- A mark behind one's own block. -/
theorem GL.mark {t e T : TypeId} {i ie : Ti} {x : Operand} {b o m c : Nat} {cs : List Value} (hT : Tys P tt) (hw : want ops f g = some true) (hlt : Nat.blt d n.size = true) (hi : TT.get tt t = some i) (hdesc : i.desc = .slice e) (hie : TT.get tt e = some ie) (hde : ie.desc = .int .u8)
    (hx : ev f x = some (.slice (some ⟨b, o, none⟩) m c)) (hB : Blk w b T cs) (h : ∀ w', Chg b w w' → At any w' b 0 cs → GL P n Q ops rest ((d, .slice (some ⟨b, o, none⟩) m c) :: f) w') : GL P n Q ops (⟨some d, .convert t t x, ty, pos, aft, g⟩ :: rest) f w := by
  have hd : P.underlying t = some (.slice e) := by have := (hT.ok t i hi).desc; rw [hdesc] at this; exact this
  have he : P.underlying e = some (.int .u8) := by have := (hT.ok e ie hie).desc; rw [hde] at this; exact this
  have hh : w.heap[b]? = some (.cells cs.toArray T (0, 0)) := hB
  have hsh : w.shape? b = some (T, cs.toArray.size) := by simp [World.shape?, hh]
  refine GL.yields (v := .slice (some ⟨b, o, none⟩) m c) (w' := w.freeze ⟨b, cs.toArray.size, none⟩ 1) hw rfl hlt (fun a ha => ?_) (h _ ?_ ?_)
  · simp [execOp, ha.eval hx, convert, run_underlying hd, run_underlying he, markStringish, hsh]
  · refine ⟨rfl, rfl, rfl, by simp [World.freeze], fun k hk => ?_⟩
    simp [World.freeze, Array.getElem?_modify, Ne.symm hk]
  · refine ⟨cs.toArray, T, (cs.toArray.size, cs.toArray.size + 1), ?_, trivial, fun j v hj => by simpa using hj⟩
    simp [World.freeze, Array.getElem?_modify, hh]
end
end Go.Bd
namespace Go.Proofs.YtefneilaongpbaaDoor
open Go Go.Bd Go.RowKit
/-- A key of a first byte. -/
def key1 (k : UInt8) : Dig := ⟨k :: List.replicate 31 0, by simp⟩
theorem key1_cells (k : UInt8) : (key1 k).cells = bv k :: List.replicate 31 (.int .u8 0) := by simp [key1, Dig.cells, bv]
theorem key1_num {a b : UInt8} (h : a < b) : (key1 a).num < (key1 b).num := Dig.lex (i := 0) (by omega) (fun j hj => by omega) h
theorem key1_ne {a b : UInt8} (h : a ≠ b) : key1 a ≠ key1 b := fun e => h (by have := congrArg (fun k => k.at 0) e; exact this)
end Go.Proofs.YtefneilaongpbaaDoor
