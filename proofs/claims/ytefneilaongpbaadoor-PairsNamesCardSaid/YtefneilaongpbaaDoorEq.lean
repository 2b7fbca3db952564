import Derived.Test.YtefneilaongpbaaDoorMem
import Derived.Laws.BytesArg
import Derived.Laws.Strings
import Derived.Lib.SliceRun
/-
  Comparing slices with nil, truth values, texts; bytes as texts.
-/
set_option linter.unusedVariables false
set_option linter.unusedSimpArgs false
set_option maxRecDepth 100000
namespace Go.Bd
open Go Go.RowKit
section
variable {P : Program} {n : Sz} {Q : Act → World → Prop} {f : Fr} {w : World} {ops : Array Oper} {rest : List Oper} {tt : List (Nat × Ti)} {d : Nat} {ty : TypeId} {pos : String} {aft : Array Edge} {g : Option (Nat × Bool)}
theorem run_eqnil {t t' e : TypeId} {i : Ti} {x : Operand} {p : Option Addr} {m c : Nat} (hT : Tys P tt) (hi : TT.get tt t = some i) (hdesc : i.desc = .slice e) (hx : ev f x = some (.slice p m c)) (w : World) :
    ∀ a, St n f a → (execOp a.eval ⟨some d, .binOp .eql t x (.const (.slice none 0 0)) t', ty, pos, aft, g⟩).run P w = .ok (.value (.bool p.isNone)) w := by
  intro a ha
  have hu : P.underlying t = some (.slice e) := by have := (hT.ok t i hi).desc; rw [hdesc] at this; exact this
  have := Lib.run_eql_slice_nil (P := P) w t e p m c 0 0 hu
  have hc : a.eval (.const (.slice none 0 0)) = .slice none 0 0 := rfl
  simp [execOp, ha.eval hx, hc, eqGuard, this]
theorem GL.eqnil {t t' e : TypeId} {i : Ti} {x : Operand} {p : Option Addr} {m c : Nat} (hT : Tys P tt) (hw : want ops f g = some true) (hlt : Nat.blt d n.size = true) (hi : TT.get tt t = some i) (hdesc : i.desc = .slice e) (hx : ev f x = some (.slice p m c))
    (h : GL P n Q ops rest ((d, .bool p.isNone) :: f) w) : GL P n Q ops (⟨some d, .binOp .eql t x (.const (.slice none 0 0)) t', ty, pos, aft, g⟩ :: rest) f w :=
  GL.yields hw rfl hlt (run_eqnil hT hi hdesc hx w) h
theorem run_eqbool {t t' : TypeId} {op : BinOp} {x y : Operand} {A B c : Bool} (hu : P.underlying t = some .bool) (hx : ev f x = some (.bool A)) (hy : ev f y = some (.bool B)) (hop : (op = .eql ∧ c = (A == B)) ∨ (op = .neq ∧ c = !(A == B))) (w : World) :
    ∀ a, St n f a → (execOp a.eval ⟨some d, .binOp op t x y t', ty, pos, aft, g⟩).run P w = .ok (.value (.bool c)) w := by
  intro a ha
  have := run_equal_bool (P := P) w t A B hu
  rcases hop with ⟨rfl, rfl⟩ | ⟨rfl, rfl⟩
  · simp [execOp, ha.eval hx, ha.eval hy, eqGuard, binOp, this]
  · simp [execOp, ha.eval hx, ha.eval hy, eqGuard, binOp, this]
theorem GL.eqbool {t t' : TypeId} {op : BinOp} {x y : Operand} {A B c : Bool} (hu : P.underlying t = some .bool) (hw : want ops f g = some true) (hlt : Nat.blt d n.size = true) (hx : ev f x = some (.bool A)) (hy : ev f y = some (.bool B)) (hop : (op = .eql ∧ c = (A == B)) ∨ (op = .neq ∧ c = !(A == B)))
    (h : GL P n Q ops rest ((d, .bool c) :: f) w) : GL P n Q ops (⟨some d, .binOp op t x y t', ty, pos, aft, g⟩ :: rest) f w :=
  GL.yields hw rfl hlt (run_eqbool hu hx hy hop w) h
theorem GQ.eqbool {t t' : TypeId} {op : BinOp} {x y : Operand} {A B c : Bool} (hu : P.underlying t = some .bool) (hw : want ops f g = some true) (hlt : Nat.blt d n.size = true) (hx : ev f x = some (.bool A)) (hy : ev f y = some (.bool B)) (hop : (op = .eql ∧ c = (A == B)) ∨ (op = .neq ∧ c = !(A == B)))
    (h : GQ P n Q ops rest ((d, .bool c) :: f) w) : GQ P n Q ops (⟨some d, .binOp op t x y t', ty, pos, aft, g⟩ :: rest) f w :=
  GQ.yields hw rfl hlt (fun w _ => run_eqbool hu hx hy hop w) h
/-- A text's value. -/
abbrev sv (bs : List UInt8) : Value := .string ⟨bs.toArray⟩
theorem run_toString {S : Nat → Nat × Nat → Prop} {src dst e : TypeId} {i ie : Ti} {x : Operand} {v : Value} {bs : List UInt8} (hT : Tys P tt) (hi : TT.get tt src = some i) (hdesc : i.desc = .slice e) (hie : TT.get tt e = some ie) (hde : ie.desc = .int .u8) (hd : P.underlying dst = some .string) (hx : ev f x = some v) (hb : Go.Proofs.YtefneilaongpbaaDoor.RdB S w v bs) :
    ∀ a, St n f a → (execOp a.eval ⟨some d, .convert src dst x, ty, pos, aft, g⟩).run P w = .ok (.value (sv bs)) w := by
  intro a ha
  have hu : P.underlying src = some (.slice e) := by have := (hT.ok src i hi).desc; rw [hdesc] at this; exact this
  have he : P.underlying e = some (.int .u8) := by have := (hT.ok e ie hie).desc; rw [hde] at this; exact this
  obtain ⟨p, c, rfl, hc, hcs⟩ := hb
  have hrun : (convert src dst (.slice p bs.length c)).run P w = .ok (sv bs) w := by
    cases p with
    | none =>
      have hnil : bs = [] := by
        rcases hcs with h | ⟨b, o, h, _⟩
        · cases bs with
          | nil => rfl
          | cons b bs => simp [Go.Proofs.YtefneilaongpbaaDoor.bcells] at h
        · cases h
      subst hnil
      exact run_convert_bytes_nil (P := P) w src e hu he 0 c dst hd
    | some ad =>
      have key : (loadCells ad bs.length).run P w = .ok ((bs.map fun b => (b.toNat : Int)).map (Value.int .u8)).toArray w := by
        have e1 : (bs.map fun b => (b.toNat : Int)).map (Value.int .u8) = bs.map bv := by simp [List.map_map, Function.comp_def, bv]
        rw [e1]
        have := run_loadCells_list (P := P) w ad (bs.map bv) (fun j u hj => by
          rcases hcs with h | ⟨b, o, h, hA⟩
          · have h' : bs.map bv = [] := h
            rw [h'] at hj
            simp at hj
          · cases h
            rw [add_addr]
            exact hA.cell hj)
        simpa using this
      rw [run_convert_bytes_string w src dst e _ _ c hu he hd, run_bytesToString w _ _ c _ key, foldl_push_bytes]
      congr 2
      simp [ByteArray.empty, ByteArray.emptyWithCapacity]
      show List.map ((fun n : Int => UInt8.ofNat n.toNat) ∘ fun b : UInt8 => (b.toNat : Int)) bs = bs
      conv => rhs; rw [← List.map_id bs]
      apply List.map_congr_left
      intro b _
      simp
  simp [execOp, ha.eval hx, hrun]
theorem GL.toString {S : Nat → Nat × Nat → Prop} {src dst e : TypeId} {i ie : Ti} {x : Operand} {v : Value} {bs : List UInt8} (hT : Tys P tt) (hw : want ops f g = some true) (hlt : Nat.blt d n.size = true) (hi : TT.get tt src = some i) (hdesc : i.desc = .slice e) (hie : TT.get tt e = some ie) (hde : ie.desc = .int .u8) (hd : P.underlying dst = some .string) (hx : ev f x = some v) (hb : Go.Proofs.YtefneilaongpbaaDoor.RdB S w v bs)
    (h : GL P n Q ops rest ((d, sv bs) :: f) w) : GL P n Q ops (⟨some d, .convert src dst x, ty, pos, aft, g⟩ :: rest) f w :=
  GL.yields hw rfl hlt (run_toString hT hi hdesc hie hde hd hx hb) h
theorem GQ.toString {S : Nat → Nat × Nat → Prop} {src dst e : TypeId} {i ie : Ti} {x : Operand} {v : Value} {bs : List UInt8} (hT : Tys P tt) (hw : want ops f g = some true) (hlt : Nat.blt d n.size = true) (hi : TT.get tt src = some i) (hdesc : i.desc = .slice e) (hie : TT.get tt e = some ie) (hde : ie.desc = .int .u8) (hd : P.underlying dst = some .string) (hx : ev f x = some v) (hb : Go.Proofs.YtefneilaongpbaaDoor.RdB S w v bs)
    (h : GQ P n Q ops rest ((d, sv bs) :: f) w) : GQ P n Q ops (⟨some d, .convert src dst x, ty, pos, aft, g⟩ :: rest) f w :=
  GQ.yields hw rfl hlt (fun w he => run_toString hT hi hdesc hie hde hd hx (hb.ext he)) h
theorem run_eqstr {t t' : TypeId} {x y : Operand} {A B : List UInt8} (hx : ev f x = some (sv A)) (hy : ev f y = some (sv B)) (w : World) :
    ∀ a, St n f a → (execOp a.eval ⟨some d, .binOp .eql t x y t', ty, pos, aft, g⟩).run P w = .ok (.value (.bool (decide (A = B)))) w := by
  intro a ha
  have e1 : (A == B) = decide (A = B) := by rw [Bool.eq_iff_iff]; simp
  simp [execOp, ha.eval hx, ha.eval hy, eqGuard, binOp_string_eql, ByteArray.toList_eq, e1]
theorem GL.eqstr {t t' : TypeId} {x y : Operand} {A B : List UInt8} (hw : want ops f g = some true) (hlt : Nat.blt d n.size = true) (hx : ev f x = some (sv A)) (hy : ev f y = some (sv B))
    (h : GL P n Q ops rest ((d, .bool (decide (A = B))) :: f) w) : GL P n Q ops (⟨some d, .binOp .eql t x y t', ty, pos, aft, g⟩ :: rest) f w :=
  GL.yields hw rfl hlt (run_eqstr hx hy w) h
theorem GQ.eqstr {t t' : TypeId} {x y : Operand} {A B : List UInt8} (hw : want ops f g = some true) (hlt : Nat.blt d n.size = true) (hx : ev f x = some (sv A)) (hy : ev f y = some (sv B))
    (h : GQ P n Q ops rest ((d, .bool (decide (A = B))) :: f) w) : GQ P n Q ops (⟨some d, .binOp .eql t x y t', ty, pos, aft, g⟩ :: rest) f w :=
  GQ.yields hw rfl hlt (fun w _ => run_eqstr hx hy w) h
end
end Go.Bd
namespace Go.Proofs.YtefneilaongpbaaDoor
open Go Go.Bd Go.RowKit
def Dig.zero : Dig := ⟨List.replicate 32 0, by simp⟩
theorem Dig.zero_cells : Dig.zero.cells = List.replicate 32 (.int .u8 0) := by simp [Dig.zero, Dig.cells, bv]
section
variable {n : Sz} {Q : Act → World → Prop} {f : Fr} {w : World} {ops : Array Oper} {rest : List Oper} {d : Nat} {ty : TypeId} {pos : String} {aft : Array Edge} {g : Option (Nat × Bool)}
theorem eqdig_iff (A B : Dig) : decide (A = B) = true ↔ A.1 = B.1 := by
  rw [decide_eq_true_iff]
  exact ⟨fun h => by rw [h], Subtype.ext⟩
theorem nedig_iff (A B : Dig) : (!decide (A = B)) = true ↔ A.1 ≠ B.1 := by
  rw [Bool.not_eq_true', decide_eq_false_iff_not]
  exact not_congr ⟨fun h => by rw [h], Subtype.ext⟩
theorem _root_.Go.Bd.GL.eqdig {t' : TypeId} {x y : Operand} {A B : Dig} (hw : want ops f g = some true) (hlt : Nat.blt d n.size = true) (hx : ev f x = some (dv A)) (hy : ev f y = some (dv B))
    (h : GL Tryd.prog n Q ops rest ((d, .bool (decide (A = B))) :: f) w) : GL Tryd.prog n Q ops (⟨some d, .binOp .eql 25 x y t', ty, pos, aft, g⟩ :: rest) f w :=
  GL.eq_bytes hT hw hlt rfl rfl rfl rfl rfl (by kernel_rfl) hx hy A.2 B.2 (.inl ⟨rfl, eqdig_iff A B⟩) h
theorem _root_.Go.Bd.GQ.eqdig {t' : TypeId} {x y : Operand} {A B : Dig} (hw : want ops f g = some true) (hlt : Nat.blt d n.size = true) (hx : ev f x = some (dv A)) (hy : ev f y = some (dv B))
    (h : GQ Tryd.prog n Q ops rest ((d, .bool (decide (A = B))) :: f) w) : GQ Tryd.prog n Q ops (⟨some d, .binOp .eql 25 x y t', ty, pos, aft, g⟩ :: rest) f w :=
  GQ.eq_bytes hT hw hlt rfl rfl rfl rfl rfl (by kernel_rfl) hx hy A.2 B.2 (.inl ⟨rfl, eqdig_iff A B⟩) h
theorem _root_.Go.Bd.GL.nedig {t' : TypeId} {x y : Operand} {A B : Dig} (hw : want ops f g = some true) (hlt : Nat.blt d n.size = true) (hx : ev f x = some (dv A)) (hy : ev f y = some (dv B))
    (h : GL Tryd.prog n Q ops rest ((d, .bool (!decide (A = B))) :: f) w) : GL Tryd.prog n Q ops (⟨some d, .binOp .neq 25 x y t', ty, pos, aft, g⟩ :: rest) f w :=
  GL.eq_bytes hT hw hlt rfl rfl rfl rfl rfl (by kernel_rfl) hx hy A.2 B.2 (.inr ⟨rfl, nedig_iff A B⟩) h
theorem _root_.Go.Bd.GQ.nedig {t' : TypeId} {x y : Operand} {A B : Dig} (hw : want ops f g = some true) (hlt : Nat.blt d n.size = true) (hx : ev f x = some (dv A)) (hy : ev f y = some (dv B))
    (h : GQ Tryd.prog n Q ops rest ((d, .bool (!decide (A = B))) :: f) w) : GQ Tryd.prog n Q ops (⟨some d, .binOp .neq 25 x y t', ty, pos, aft, g⟩ :: rest) f w :=
  GQ.eq_bytes hT hw hlt rfl rfl rfl rfl rfl (by kernel_rfl) hx hy A.2 B.2 (.inr ⟨rfl, nedig_iff A B⟩) h
theorem _root_.Go.Bd.GL.eqdig_t {t' : TypeId} {x y : Operand} {A B : Dig} (hw : want ops f g = some true) (hlt : Nat.blt d n.size = true) (hx : ev f x = some (dv A)) (hy : ev f y = some (dv B)) (hc : A = B)
    (h : GL Tryd.prog n Q ops rest ((d, .bool true) :: f) w) : GL Tryd.prog n Q ops (⟨some d, .binOp .eql 25 x y t', ty, pos, aft, g⟩ :: rest) f w :=
  GL.eqdig hw hlt hx hy (by rw [decide_eq_true hc]; exact h)
theorem _root_.Go.Bd.GL.eqdig_f {t' : TypeId} {x y : Operand} {A B : Dig} (hw : want ops f g = some true) (hlt : Nat.blt d n.size = true) (hx : ev f x = some (dv A)) (hy : ev f y = some (dv B)) (hc : ¬ A = B)
    (h : GL Tryd.prog n Q ops rest ((d, .bool false) :: f) w) : GL Tryd.prog n Q ops (⟨some d, .binOp .eql 25 x y t', ty, pos, aft, g⟩ :: rest) f w :=
  GL.eqdig hw hlt hx hy (by rw [decide_eq_false hc]; exact h)
theorem _root_.Go.Bd.GL.nedig_f {t' : TypeId} {x y : Operand} {A B : Dig} (hw : want ops f g = some true) (hlt : Nat.blt d n.size = true) (hx : ev f x = some (dv A)) (hy : ev f y = some (dv B)) (hc : A = B)
    (h : GL Tryd.prog n Q ops rest ((d, .bool false) :: f) w) : GL Tryd.prog n Q ops (⟨some d, .binOp .neq 25 x y t', ty, pos, aft, g⟩ :: rest) f w :=
  GL.nedig hw hlt hx hy (by rw [decide_eq_true hc]; exact h)
theorem _root_.Go.Bd.GL.nedig_t {t' : TypeId} {x y : Operand} {A B : Dig} (hw : want ops f g = some true) (hlt : Nat.blt d n.size = true) (hx : ev f x = some (dv A)) (hy : ev f y = some (dv B)) (hc : ¬ A = B)
    (h : GL Tryd.prog n Q ops rest ((d, .bool true) :: f) w) : GL Tryd.prog n Q ops (⟨some d, .binOp .neq 25 x y t', ty, pos, aft, g⟩ :: rest) f w :=
  GL.nedig hw hlt hx hy (by rw [decide_eq_false hc]; exact h)
theorem _root_.Go.Bd.GQ.eqdig_t {t' : TypeId} {x y : Operand} {A B : Dig} (hw : want ops f g = some true) (hlt : Nat.blt d n.size = true) (hx : ev f x = some (dv A)) (hy : ev f y = some (dv B)) (hc : A = B)
    (h : GQ Tryd.prog n Q ops rest ((d, .bool true) :: f) w) : GQ Tryd.prog n Q ops (⟨some d, .binOp .eql 25 x y t', ty, pos, aft, g⟩ :: rest) f w :=
  GQ.eqdig hw hlt hx hy (by rw [decide_eq_true hc]; exact h)
theorem _root_.Go.Bd.GQ.eqdig_f {t' : TypeId} {x y : Operand} {A B : Dig} (hw : want ops f g = some true) (hlt : Nat.blt d n.size = true) (hx : ev f x = some (dv A)) (hy : ev f y = some (dv B)) (hc : ¬ A = B)
    (h : GQ Tryd.prog n Q ops rest ((d, .bool false) :: f) w) : GQ Tryd.prog n Q ops (⟨some d, .binOp .eql 25 x y t', ty, pos, aft, g⟩ :: rest) f w :=
  GQ.eqdig hw hlt hx hy (by rw [decide_eq_false hc]; exact h)
theorem _root_.Go.Bd.GQ.nedig_f {t' : TypeId} {x y : Operand} {A B : Dig} (hw : want ops f g = some true) (hlt : Nat.blt d n.size = true) (hx : ev f x = some (dv A)) (hy : ev f y = some (dv B)) (hc : A = B)
    (h : GQ Tryd.prog n Q ops rest ((d, .bool false) :: f) w) : GQ Tryd.prog n Q ops (⟨some d, .binOp .neq 25 x y t', ty, pos, aft, g⟩ :: rest) f w :=
  GQ.nedig hw hlt hx hy (by rw [decide_eq_true hc]; exact h)
theorem _root_.Go.Bd.GQ.nedig_t {t' : TypeId} {x y : Operand} {A B : Dig} (hw : want ops f g = some true) (hlt : Nat.blt d n.size = true) (hx : ev f x = some (dv A)) (hy : ev f y = some (dv B)) (hc : ¬ A = B)
    (h : GQ Tryd.prog n Q ops rest ((d, .bool true) :: f) w) : GQ Tryd.prog n Q ops (⟨some d, .binOp .neq 25 x y t', ty, pos, aft, g⟩ :: rest) f w :=
  GQ.nedig hw hlt hx hy (by rw [decide_eq_false hc]; exact h)
theorem _root_.Go.Bd.GL.zerodig (hw : want ops f g = some true) (hlt : Nat.blt d n.size = true)
    (h : GL Tryd.prog n Q ops rest ((d, dv Dig.zero) :: f) w) : GL Tryd.prog n Q ops (⟨some d, .build 25 #[], ty, pos, aft, g⟩ :: rest) f w := by
  rw [dv, Dig.zero_cells] at h
  exact GL.buildArr _ hT hw hlt rfl rfl rfl rfl rfl h
theorem _root_.Go.Bd.GQ.zerodig (hw : want ops f g = some true) (hlt : Nat.blt d n.size = true)
    (h : GQ Tryd.prog n Q ops rest ((d, dv Dig.zero) :: f) w) : GQ Tryd.prog n Q ops (⟨some d, .build 25 #[], ty, pos, aft, g⟩ :: rest) f w := by
  rw [dv, Dig.zero_cells] at h
  exact GQ.buildArr _ hT hw hlt rfl rfl rfl rfl rfl h
end
end Go.Proofs.YtefneilaongpbaaDoor
/-
  Results that lie in variables; what an operation of a drawn region leaves.
-/
set_option linter.unusedVariables false
set_option linter.unusedSimpArgs false
set_option maxRecDepth 100000
namespace Go.Bd
open Go Go.RowKit
section
variable {P : Program} {fn : Func} {Φ : Value → World → Prop} {n : Sz} {k : List Item} {f : Fr} {w : World} {tt : List (Nat × Ti)}
theorem run_resultN {t : Tmp} {ty : TypeId} {i : Ti} {b : Nat} {vs : List Value} {S : Nat → Nat × Nat → Prop} (hT : Tys P tt) (hi : TT.get tt ty = some i) (hg : i.desc.agg = true) (hr : fn.results = #[.cell t ty]) (hx : Fr.get f t = some (ptr b 0)) (hA : At S w b 0 vs) (hl : vs.length = i.size) :
    ∀ a, St n f a → (results fn a.tmps).run P w = .ok (.agg vs.toArray) w := fun a ha => by
  have h1 := run_loadN (P := P) hT hi hg hA hl
  have h2 : a.tmps[t]? = some (ptr b 0) := ha.at_ t _ hx
  simp [results, hr, h2, asAddr, h1]
/-- A result in a variable. -/
theorem G.retN {t : Tmp} {ty : TypeId} {i : Ti} {b : Nat} {vs : List Value} {S : Nat → Nat × Nat → Prop} (hD : n.D = []) (hro : n.ro = none) (hT : Tys P tt) (hi : TT.get tt ty = some i) (hg : i.desc.agg = true) (hr : fn.results = #[.cell t ty]) (hx : Fr.get f t = some (ptr b 0)) (hA : At S w b 0 vs) (hl : vs.length = i.size) (h : Φ (.agg vs.toArray) w) :
    G P fn (FnE P Φ) n (.code .ret :: k) f w := G.ret_of hD hro (run_resultN hT hi hg hr hx hA hl) h
/-- A result in a variable, and another one. -/
theorem G.retNt {t t' : Tmp} {ty : TypeId} {i : Ti} {b : Nat} {v' : Value} {vs : List Value} {S : Nat → Nat × Nat → Prop} (hD : n.D = []) (hro : n.ro = none) (hT : Tys P tt) (hi : TT.get tt ty = some i) (hg : i.desc.agg = true) (hr : fn.results = #[.cell t ty, .tmp t']) (hx : Fr.get f t = some (ptr b 0)) (hv' : Fr.get f t' = some v') (hA : At S w b 0 vs) (hl : vs.length = i.size) (h : Φ (.tuple #[.agg vs.toArray, v']) w) :
    G P fn (FnE P Φ) n (.code .ret :: k) f w := G.ret_of hD hro (fun a ha => by
  have h1 := run_loadN (P := P) hT hi hg hA hl
  have h2 : a.tmps[t]? = some (ptr b 0) := ha.at_ t _ hx
  have h3 : a.tmps[t']? = some v' := ha.at_ t' _ hv'
  simp [results, hr, h2, h3, asAddr, h1]) h
theorem G.ret1c {t : Tmp} {ty : TypeId} {i : Ti} {b : Nat} {v : Value} {S : Nat → Nat × Nat → Prop} (hD : n.D = []) (hro : n.ro = none) (hT : Tys P tt) (hi : TT.get tt ty = some i) (hg : i.desc.agg = false) (hr : fn.results = #[.cell t ty]) (hx : Fr.get f t = some (ptr b 0)) (hA : At S w b 0 [v]) (h : Φ v w) :
    G P fn (FnE P Φ) n (.code .ret :: k) f w := G.ret_of hD hro (run_result1 hT hi hg hr hx hA) h
end
section
variable {P : Program} {n : Sz} {f : Fr} {w w' : World} {ops : Array Oper}
theorem GL.fact {V : Value → World → Prop} {t : Nat} {v : Value} (hv : Fr.get f t = some v) (he : Ext w' w) (hV : V v w) : GL P n (fun a w'' => ∃ v, a.tmps[t]? = some v ∧ Ext w' w'' ∧ V v w'') ops [] f w :=
  fun a ha => ⟨v, ha.at_ t v hv, he, hV⟩
end
end Go.Bd
