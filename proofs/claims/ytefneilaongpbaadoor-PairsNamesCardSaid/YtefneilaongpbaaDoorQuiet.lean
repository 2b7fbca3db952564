/-
  THE LAWS OF OPERATIONS THAT LEAVE THE WORLD ALONE, once more for regions that draw their order (printed by genq.py out of Ops2, Ops3).
-/
import Derived.Test.YtefneilaongpbaaDoorDraw0
set_option linter.unusedVariables false
set_option linter.unusedSimpArgs false
namespace Go.Bd
open Go.RowKit
section
variable {P : Program} {n : Sz} {Q : Act → World → Prop} {f : Fr} {w : World} {ops : Array Oper} {rest : List Oper} {tt : List (Nat × Ti)}
variable {d : Nat} {ty : TypeId} {pos : String} {aft : Array Edge} {g : Option (Nat × Bool)}

theorem GQ.pure {o : Oper} {v : Value} (hw : want ops f o.guard = some true) (hd : o.dst = some d) (hlt : Nat.blt d n.size = true) (hv : pureOp f o.op = some v)
    (h : GQ P n Q ops rest ((d, v) :: f) w) : GQ P n Q ops (o :: rest) f w := GQ.yields hw hd hlt (fun w _ => run_pure hv w) h
theorem GQ.cmp_t {op : BinOp} {t t' : TypeId} {x y : Operand} {K : IntKind} {A B : Int} (hw : want ops f g = some true) (hlt : Nat.blt d n.size = true) (ho : isCmp op = true) (hx : ev f x = some (.int K A)) (hy : ev f y = some (.int K B)) (hc : cmpP op A B)
    (h : GQ P n Q ops rest ((d, .bool true) :: f) w) : GQ P n Q ops (⟨some d, .binOp op t x y t', ty, pos, aft, g⟩ :: rest) f w :=
  GQ.yields hw rfl hlt (fun w _ => run_cmp ho hx hy true ⟨fun _ => rfl, fun _ => hc⟩ w) h
theorem GQ.cmp_f {op : BinOp} {t t' : TypeId} {x y : Operand} {K : IntKind} {A B : Int} (hw : want ops f g = some true) (hlt : Nat.blt d n.size = true) (ho : isCmp op = true) (hx : ev f x = some (.int K A)) (hy : ev f y = some (.int K B)) (hc : ¬ cmpP op A B)
    (h : GQ P n Q ops rest ((d, .bool false) :: f) w) : GQ P n Q ops (⟨some d, .binOp op t x y t', ty, pos, aft, g⟩ :: rest) f w :=
  GQ.yields hw rfl hlt (fun w _ => run_cmp ho hx hy false ⟨fun h => (hc h).elim, fun h => by cases h⟩ w) h
theorem GQ.cmp {op : BinOp} {t t' : TypeId} {x y : Operand} {K : IntKind} {A B : Int} (hw : want ops f g = some true) (hlt : Nat.blt d n.size = true) (ho : isCmp op = true) (hx : ev f x = some (.int K A)) (hy : ev f y = some (.int K B))
    (ht : cmpP op A B → GQ P n Q ops rest ((d, .bool true) :: f) w) (hf : ¬ cmpP op A B → GQ P n Q ops rest ((d, .bool false) :: f) w) : GQ P n Q ops (⟨some d, .binOp op t x y t', ty, pos, aft, g⟩ :: rest) f w := by
  by_cases hc : cmpP op A B
  · exact GQ.cmp_t hw hlt ho hx hy hc (ht hc)
  · exact GQ.cmp_f hw hlt ho hx hy hc (hf hc)
theorem GQ.add_i64 {t t' : TypeId} {x y : Operand} {A B : Int} (hw : want ops f g = some true) (hlt : Nat.blt d n.size = true) (hx : ev f x = some (iv A)) (hy : ev f y = some (iv B)) (h1 : -9223372036854775808 ≤ A + B) (h2 : A + B ≤ 9223372036854775807)
    (h : GQ P n Q ops rest ((d, iv (A + B)) :: f) w) : GQ P n Q ops (⟨some d, .binOp .add t x y t', ty, pos, aft, g⟩ :: rest) f w :=
  GQ.yields hw rfl hlt (fun w he a ha => by simp [execOp, ha.eval hx, ha.eval hy, eqGuard, binOp, Op.intArith, wrap_i64 h1 h2]) h
theorem GQ.sub_i64 {t t' : TypeId} {x y : Operand} {A B : Int} (hw : want ops f g = some true) (hlt : Nat.blt d n.size = true) (hx : ev f x = some (iv A)) (hy : ev f y = some (iv B)) (h1 : -9223372036854775808 ≤ A - B) (h2 : A - B ≤ 9223372036854775807)
    (h : GQ P n Q ops rest ((d, iv (A - B)) :: f) w) : GQ P n Q ops (⟨some d, .binOp .sub t x y t', ty, pos, aft, g⟩ :: rest) f w :=
  GQ.yields hw rfl hlt (fun w he a ha => by simp [execOp, ha.eval hx, ha.eval hy, eqGuard, binOp, Op.intArith, wrap_i64 h1 h2]) h
theorem GQ.mul_i64 {t t' : TypeId} {x y : Operand} {A B : Int} (hw : want ops f g = some true) (hlt : Nat.blt d n.size = true) (hx : ev f x = some (iv A)) (hy : ev f y = some (iv B)) (h1 : -9223372036854775808 ≤ A * B) (h2 : A * B ≤ 9223372036854775807)
    (h : GQ P n Q ops rest ((d, iv (A * B)) :: f) w) : GQ P n Q ops (⟨some d, .binOp .mul t x y t', ty, pos, aft, g⟩ :: rest) f w :=
  GQ.yields hw rfl hlt (fun w he a ha => by simp [execOp, ha.eval hx, ha.eval hy, eqGuard, binOp, Op.intArith, wrap_i64 h1 h2]) h
theorem GQ.quo_i64 {t t' : TypeId} {x y : Operand} {A B : Int} (hw : want ops f g = some true) (hlt : Nat.blt d n.size = true) (hx : ev f x = some (iv A)) (hy : ev f y = some (iv B)) (h1 : 0 ≤ A) (h2 : A ≤ 9223372036854775807) (h3 : 0 < B)
    (h : GQ P n Q ops rest ((d, iv (A / B)) :: f) w) : GQ P n Q ops (⟨some d, .binOp .quo t x y t', ty, pos, aft, g⟩ :: rest) f w :=
  GQ.yields hw rfl hlt (fun w he a ha => by
    have e : A.tdiv B = A / B := Int.tdiv_eq_ediv_of_nonneg h1
    have h4 : A / B ≤ A := Int.ediv_le_self _ h1
    have h5 : 0 ≤ A / B := Int.ediv_nonneg h1 (by omega)
    simp [execOp, ha.eval hx, ha.eval hy, eqGuard, binOp, Op.intDiv, show B ≠ 0 by omega, e, wrap_i64 (show -9223372036854775808 ≤ A / B by omega) (show A / B ≤ 9223372036854775807 by omega)]) h
theorem GQ.rem_i64 {t t' : TypeId} {x y : Operand} {A B : Int} (hw : want ops f g = some true) (hlt : Nat.blt d n.size = true) (hx : ev f x = some (iv A)) (hy : ev f y = some (iv B)) (h1 : 0 ≤ A) (h3 : 0 < B)
    (h : GQ P n Q ops rest ((d, iv (A % B)) :: f) w) : GQ P n Q ops (⟨some d, .binOp .rem t x y t', ty, pos, aft, g⟩ :: rest) f w :=
  GQ.yields hw rfl hlt (fun w he a ha => by
    have e : A.tmod B = A % B := Int.tmod_eq_emod_of_nonneg h1
    simp [execOp, ha.eval hx, ha.eval hy, eqGuard, binOp, Op.intDiv, show B ≠ 0 by omega, e]) h
theorem GQ.bin {op : BinOp} {t t' : TypeId} {x y : Operand} {K K' : IntKind} {A B : Int} {v : Value} (hw : want ops f g = some true) (hlt : Nat.blt d n.size = true) (hx : ev f x = some (.int K A)) (hy : ev f y = some (.int K' B))
    (hr : ∀ w, (do eqGuard op t x y (.int K A) (.int K' B); binOp op t (.int K A) (.int K' B) : Sem Value).run P w = .ok v w)
    (h : GQ P n Q ops rest ((d, v) :: f) w) : GQ P n Q ops (⟨some d, .binOp op t x y t', ty, pos, aft, g⟩ :: rest) f w :=
  GQ.yields hw rfl hlt (fun w he a ha => by
    have := hr w
    simp only [execOp, ha.eval hx, ha.eval hy]
    simp only [Sem.run_bind] at this ⊢
    rw [this]
    rfl) h
theorem GQ.conv_int {src dst : TypeId} {x : Operand} {K K1 K' : IntKind} {A : Int} {i j : Ti} (hT : Tys P tt) (hw : want ops f g = some true) (hlt : Nat.blt d n.size = true) (hi : TT.get tt src = some i) (hdi : i.desc = .int K1) (hj : TT.get tt dst = some j) (hdj : j.desc = .int K') (hx : ev f x = some (.int K A))
    (h : GQ P n Q ops rest ((d, .int K' (K'.wrap A)) :: f) w) : GQ P n Q ops (⟨some d, .convert src dst x, ty, pos, aft, g⟩ :: rest) f w :=
  GQ.yields hw rfl hlt (fun w he a ha => by
    have hs : P.underlying src = some (.int K1) := by have := (hT.ok src i hi).desc; rw [hdi] at this; exact this
    have ht : P.underlying dst = some (.int K') := by have := (hT.ok dst j hj).desc; rw [hdj] at this; exact this
    simp [execOp, ha.eval hx, convert, run_underlying hs, run_underlying ht, Conv.intToInt]) h
theorem GQ.len {t : TypeId} {x : Operand} {p : Option Addr} {m c e : Nat} {i : Ti} (hT : Tys P tt) (hw : want ops f g = some true) (hlt : Nat.blt d n.size = true) (hi : TT.get tt t = some i) (hdesc : i.desc = .slice e) (hx : ev f x = some (.slice p m c))
    (h : GQ P n Q ops rest ((d, iv m) :: f) w) : GQ P n Q ops (⟨some d, .call { callee := .builtin .len, args := #[x], argTypes := #[t] }, ty, pos, aft, g⟩ :: rest) f w :=
  GQ.yields hw rfl hlt (fun w he a ha => by
    have hu : P.underlying t = some (.slice e) := by have := (hT.ok t i hi).desc; rw [hdesc] at this; exact this
    simp [execOp, resolve, ha.eval hx, invoke, builtin, Builtin.len_, run_underlying hu, goInt]) h
theorem GQ.fieldAddr {s : TypeId} {x : Operand} {b o j m e : Nat} {i ie : Ti} {fs : List (TypeId × Nat)} (hT : Tys P tt) (hw : want ops f g = some true) (hlt : Nat.blt d n.size = true) (hi : TT.get tt s = some i) (hdesc : i.desc = .struct fs) (hj : fs[j]? = some (e, m)) (hx : ev f x = some (ptr b o))
    (hie : TT.get tt e = some ie) (hz : Nat.beq ie.size 0 = false)
    (h : GQ P n Q ops rest ((d, ptr b (o + m)) :: f) w) : GQ P n Q ops (⟨some d, .fieldAddr s x j, ty, pos, aft, g⟩ :: rest) f w :=
  GQ.yields hw rfl hlt (fun w he a ha => by
    have := (hT.ok s i hi).desc
    rw [hdesc] at this
    obtain ⟨gs, hu, hgs⟩ := this
    rw [← hgs] at hj
    simp only [List.getElem?_map] at hj
    obtain ⟨fd, hfd, he⟩ := Option.map_eq_some_iff.1 hj
    have hfd' : gs[j]? = some fd := by simpa using hfd
    simp only [Prod.mk.injEq] at he
    have hs := (hT.ok e ie hie).run_sizeOf w
    have hz' : ie.size ≠ 0 := Nat.ne_of_beq_eq_false hz
    have hrun : (fieldPlace ⟨b, o, none⟩ fd).run P w = .ok ⟨b, o + fd.offset, none⟩ w := by
      simp [fieldPlace, he.1, hs, hz', add_addr]
    simp [execOp, ha.eval hx, Instr.fieldAt, run_underlying hu, hfd', Instr.sureAddr, hrun, he.2]) h
theorem GQ.indexSlice (j s o' : Nat) {t : TypeId} {x y : Operand} {b o m c e : Nat} {A : Int} {K : IntKind} {i ie : Ti} (hT : Tys P tt) (hw : want ops f g = some true) (hlt : Nat.blt d n.size = true) (hi : TT.get tt t = some i) (hdesc : i.desc = .slice e) (hie : TT.get tt e = some ie)
    (hx : ev f x = some (.slice (some ⟨b, o, none⟩) m c)) (hy : ev f y = some (.int K A)) (hs : ie.size = s) (hA : A = (j : Int)) (hj : j < m) (ho : o + j * s = o')
    (h : GQ P n Q ops rest ((d, ptr b o') :: f) w) : GQ P n Q ops (⟨some d, .indexAddr t x y, ty, pos, aft, g⟩ :: rest) f w :=
  GQ.yields hw rfl hlt (fun w he a ha => by
    have hu : P.underlying t = some (.slice e) := by have := (hT.ok t i hi).desc; rw [hdesc] at this; exact this
    have hsz := (hT.ok e ie hie).run_sizeOf w
    rw [hs] at hsz
    simp [execOp, ha.eval hx, ha.eval hy, Instr.indexAt, asIntOf, run_underlying hu, hA, hj, hsz, add_addr, ho]) h
theorem GQ.indexArr (j s o' : Nat) {t : TypeId} {x y : Operand} {b o m e : Nat} {A : Int} {K : IntKind} {i ie : Ti} (hT : Tys P tt) (hw : want ops f g = some true) (hlt : Nat.blt d n.size = true) (hi : TT.get tt t = some i) (hdesc : i.desc = .arr m e) (hie : TT.get tt e = some ie)
    (hx : ev f x = some (ptr b o)) (hy : ev f y = some (.int K A)) (hs : ie.size = s) (hA : A = (j : Int)) (hj : j < m) (ho : o + j * s = o')
    (h : GQ P n Q ops rest ((d, ptr b o') :: f) w) : GQ P n Q ops (⟨some d, .indexAddr t x y, ty, pos, aft, g⟩ :: rest) f w :=
  GQ.yields hw rfl hlt (fun w he a ha => by
    have hu : P.underlying t = some (.array m e) := by have := (hT.ok t i hi).desc; rw [hdesc] at this; exact this
    have hsz := (hT.ok e ie hie).run_sizeOf w
    rw [hs] at hsz
    simp [execOp, ha.eval hx, ha.eval hy, Instr.indexAt, asIntOf, Instr.sureAddr, run_underlying hu, hA, hj, hsz, add_addr, ho]) h
theorem GQ.load1 {t : TypeId} {x : Operand} {i : Ti} {S : Nat → Nat × Nat → Prop} {b o : Nat} {v : Value} {vs : List Value} (hT : Tys P tt) (hw : want ops f g = some true) (hlt : Nat.blt d n.size = true) (hi : TT.get tt t = some i) (hg : i.desc.agg = false)
    (hx : ev f x = some (ptr b o)) (hA : At S w b o (v :: vs)) (h : GQ P n Q ops rest ((d, v) :: f) w) : GQ P n Q ops (⟨some d, .load t x, ty, pos, aft, g⟩ :: rest) f w :=
  GQ.yields hw rfl hlt (fun w he a ha => by
    have hc : w.cell? ⟨b, o, none⟩ = some v := by have := (hA.ext he).cell (j := 0) (v := v) rfl; simpa using this
    simp [execOp, Instr.loadAt, ha.eval hx, Instr.sureAddr, run_load1 hT hi hg hc]) h
theorem GQ.loadN {t : TypeId} {x : Operand} {i : Ti} {S : Nat → Nat × Nat → Prop} {b o : Nat} {vs : List Value} (hT : Tys P tt) (hw : want ops f g = some true) (hlt : Nat.blt d n.size = true) (hi : TT.get tt t = some i) (hg : i.desc.agg = true)
    (hx : ev f x = some (ptr b o)) (hA : At S w b o vs) (hl : vs.length = i.size) (h : GQ P n Q ops rest ((d, .agg vs.toArray) :: f) w) : GQ P n Q ops (⟨some d, .load t x, ty, pos, aft, g⟩ :: rest) f w :=
  GQ.yields hw rfl hlt (fun w he a ha => by simp [execOp, Instr.loadAt, ha.eval hx, Instr.sureAddr, run_loadN hT hi hg (hA.ext he) hl]) h
theorem GQ.eq_bytes {op : BinOp} {t t' e : TypeId} {x y : Operand} {m : Nat} {i ie : Ti} {xs ys : List UInt8} {c : Bool} (hT : Tys P tt) (hw : want ops f g = some true) (hlt : Nat.blt d n.size = true) (hi : TT.get tt t = some i) (hdesc : i.desc = .arr m e) (hie : TT.get tt e = some ie) (hde : ie.desc = .int .u8) (hse : ie.size = 1) (hng : P.eqGuardType P.depth t = false)
    (hx : ev f x = some (.agg (xs.map bv).toArray)) (hy : ev f y = some (.agg (ys.map bv).toArray)) (hlx : xs.length = m) (hly : ys.length = m) (hop : (op = .eql ∧ (c = true ↔ xs = ys)) ∨ (op = .neq ∧ (c = true ↔ xs ≠ ys)))
    (h : GQ P n Q ops rest ((d, .bool c) :: f) w) : GQ P n Q ops (⟨some d, .binOp op t x y t', ty, pos, aft, g⟩ :: rest) f w :=
  GQ.yields hw rfl hlt (fun w he a ha => by
    have hu : P.underlying t = some (.array m e) := by have := (hT.ok t i hi).desc; rw [hdesc] at this; exact this
    have he : P.underlying e = some (.int .u8) := by have := (hT.ok e ie hie).desc; rw [hde] at this; exact this
    have hsz : ∀ w, (sizeOf e).run P w = .ok 1 w := fun w => by rw [(hT.ok e ie hie).run_sizeOf w, hse]
    have hb := run_equalIn_bytes (P := P) w 9998 t e m hu he hsz xs ys hlx hly
    have e0 : ∀ zs : List UInt8, zs.map Extern.Stop.cell = zs.map bv := fun zs => rfl
    rw [e0, e0] at hb
    rcases hop with ⟨rfl, hcc⟩ | ⟨rfl, hcc⟩
    · simp only [execOp, ha.eval hx, ha.eval hy, Sem.run_bind, run_eqGuard_agg (P := P) w .eql t x y _ _ hng, Result.andThen_ok, run_eql_struct, hb, Sem.run_pure]
      have : (xs == ys) = c := by rw [Bool.eq_iff_iff, hcc]; simp
      rw [this]
    · simp only [execOp, ha.eval hx, ha.eval hy, Sem.run_bind, run_eqGuard_agg (P := P) w .neq t x y _ _ hng, Result.andThen_ok, run_neq_struct, hb, Sem.run_pure]
      have : (!(xs == ys)) = c := by rw [Bool.eq_iff_iff, hcc]; simp
      rw [this]) h
end
end Go.Bd
