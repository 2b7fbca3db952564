/-
  The operations of my calculus, one by one.
-/
import Derived.Test.YtefneilaongpbaaOps
set_option linter.unusedVariables false
set_option linter.unusedSimpArgs false
namespace Go.Bd
open Go.RowKit

/-- A byte's value; an int's. -/
abbrev bv (b : UInt8) : Value := .int .u8 (b.toNat : Int)
abbrev iv (n : Int) : Value := .int .i64 n
abbrev ptr (b o : Nat) : Value := .pointer (some ⟨b, o, none⟩)

section
variable {P : Program} {n : Sz} {Q : Act → World → Prop} {f : Fr} {w : World} {ops : Array Oper} {rest : List Oper} {tt : List (Nat × Ti)}
variable {d : Nat} {ty : TypeId} {pos : String} {aft : Array Edge} {g : Option (Nat × Bool)}

def evs (f : Fr) : List Operand → Option (List Value)
  | [] => some []
  | x :: xs => match ev f x, evs f xs with
    | some v, some vs => some (v :: vs)
    | _, _ => none
theorem evs_map {a : Act} (ha : St n f a) : ∀ (xs : List Operand) (vs : List Value), evs f xs = some vs → xs.map a.eval = vs
  | [], vs, h => by simpa [evs] using h
  | x :: xs, vs, h => by
    simp only [evs] at h
    split at h
    · rename_i v us hx hxs
      simp only [Option.some.injEq] at h
      subst h
      rw [List.map_cons, ha.eval hx, evs_map ha xs us hxs]
    · cases h

/-! pure ones -/
def pureOp (f : Fr) : Op → Option Value
  | .move x | .assign x => ev f x
  | .pick c x y => match ev f c with
    | some (.bool true) => ev f x
    | some (.bool false) => ev f y
    | _ => none
  | .unOp .not _ x => match ev f x with
    | some (.bool true) => some (.bool false)
    | some (.bool false) => some (.bool true)
    | _ => none
  | .extract x i => match ev f x with
    | some (.tuple vs) => vs[i]?
    | _ => none
  | .nilCheck x => match ev f x with
    | some (.pointer (some p)) => some (.pointer (some p))
    | _ => none
  | .makeFunc fn first cap => match evs f first.toList, evs f cap.toList with
    | some vs, some us => some (.func fn vs.toArray us.toArray)
    | _, _ => none
  | _ => none
theorem run_pure {o : Oper} {v : Value} (hv : pureOp f o.op = some v) (w : World) : ∀ a, St n f a → (execOp a.eval o).run P w = .ok (.value v) w := by
  intro a ha
  obtain ⟨dst, op, ty, pos, aft, g⟩ := o
  cases op <;> simp only [pureOp] at hv <;> try cases hv
  case move x => simp [execOp, ha.eval hv]
  case assign x => simp [execOp, ha.eval hv]
  case pick c x y =>
    cases hc : ev f c with
    | none => simp [hc] at hv
    | some u =>
      simp only [hc] at hv
      cases u with
      | bool b => cases b <;> simp only at hv <;> simp [execOp, ha.eval hc, ha.eval hv, asBool]
      | _ => cases hv
  case unOp op t x =>
    cases op <;> simp only at hv <;> try cases hv
    cases hx : ev f x with
    | none => simp [hx] at hv
    | some u =>
      simp only [hx] at hv
      cases u with
      | bool b => cases b <;> simp only [Option.some.injEq] at hv <;> subst hv <;> simp [execOp, ha.eval hx, Op.unary]
      | _ => cases hv
  case extract x i =>
    cases hx : ev f x with
    | none => simp [hx] at hv
    | some u =>
      simp only [hx] at hv
      cases u with
      | tuple vs => simp only at hv; simp [execOp, ha.eval hx, Instr.extract, hv]
      | _ => cases hv
  case nilCheck x =>
    cases hx : ev f x with
    | none => simp [hx] at hv
    | some u =>
      simp only [hx] at hv
      cases u with
      | pointer p =>
        cases p with
        | none => cases hv
        | some p => simp only [Option.some.injEq] at hv; subst hv; simp [execOp, ha.eval hx]
      | _ => cases hv
  case makeFunc fn first cap =>
    cases h1 : evs f first.toList with
    | none => simp [h1] at hv
    | some vs =>
      cases h2 : evs f cap.toList with
      | none => simp [h1, h2] at hv
      | some us =>
        simp only [h1, h2, Option.some.injEq] at hv
        subst hv
        have e1 : first.map a.eval = vs.toArray := by
          apply Array.ext'
          simp only [Array.toList_map]
          exact evs_map ha _ _ h1
        have e2 : cap.map a.eval = us.toArray := by
          apply Array.ext'
          simp only [Array.toList_map]
          exact evs_map ha _ _ h2
        simp [execOp, Instr.makeFunc, e1, e2]
theorem GL.pure {o : Oper} {v : Value} (hw : want ops f o.guard = some true) (hd : o.dst = some d) (hlt : Nat.blt d n.size = true) (hv : pureOp f o.op = some v)
    (h : GL P n Q ops rest ((d, v) :: f) w) : GL P n Q ops (o :: rest) f w := GL.yields hw hd hlt (run_pure hv w) h

/-! comparisons of whole numbers -/
abbrev cmpP : BinOp → Int → Int → Prop
  | .lss, a, b => a < b
  | .leq, a, b => a ≤ b
  | .gtr, a, b => a > b
  | .geq, a, b => a ≥ b
  | .eql, a, b => a = b
  | .neq, a, b => a ≠ b
  | _, _, _ => True
def isCmp : BinOp → Bool
  | .lss | .leq | .gtr | .geq | .eql | .neq => true
  | _ => false
theorem run_cmp {op : BinOp} {t t' : TypeId} {x y : Operand} {K : IntKind} {A B : Int} (ho : isCmp op = true) (hx : ev f x = some (.int K A)) (hy : ev f y = some (.int K B)) (c : Bool) (hc : (cmpP op A B) ↔ c = true) (w : World) :
    ∀ a, St n f a → (execOp a.eval ⟨some d, .binOp op t x y t', ty, pos, aft, g⟩).run P w = .ok (.value (.bool c)) w := by
  intro a ha
  have e1 := ha.eval hx
  have e2 := ha.eval hy
  cases op <;> simp only [isCmp, Bool.false_eq_true] at ho <;> simp only [cmpP] at hc <;> simp [execOp, e1, e2, eqGuard, binOp, Op.intCmp] <;> cases c <;> simp_all <;> omega
theorem GL.cmp_t {op : BinOp} {t t' : TypeId} {x y : Operand} {K : IntKind} {A B : Int} (hw : want ops f g = some true) (hlt : Nat.blt d n.size = true) (ho : isCmp op = true) (hx : ev f x = some (.int K A)) (hy : ev f y = some (.int K B)) (hc : cmpP op A B)
    (h : GL P n Q ops rest ((d, .bool true) :: f) w) : GL P n Q ops (⟨some d, .binOp op t x y t', ty, pos, aft, g⟩ :: rest) f w :=
  GL.yields hw rfl hlt (run_cmp ho hx hy true ⟨fun _ => rfl, fun _ => hc⟩ w) h
theorem GL.cmp_f {op : BinOp} {t t' : TypeId} {x y : Operand} {K : IntKind} {A B : Int} (hw : want ops f g = some true) (hlt : Nat.blt d n.size = true) (ho : isCmp op = true) (hx : ev f x = some (.int K A)) (hy : ev f y = some (.int K B)) (hc : ¬ cmpP op A B)
    (h : GL P n Q ops rest ((d, .bool false) :: f) w) : GL P n Q ops (⟨some d, .binOp op t x y t', ty, pos, aft, g⟩ :: rest) f w :=
  GL.yields hw rfl hlt (run_cmp ho hx hy false ⟨fun h => (hc h).elim, fun h => by cases h⟩ w) h
theorem GL.cmp {op : BinOp} {t t' : TypeId} {x y : Operand} {K : IntKind} {A B : Int} (hw : want ops f g = some true) (hlt : Nat.blt d n.size = true) (ho : isCmp op = true) (hx : ev f x = some (.int K A)) (hy : ev f y = some (.int K B))
    (ht : cmpP op A B → GL P n Q ops rest ((d, .bool true) :: f) w) (hf : ¬ cmpP op A B → GL P n Q ops rest ((d, .bool false) :: f) w) : GL P n Q ops (⟨some d, .binOp op t x y t', ty, pos, aft, g⟩ :: rest) f w := by
  by_cases hc : cmpP op A B
  · exact GL.cmp_t hw hlt ho hx hy hc (ht hc)
  · exact GL.cmp_f hw hlt ho hx hy hc (hf hc)

/-! arithmetic -/
theorem wrap_i64 {z : Int} (h1 : -9223372036854775808 ≤ z) (h2 : z ≤ 9223372036854775807) : IntKind.i64.wrap z = z := IntWalk.i64_in _ ⟨h1, h2⟩
theorem GL.add_i64 {t t' : TypeId} {x y : Operand} {A B : Int} (hw : want ops f g = some true) (hlt : Nat.blt d n.size = true) (hx : ev f x = some (iv A)) (hy : ev f y = some (iv B)) (h1 : -9223372036854775808 ≤ A + B) (h2 : A + B ≤ 9223372036854775807)
    (h : GL P n Q ops rest ((d, iv (A + B)) :: f) w) : GL P n Q ops (⟨some d, .binOp .add t x y t', ty, pos, aft, g⟩ :: rest) f w :=
  GL.yields hw rfl hlt (fun a ha => by simp [execOp, ha.eval hx, ha.eval hy, eqGuard, binOp, Op.intArith, wrap_i64 h1 h2]) h
theorem GL.sub_i64 {t t' : TypeId} {x y : Operand} {A B : Int} (hw : want ops f g = some true) (hlt : Nat.blt d n.size = true) (hx : ev f x = some (iv A)) (hy : ev f y = some (iv B)) (h1 : -9223372036854775808 ≤ A - B) (h2 : A - B ≤ 9223372036854775807)
    (h : GL P n Q ops rest ((d, iv (A - B)) :: f) w) : GL P n Q ops (⟨some d, .binOp .sub t x y t', ty, pos, aft, g⟩ :: rest) f w :=
  GL.yields hw rfl hlt (fun a ha => by simp [execOp, ha.eval hx, ha.eval hy, eqGuard, binOp, Op.intArith, wrap_i64 h1 h2]) h
theorem GL.mul_i64 {t t' : TypeId} {x y : Operand} {A B : Int} (hw : want ops f g = some true) (hlt : Nat.blt d n.size = true) (hx : ev f x = some (iv A)) (hy : ev f y = some (iv B)) (h1 : -9223372036854775808 ≤ A * B) (h2 : A * B ≤ 9223372036854775807)
    (h : GL P n Q ops rest ((d, iv (A * B)) :: f) w) : GL P n Q ops (⟨some d, .binOp .mul t x y t', ty, pos, aft, g⟩ :: rest) f w :=
  GL.yields hw rfl hlt (fun a ha => by simp [execOp, ha.eval hx, ha.eval hy, eqGuard, binOp, Op.intArith, wrap_i64 h1 h2]) h
theorem GL.quo_i64 {t t' : TypeId} {x y : Operand} {A B : Int} (hw : want ops f g = some true) (hlt : Nat.blt d n.size = true) (hx : ev f x = some (iv A)) (hy : ev f y = some (iv B)) (h1 : 0 ≤ A) (h2 : A ≤ 9223372036854775807) (h3 : 0 < B)
    (h : GL P n Q ops rest ((d, iv (A / B)) :: f) w) : GL P n Q ops (⟨some d, .binOp .quo t x y t', ty, pos, aft, g⟩ :: rest) f w :=
  GL.yields hw rfl hlt (fun a ha => by
    have e : A.tdiv B = A / B := Int.tdiv_eq_ediv_of_nonneg h1
    have h4 : A / B ≤ A := Int.ediv_le_self _ h1
    have h5 : 0 ≤ A / B := Int.ediv_nonneg h1 (by omega)
    simp [execOp, ha.eval hx, ha.eval hy, eqGuard, binOp, Op.intDiv, show B ≠ 0 by omega, e, wrap_i64 (show -9223372036854775808 ≤ A / B by omega) (show A / B ≤ 9223372036854775807 by omega)]) h
theorem GL.rem_i64 {t t' : TypeId} {x y : Operand} {A B : Int} (hw : want ops f g = some true) (hlt : Nat.blt d n.size = true) (hx : ev f x = some (iv A)) (hy : ev f y = some (iv B)) (h1 : 0 ≤ A) (h3 : 0 < B)
    (h : GL P n Q ops rest ((d, iv (A % B)) :: f) w) : GL P n Q ops (⟨some d, .binOp .rem t x y t', ty, pos, aft, g⟩ :: rest) f w :=
  GL.yields hw rfl hlt (fun a ha => by
    have e : A.tmod B = A % B := Int.tmod_eq_emod_of_nonneg h1
    simp [execOp, ha.eval hx, ha.eval hy, eqGuard, binOp, Op.intDiv, show B ≠ 0 by omega, e]) h
/-- All the rest, as the model has it. -/
theorem GL.bin {op : BinOp} {t t' : TypeId} {x y : Operand} {K K' : IntKind} {A B : Int} {v : Value} (hw : want ops f g = some true) (hlt : Nat.blt d n.size = true) (hx : ev f x = some (.int K A)) (hy : ev f y = some (.int K' B))
    (hr : ∀ w, (do eqGuard op t x y (.int K A) (.int K' B); binOp op t (.int K A) (.int K' B) : Sem Value).run P w = .ok v w)
    (h : GL P n Q ops rest ((d, v) :: f) w) : GL P n Q ops (⟨some d, .binOp op t x y t', ty, pos, aft, g⟩ :: rest) f w :=
  GL.yields hw rfl hlt (fun a ha => by
    have := hr w
    simp only [execOp, ha.eval hx, ha.eval hy]
    simp only [Sem.run_bind] at this ⊢
    rw [this]
    rfl) h
theorem GL.conv_int {src dst : TypeId} {x : Operand} {K K1 K' : IntKind} {A : Int} {i j : Ti} (hT : Tys P tt) (hw : want ops f g = some true) (hlt : Nat.blt d n.size = true) (hi : TT.get tt src = some i) (hdi : i.desc = .int K1) (hj : TT.get tt dst = some j) (hdj : j.desc = .int K') (hx : ev f x = some (.int K A))
    (h : GL P n Q ops rest ((d, .int K' (K'.wrap A)) :: f) w) : GL P n Q ops (⟨some d, .convert src dst x, ty, pos, aft, g⟩ :: rest) f w :=
  GL.yields hw rfl hlt (fun a ha => by
    have hs : P.underlying src = some (.int K1) := by have := (hT.ok src i hi).desc; rw [hdi] at this; exact this
    have ht : P.underlying dst = some (.int K') := by have := (hT.ok dst j hj).desc; rw [hdj] at this; exact this
    simp [execOp, ha.eval hx, convert, run_underlying hs, run_underlying ht, Conv.intToInt]) h

/-! len -/
theorem GL.len {t : TypeId} {x : Operand} {p : Option Addr} {m c e : Nat} {i : Ti} (hT : Tys P tt) (hw : want ops f g = some true) (hlt : Nat.blt d n.size = true) (hi : TT.get tt t = some i) (hdesc : i.desc = .slice e) (hx : ev f x = some (.slice p m c))
    (h : GL P n Q ops rest ((d, iv m) :: f) w) : GL P n Q ops (⟨some d, .call { callee := .builtin .len, args := #[x], argTypes := #[t] }, ty, pos, aft, g⟩ :: rest) f w :=
  GL.yields hw rfl hlt (fun a ha => by
    have hu : P.underlying t = some (.slice e) := by have := (hT.ok t i hi).desc; rw [hdesc] at this; exact this
    simp [execOp, resolve, ha.eval hx, invoke, builtin, Builtin.len_, run_underlying hu, goInt]) h

/-! addresses -/
theorem add_addr (b o j : Nat) : (⟨b, o, none⟩ : Addr).add j = ⟨b, o + j, none⟩ := by unfold Addr.add; split <;> simp_all
theorem GL.fieldAddr {s : TypeId} {x : Operand} {b o j m e : Nat} {i ie : Ti} {fs : List (TypeId × Nat)} (hT : Tys P tt) (hw : want ops f g = some true) (hlt : Nat.blt d n.size = true) (hi : TT.get tt s = some i) (hdesc : i.desc = .struct fs) (hj : fs[j]? = some (e, m)) (hx : ev f x = some (ptr b o))
    (hie : TT.get tt e = some ie) (hz : Nat.beq ie.size 0 = false)
    (h : GL P n Q ops rest ((d, ptr b (o + m)) :: f) w) : GL P n Q ops (⟨some d, .fieldAddr s x j, ty, pos, aft, g⟩ :: rest) f w :=
  GL.yields hw rfl hlt (fun a ha => by
    have := (hT.ok s i hi).desc
    rw [hdesc] at this
    obtain ⟨gs, hu, hgs⟩ := this
    rw [← hgs] at hj
    simp only [List.getElem?_map] at hj
    obtain ⟨fd, hfd, he⟩ := Option.map_eq_some_iff.1 hj
    have hfd' : gs[j]? = some fd := by simpa using hfd
    simp only [Prod.mk.injEq] at he
    have hs := (hT.ok e ie hie).run_sizeOf w
    have hz' : ie.size ≠ 0 := Nat.ne_of_beq_eq_false hz
    have hrun : (fieldPlace ⟨b, o, none⟩ fd).run P w = .ok ⟨b, o + fd.offset, none⟩ w := by
      simp [fieldPlace, he.1, hs, hz', add_addr]
    simp [execOp, ha.eval hx, Instr.fieldAt, run_underlying hu, hfd', Instr.sureAddr, hrun, he.2]) h
theorem GL.indexSlice (j s o' : Nat) {t : TypeId} {x y : Operand} {b o m c e : Nat} {A : Int} {K : IntKind} {i ie : Ti} (hT : Tys P tt) (hw : want ops f g = some true) (hlt : Nat.blt d n.size = true) (hi : TT.get tt t = some i) (hdesc : i.desc = .slice e) (hie : TT.get tt e = some ie)
    (hx : ev f x = some (.slice (some ⟨b, o, none⟩) m c)) (hy : ev f y = some (.int K A)) (hs : ie.size = s) (hA : A = (j : Int)) (hj : j < m) (ho : o + j * s = o')
    (h : GL P n Q ops rest ((d, ptr b o') :: f) w) : GL P n Q ops (⟨some d, .indexAddr t x y, ty, pos, aft, g⟩ :: rest) f w :=
  GL.yields hw rfl hlt (fun a ha => by
    have hu : P.underlying t = some (.slice e) := by have := (hT.ok t i hi).desc; rw [hdesc] at this; exact this
    have hsz := (hT.ok e ie hie).run_sizeOf w
    rw [hs] at hsz
    simp [execOp, ha.eval hx, ha.eval hy, Instr.indexAt, asIntOf, run_underlying hu, hA, hj, hsz, add_addr, ho]) h
theorem GL.indexArr (j s o' : Nat) {t : TypeId} {x y : Operand} {b o m e : Nat} {A : Int} {K : IntKind} {i ie : Ti} (hT : Tys P tt) (hw : want ops f g = some true) (hlt : Nat.blt d n.size = true) (hi : TT.get tt t = some i) (hdesc : i.desc = .arr m e) (hie : TT.get tt e = some ie)
    (hx : ev f x = some (ptr b o)) (hy : ev f y = some (.int K A)) (hs : ie.size = s) (hA : A = (j : Int)) (hj : j < m) (ho : o + j * s = o')
    (h : GL P n Q ops rest ((d, ptr b o') :: f) w) : GL P n Q ops (⟨some d, .indexAddr t x y, ty, pos, aft, g⟩ :: rest) f w :=
  GL.yields hw rfl hlt (fun a ha => by
    have hu : P.underlying t = some (.array m e) := by have := (hT.ok t i hi).desc; rw [hdesc] at this; exact this
    have hsz := (hT.ok e ie hie).run_sizeOf w
    rw [hs] at hsz
    simp [execOp, ha.eval hx, ha.eval hy, Instr.indexAt, asIntOf, Instr.sureAddr, run_underlying hu, hA, hj, hsz, add_addr, ho]) h
end
end Go.Bd
