import Derived.Test.YtefneilaongpbaaDoorSteps
import Derived.Maps.AppendAt
import Derived.Laws.AppendOwnNone
import Derived.Stop.BytesEq
/-
  The operations of my calculus: what each yields, read off the model; and what is known of memory.
-/
set_option linter.unusedVariables false
set_option linter.unusedSimpArgs false
namespace Go.Bd
open Go.RowKit

/-! ### 1. Types, by a table -/
inductive Td where
  | cell
  | int (k : IntKind)
  | slice (e : TypeId)
  | arr (len : Nat) (e : TypeId)
  | struct (fs : List (TypeId × Nat))
structure Ti where
  desc : Td
  size : Nat
  bytes : Nat
  zero : List Value
def Td.agg : Td → Bool
  | .arr _ _ | .struct _ => true
  | _ => false
def TT.get : List (Nat × Ti) → Nat → Option Ti
  | [], _ => none
  | (i, v) :: r, t => match Nat.beq i t with
    | true => some v
    | false => TT.get r t
def Td.fits (P : Program) (t : TypeId) : Td → Prop
  | .int k => P.underlying t = some (.int k)
  | .cell => ∃ d, P.underlying t = some d ∧ (match d with | .struct _ | .array _ _ | .slice _ => false | _ => true) = true
  | .slice e => P.underlying t = some (.slice e)
  | .arr n e => P.underlying t = some (.array n e)
  | .struct fs => ∃ gs, P.underlying t = some (.struct gs) ∧ gs.toList.map (fun g => (g.type, g.offset)) = fs
structure Ti.Ok (P : Program) (t : TypeId) (i : Ti) : Prop where
  desc : i.desc.fits P t
  info : (P.info? t).map (fun x => (x.size, x.bytes)) = some (i.size, i.bytes)
  zero : (P.info? t).bind (fun x => x.zero.map fun z => z.cells.toList) = some i.zero
structure Tys (P : Program) (tt : List (Nat × Ti)) : Prop where
  ok : ∀ t i, TT.get tt t = some i → i.Ok P t
theorem Tys.nil (P : Program) : Tys P [] := ⟨fun t i h => by simp [TT.get] at h⟩
theorem Tys.cons {P : Program} {tt : List (Nat × Ti)} {t : Nat} {i : Ti} (h : i.Ok P t) (hs : Tys P tt) : Tys P ((t, i) :: tt) := ⟨fun u j hj => by
  simp only [TT.get] at hj
  cases hb : Nat.beq t u with
  | true => have := Nat.eq_of_beq_eq_true hb; subst this; simp only [hb, Option.some.injEq] at hj; subst hj; exact h
  | false => simp only [hb] at hj; exact hs.ok u j hj⟩

section
variable {P : Program} {tt : List (Nat × Ti)} {t : TypeId} {i : Ti}
theorem Ti.Ok.run_isAgg (h : i.Ok P t) (w : World) : (isAgg t).run P w = .ok i.desc.agg w := by
  obtain ⟨hd, _, _⟩ := h
  unfold isAgg
  cases hi : i.desc with
  | cell => obtain ⟨d, hu, hn⟩ := (hi ▸ hd : Td.fits P t .cell); simp only [Sem.run_bind, run_underlying hu]; cases d <;> simp_all [Td.agg]
  | int k => have hu := (hi ▸ hd : Td.fits P t (.int k)); simp [Sem.run_bind, run_underlying hu, Td.agg]
  | slice e => have hu := (hi ▸ hd : Td.fits P t (.slice e)); simp [Sem.run_bind, run_underlying hu, Td.agg]
  | arr n e => have hu := (hi ▸ hd : Td.fits P t (.arr n e)); simp [Sem.run_bind, run_underlying hu, Td.agg]
  | struct fs => obtain ⟨gs, hu, _⟩ := (hi ▸ hd : Td.fits P t (.struct fs)); simp [Sem.run_bind, run_underlying hu, Td.agg]
theorem Ti.Ok.run_info (h : i.Ok P t) (w : World) : ∃ x, P.info? t = some x ∧ (typeInfo t).run P w = .ok x w ∧ x.size = i.size ∧ x.bytes = i.bytes := by
  have := h.info
  cases hx : P.info? t with
  | none => simp [hx] at this
  | some x =>
    simp [hx] at this
    exact ⟨x, rfl, by simp [typeInfo, hx], this.1, this.2⟩
theorem Ti.Ok.run_sizeOf (h : i.Ok P t) (w : World) : (sizeOf t).run P w = .ok i.size w := by
  obtain ⟨x, hx, hr, hs, _⟩ := h.run_info w
  simp [sizeOf, hr, hs]
theorem Ti.Ok.run_zero (h : i.Ok P t) (w : World) : ∃ z, (zeroValue t).run P w = .ok z w ∧ z.cells = i.zero.toArray := by
  obtain ⟨x, hx, hr, hs, _⟩ := h.run_info w
  have hz := h.zero
  simp only [hx, Option.bind_some] at hz
  cases hzz : x.zero with
  | none => simp [hzz] at hz
  | some z => simp [hzz] at hz; exact ⟨z, by simp [zeroValue, hr, hzz], by simp [← hz]⟩
end

/-! ### 2. Memory -/
/-- From offset o on block b holds these. -/
def At (S : Nat → Nat × Nat → Prop) (w : World) (b o : Nat) (vs : List Value) : Prop :=
  ∃ c T fr, w.heap[b]? = some (.cells c T fr) ∧ S b fr ∧ ∀ j v, vs[j]? = some v → c[o + j]? = some v
/-- A block of one's own, whole. -/
def Blk (w : World) (b : Nat) (T : TypeId) (vs : List Value) : Prop := w.heap[b]? = some (.cells vs.toArray T (0, 0))
abbrev any : Nat → Nat × Nat → Prop := fun _ _ => True
section
variable {w w' : World} {b o : Nat} {T : TypeId} {vs : List Value} {S S' : Nat → Nat × Nat → Prop}
theorem Blk.lt (h : Blk w b T vs) : b < w.heap.size := (Array.getElem?_eq_some_iff.1 h).1
theorem At.lt (h : At S w b o vs) : b < w.heap.size := by obtain ⟨c, T, fr, hh, _⟩ := h; exact (Array.getElem?_eq_some_iff.1 hh).1
theorem Blk.keep (h : Blk w b T vs) (hk : w'.heap[b]? = w.heap[b]?) : Blk w' b T vs := by unfold Blk at *; rw [hk]; exact h
theorem At.keep (h : At S w b o vs) (hk : w'.heap[b]? = w.heap[b]?) : At S w' b o vs := by
  obtain ⟨c, T, fr, hh, r⟩ := h
  exact ⟨c, T, fr, hk.trans hh, r⟩
theorem Blk.ext (h : Blk w b T vs) (he : Ext w w') : Blk w' b T vs := h.keep (he.block b h.lt)
theorem At.ext (h : At S w b o vs) (he : Ext w w') : At S w' b o vs := h.keep (he.block b h.lt)
theorem At.imp (h : At S w b o vs) (hS : ∀ b fr, S b fr → S' b fr) : At S' w b o vs := by
  obtain ⟨c, T, fr, hh, hs, r⟩ := h
  exact ⟨c, T, fr, hh, hS _ _ hs, r⟩
theorem At.cell (h : At S w b o vs) {j : Nat} {v : Value} (hv : vs[j]? = some v) : w.cell? ⟨b, o + j, none⟩ = some v := by
  obtain ⟨c, T, fr, hh, _, r⟩ := h
  simp [World.cell?, hh, r j v hv]
theorem At.sub (h : At S w b o vs) (p m : List Value) {q : List Value} (hv : vs = p ++ (m ++ q)) {o' : Nat} (ho : o' = o + p.length) : At S w b o' m := by
  obtain ⟨c, T, fr, hh, hs, r⟩ := h
  refine ⟨c, T, fr, hh, hs, fun j v hj => ?_⟩
  subst ho hv
  rw [Nat.add_assoc]
  refine r (p.length + j) v ?_
  rw [List.getElem?_append_right (by omega), Nat.add_sub_cancel_left, List.getElem?_append_left (List.getElem?_eq_some_iff.1 hj).1]
  exact hj
theorem At.one {j o' : Nat} {v : Value} (h : At S w b o vs) (hv : vs[j]? = some v) (ho : o' = o + j) : At S w b o' [v] := by
  obtain ⟨c, T, fr, hh, hs, r⟩ := h
  refine ⟨c, T, fr, hh, hs, fun i u hi => ?_⟩
  cases i with
  | zero => simp at hi; subst hi ho; exact r j _ hv
  | succ i => simp at hi
theorem At.one0 {j : Nat} {v : Value} (h : At S w b 0 vs) (hv : vs[j]? = some v) : At S w b j [v] := h.one hv (by omega)
theorem Blk.at (h : Blk w b T vs) (p m : List Value) {q : List Value} (hv : vs = p ++ (m ++ q)) (ho : o = p.length) : At (fun b' fr => b' = b ∧ fr = (0, 0)) w b o m := by
  refine ⟨vs.toArray, T, (0, 0), h, ⟨rfl, rfl⟩, fun j v hj => ?_⟩
  subst ho hv
  simp only [List.getElem?_toArray]
  rw [List.getElem?_append_right (by omega), Nat.add_sub_cancel_left, List.getElem?_append_left (List.getElem?_eq_some_iff.1 hj).1]
  exact hj
theorem Blk.one {v : Value} (h : Blk w b T vs) (hv : vs[o]? = some v) : At (fun b' fr => b' = b ∧ fr = (0, 0)) w b o [v] := by
  refine ⟨vs.toArray, T, (0, 0), h, ⟨rfl, rfl⟩, fun j u hj => ?_⟩
  cases j with
  | zero => simp at hj; subst hj; simpa using hv
  | succ j => simp at hj
theorem Blk.all (h : Blk w b T vs) : At any w b 0 vs := ⟨vs.toArray, T, (0, 0), h, trivial, fun j v hj => by simpa using hj⟩
theorem Ext.refl (w : World) : Ext w w := Below.refl _ _
theorem Ext.trans {w1 w2 w3 : World} (h : Ext w1 w2) (h' : Ext w2 w3) : Ext w1 w3 := Below.trans h (Below.mono h' h.size)
theorem ext_alloc (w : World) (o : Obj) : Ext w (w.alloc o) := (Below.refl _ _).alloc (Nat.le_refl _) o
theorem below_then {B : Nat} {w1 w2 w3 : World} (h : Below B w1 w2) (hB : B ≤ w2.heap.size) (h' : Ext w2 w3) : Below B w1 w3 := Below.trans h (Below.mono h' hB)
theorem blk_alloc (w : World) (vs : List Value) (T : TypeId) : Blk (w.alloc (.cells vs.toArray T)) w.heap.size T vs := heap_alloc_new w _
end

/-! ### 3. Stores -/
def splice (c : List Value) (o : Nat) (vs : List Value) : List Value := c.take o ++ (vs ++ c.drop (o + vs.length))
theorem length_splice (c vs : List Value) (o : Nat) (h : o + vs.length ≤ c.length) : (splice c o vs).length = c.length := by
  simp [splice]; omega
theorem splice_nil (c : List Value) (o : Nat) : splice c o [] = c := by simp [splice]
theorem splice_cons (c : List Value) (o : Nat) (v : Value) (vs : List Value) (h : o < c.length) : splice (c.set o v) (o + 1) vs = splice c o (v :: vs) := by
  unfold splice
  rw [List.take_set, List.drop_set, if_pos (by omega), List.set_eq_take_append_cons_drop, if_pos (by simp; omega), List.take_take, Nat.min_eq_left (by omega), List.drop_take]
  have e : o + 1 + vs.length = o + (v :: vs).length := by simp; omega
  rw [e]
  simp
def World.put (w : World) (b o : Nat) (vs : List Value) : World :=
  { w with heap := w.heap.modify b fun | .cells c T fr => .cells (splice c.toList o vs).toArray T fr | x => x }
theorem heap_put_same {w : World} {b o : Nat} {vs : List Value} {c : Array Value} {T : TypeId} {fr : Nat × Nat} (h : w.heap[b]? = some (.cells c T fr)) : (World.put w b o vs).heap[b]? = some (.cells (splice c.toList o vs).toArray T fr) := by
  simp [World.put, Array.getElem?_modify, h]
theorem heap_put_other {w : World} {b o k : Nat} {vs : List Value} (h : k ≠ b) : (World.put w b o vs).heap[k]? = w.heap[k]? := by
  simp [World.put, Array.getElem?_modify, Ne.symm h]
theorem size_put (w : World) (b o : Nat) (vs : List Value) : (World.put w b o vs).heap.size = w.heap.size := by simp [World.put]
theorem blk_put {w : World} {b o : Nat} {T : TypeId} {c vs : List Value} (h : Blk w b T c) : Blk (World.put w b o vs) b T (splice c o vs) := by
  have := heap_put_same (o := o) (vs := vs) h
  simpa [Blk] using this
theorem below_put {B : Nat} {w0 w : World} {b o : Nat} {vs : List Value} (h : Below B w0 w) (hb : B ≤ b) : Below B w0 (World.put w b o vs) :=
  h.trans ⟨rfl, rfl, rfl, by simp [size_put], fun k hk => heap_put_other (by omega)⟩
theorem Blk.put {w : World} {b b' o : Nat} {T : TypeId} {vs us : List Value} (h : Blk w b T vs) (hne : b ≠ b') : Blk (World.put w b' o us) b T vs := h.keep (heap_put_other hne)

theorem run_storeCells {P : Program} (vs : List Value) : ∀ (o i : Nat) (b : Nat) (c : List Value) (T : TypeId) (fr : Nat × Nat) (w : World), w.heap[b]? = some (.cells c.toArray T fr) → o + i + vs.length ≤ c.length →
    (∀ v ∈ vs, v.oneCell' = true) → (∀ j, j < vs.length → (fr.1 ≤ o + i + j && o + i + j < fr.2) = false) →
    (storeCells ⟨b, o, none⟩ vs i).run P w = .ok () (World.put w b (o + i) vs) := by
  induction vs with
  | nil =>
    intro o i b c T fr w hh _ _ _
    have e : World.put w b (o + i) [] = w := by
      unfold World.put
      have : w.heap.modify b (fun | .cells c T fr => .cells (splice c.toList (o + i) []).toArray T fr | x => x) = w.heap := by
        apply Array.ext_getElem?
        intro k
        rw [Array.getElem?_modify]
        split
        · rename_i hk
          subst hk
          rw [hh]
          simp [splice_nil]
        · rfl
      rw [this]
    rw [e]
    rfl
  | cons v vs ih =>
    intro o i b c T fr w hh hlen hone hfr
    have h1 : v.oneCell' = true := hone v (by simp)
    have ha : (⟨b, o, none⟩ : Addr).add i = ⟨b, o + i, none⟩ := by unfold Addr.add; split <;> simp_all
    have hcell : (w.cell? ⟨b, o + i, none⟩).isSome = true := by
      simp [World.cell?, hh]
      simp at hlen
      omega
    have hfz : w.frozen? ⟨b, o + i, none⟩ = false := by
      have := hfr 0 (by simp)
      simpa [World.frozen?, hh] using this
    have hset : w.setCell ⟨b, o + i, none⟩ v = World.put w b (o + i) [v] := by
      simp only [World.setCell, World.put]
      congr 1
      apply Array.ext_getElem?
      intro k
      rw [Array.getElem?_modify, Array.getElem?_modify]
      split
      · rename_i hk
        subst hk
        rw [hh]
        simp only [Option.map_some]
        have hlt : o + i < c.length := by simp at hlen; omega
        simp only [splice, List.length_cons, List.length_nil, Nat.zero_add, Option.isSome_none, Bool.false_eq_true, if_false]
        rw [List.setIfInBounds_toArray, List.set_eq_take_append_cons_drop, if_pos hlt]
        simp
      · rfl
    have hrun : (store ⟨b, o + i, none⟩ v).run P w = .ok () (World.put w b (o + i) [v]) := by
      rw [run_store P w _ v _ h1]
      obtain ⟨u, hu⟩ := Option.isSome_iff_exists.1 hcell
      simp [stored, hu, hfz, hset]
    simp only [storeCells, Sem.run_bind, ha, hrun, Result.andThen_ok]
    have hh' : (World.put w b (o + i) [v]).heap[b]? = some (.cells (c.set (o + i) v).toArray T fr) := by
      have := heap_put_same (o := o + i) (vs := [v]) hh
      rw [this]
      have hlt : o + i < c.length := by simp at hlen; omega
      simp only [splice, List.length_cons, List.length_nil, Nat.zero_add]
      rw [List.set_eq_take_append_cons_drop, if_pos hlt]
      simp
    rw [ih o (i + 1) b (c.set (o + i) v) T fr _ hh' (by simp at hlen ⊢; omega) (fun u hu => hone u (by simp [hu])) (fun j hj => by
      have := hfr (j + 1) (by simp; omega)
      rw [show o + (i + 1) + j = o + i + (j + 1) by omega]
      exact this)]
    congr 1
    simp only [World.put]
    congr 1
    apply Array.ext_getElem?
    intro k
    rw [Array.getElem?_modify, Array.getElem?_modify, Array.getElem?_modify]
    split
    · rename_i hk
      subst hk
      rw [hh]
      have hlt : o + i < c.length := by simp at hlen; omega
      simp only [Option.map_some, List.toList_toArray]
      congr 2
      have e1 : splice c (o + i) [v] = c.set (o + i) v := by
        simp only [splice, List.length_cons, List.length_nil, Nat.zero_add]
        rw [List.set_eq_take_append_cons_drop, if_pos hlt]
        simp
      rw [e1, show o + (i + 1) = o + i + 1 by omega, splice_cons c (o + i) v vs hlt]
    · rfl
end Go.Bd
/-
  The operations of my calculus, one by one.
-/
set_option linter.unusedVariables false
set_option linter.unusedSimpArgs false
namespace Go.Bd
open Go.RowKit

/-- A byte's value; an int's. -/
abbrev bv (b : UInt8) : Value := .int .u8 (b.toNat : Int)
abbrev iv (n : Int) : Value := .int .i64 n
abbrev ptr (b o : Nat) : Value := .pointer (some ⟨b, o, none⟩)

section
variable {P : Program} {n : Sz} {Q : Act → World → Prop} {f : Fr} {w : World} {ops : Array Oper} {rest : List Oper} {tt : List (Nat × Ti)}
variable {d : Nat} {ty : TypeId} {pos : String} {aft : Array Edge} {g : Option (Nat × Bool)}

def evs (f : Fr) : List Operand → Option (List Value)
  | [] => some []
  | x :: xs => match ev f x, evs f xs with
    | some v, some vs => some (v :: vs)
    | _, _ => none
theorem evs_map {a : Act} (ha : St n f a) : ∀ (xs : List Operand) (vs : List Value), evs f xs = some vs → xs.map a.eval = vs
  | [], vs, h => by simpa [evs] using h
  | x :: xs, vs, h => by
    simp only [evs] at h
    split at h
    · rename_i v us hx hxs
      simp only [Option.some.injEq] at h
      subst h
      rw [List.map_cons, ha.eval hx, evs_map ha xs us hxs]
    · cases h

/-! pure ones -/
def pureOp (f : Fr) : Op → Option Value
  | .move x | .assign x => ev f x
  | .pick c x y => match ev f c with
    | some (.bool true) => ev f x
    | some (.bool false) => ev f y
    | _ => none
  | .unOp .not _ x => match ev f x with
    | some (.bool true) => some (.bool false)
    | some (.bool false) => some (.bool true)
    | _ => none
  | .extract x i => match ev f x with
    | some (.tuple vs) => vs[i]?
    | _ => none
  | .nilCheck x => match ev f x with
    | some (.pointer (some p)) => some (.pointer (some p))
    | _ => none
  | .makeFunc fn first cap => match evs f first.toList, evs f cap.toList with
    | some vs, some us => some (.func fn vs.toArray us.toArray)
    | _, _ => none
  | _ => none
theorem run_pure {o : Oper} {v : Value} (hv : pureOp f o.op = some v) (w : World) : ∀ a, St n f a → (execOp a.eval o).run P w = .ok (.value v) w := by
  intro a ha
  obtain ⟨dst, op, ty, pos, aft, g⟩ := o
  cases op <;> simp only [pureOp] at hv <;> try cases hv
  case move x => simp [execOp, ha.eval hv]
  case assign x => simp [execOp, ha.eval hv]
  case pick c x y =>
    cases hc : ev f c with
    | none => simp [hc] at hv
    | some u =>
      simp only [hc] at hv
      cases u with
      | bool b => cases b <;> simp only at hv <;> simp [execOp, ha.eval hc, ha.eval hv, asBool]
      | _ => cases hv
  case unOp op t x =>
    cases op <;> simp only at hv <;> try cases hv
    cases hx : ev f x with
    | none => simp [hx] at hv
    | some u =>
      simp only [hx] at hv
      cases u with
      | bool b => cases b <;> simp only [Option.some.injEq] at hv <;> subst hv <;> simp [execOp, ha.eval hx, Op.unary]
      | _ => cases hv
  case extract x i =>
    cases hx : ev f x with
    | none => simp [hx] at hv
    | some u =>
      simp only [hx] at hv
      cases u with
      | tuple vs => simp only at hv; simp [execOp, ha.eval hx, Instr.extract, hv]
      | _ => cases hv
  case nilCheck x =>
    cases hx : ev f x with
    | none => simp [hx] at hv
    | some u =>
      simp only [hx] at hv
      cases u with
      | pointer p =>
        cases p with
        | none => cases hv
        | some p => simp only [Option.some.injEq] at hv; subst hv; simp [execOp, ha.eval hx]
      | _ => cases hv
  case makeFunc fn first cap =>
    cases h1 : evs f first.toList with
    | none => simp [h1] at hv
    | some vs =>
      cases h2 : evs f cap.toList with
      | none => simp [h1, h2] at hv
      | some us =>
        simp only [h1, h2, Option.some.injEq] at hv
        subst hv
        have e1 : first.map a.eval = vs.toArray := by
          apply Array.ext'
          simp only [Array.toList_map]
          exact evs_map ha _ _ h1
        have e2 : cap.map a.eval = us.toArray := by
          apply Array.ext'
          simp only [Array.toList_map]
          exact evs_map ha _ _ h2
        simp [execOp, Instr.makeFunc, e1, e2]
theorem GL.pure {o : Oper} {v : Value} (hw : want ops f o.guard = some true) (hd : o.dst = some d) (hlt : Nat.blt d n.size = true) (hv : pureOp f o.op = some v)
    (h : GL P n Q ops rest ((d, v) :: f) w) : GL P n Q ops (o :: rest) f w := GL.yields hw hd hlt (run_pure hv w) h

/-! comparisons of whole numbers -/
abbrev cmpP : BinOp → Int → Int → Prop
  | .lss, a, b => a < b
  | .leq, a, b => a ≤ b
  | .gtr, a, b => a > b
  | .geq, a, b => a ≥ b
  | .eql, a, b => a = b
  | .neq, a, b => a ≠ b
  | _, _, _ => True
def isCmp : BinOp → Bool
  | .lss | .leq | .gtr | .geq | .eql | .neq => true
  | _ => false
theorem run_cmp {op : BinOp} {t t' : TypeId} {x y : Operand} {K : IntKind} {A B : Int} (ho : isCmp op = true) (hx : ev f x = some (.int K A)) (hy : ev f y = some (.int K B)) (c : Bool) (hc : (cmpP op A B) ↔ c = true) (w : World) :
    ∀ a, St n f a → (execOp a.eval ⟨some d, .binOp op t x y t', ty, pos, aft, g⟩).run P w = .ok (.value (.bool c)) w := by
  intro a ha
  have e1 := ha.eval hx
  have e2 := ha.eval hy
  cases op <;> simp only [isCmp, Bool.false_eq_true] at ho <;> simp only [cmpP] at hc <;> simp [execOp, e1, e2, eqGuard, binOp, Op.intCmp] <;> cases c <;> simp_all <;> omega
theorem GL.cmp_t {op : BinOp} {t t' : TypeId} {x y : Operand} {K : IntKind} {A B : Int} (hw : want ops f g = some true) (hlt : Nat.blt d n.size = true) (ho : isCmp op = true) (hx : ev f x = some (.int K A)) (hy : ev f y = some (.int K B)) (hc : cmpP op A B)
    (h : GL P n Q ops rest ((d, .bool true) :: f) w) : GL P n Q ops (⟨some d, .binOp op t x y t', ty, pos, aft, g⟩ :: rest) f w :=
  GL.yields hw rfl hlt (run_cmp ho hx hy true ⟨fun _ => rfl, fun _ => hc⟩ w) h
theorem GL.cmp_f {op : BinOp} {t t' : TypeId} {x y : Operand} {K : IntKind} {A B : Int} (hw : want ops f g = some true) (hlt : Nat.blt d n.size = true) (ho : isCmp op = true) (hx : ev f x = some (.int K A)) (hy : ev f y = some (.int K B)) (hc : ¬ cmpP op A B)
    (h : GL P n Q ops rest ((d, .bool false) :: f) w) : GL P n Q ops (⟨some d, .binOp op t x y t', ty, pos, aft, g⟩ :: rest) f w :=
  GL.yields hw rfl hlt (run_cmp ho hx hy false ⟨fun h => (hc h).elim, fun h => by cases h⟩ w) h
theorem GL.cmp {op : BinOp} {t t' : TypeId} {x y : Operand} {K : IntKind} {A B : Int} (hw : want ops f g = some true) (hlt : Nat.blt d n.size = true) (ho : isCmp op = true) (hx : ev f x = some (.int K A)) (hy : ev f y = some (.int K B))
    (ht : cmpP op A B → GL P n Q ops rest ((d, .bool true) :: f) w) (hf : ¬ cmpP op A B → GL P n Q ops rest ((d, .bool false) :: f) w) : GL P n Q ops (⟨some d, .binOp op t x y t', ty, pos, aft, g⟩ :: rest) f w := by
  by_cases hc : cmpP op A B
  · exact GL.cmp_t hw hlt ho hx hy hc (ht hc)
  · exact GL.cmp_f hw hlt ho hx hy hc (hf hc)

/-! arithmetic -/
theorem wrap_i64 {z : Int} (h1 : -9223372036854775808 ≤ z) (h2 : z ≤ 9223372036854775807) : IntKind.i64.wrap z = z := IntWalk.i64_in _ ⟨h1, h2⟩
theorem GL.add_i64 {t t' : TypeId} {x y : Operand} {A B : Int} (hw : want ops f g = some true) (hlt : Nat.blt d n.size = true) (hx : ev f x = some (iv A)) (hy : ev f y = some (iv B)) (h1 : -9223372036854775808 ≤ A + B) (h2 : A + B ≤ 9223372036854775807)
    (h : GL P n Q ops rest ((d, iv (A + B)) :: f) w) : GL P n Q ops (⟨some d, .binOp .add t x y t', ty, pos, aft, g⟩ :: rest) f w :=
  GL.yields hw rfl hlt (fun a ha => by simp [execOp, ha.eval hx, ha.eval hy, eqGuard, binOp, Op.intArith, wrap_i64 h1 h2]) h
theorem GL.sub_i64 {t t' : TypeId} {x y : Operand} {A B : Int} (hw : want ops f g = some true) (hlt : Nat.blt d n.size = true) (hx : ev f x = some (iv A)) (hy : ev f y = some (iv B)) (h1 : -9223372036854775808 ≤ A - B) (h2 : A - B ≤ 9223372036854775807)
    (h : GL P n Q ops rest ((d, iv (A - B)) :: f) w) : GL P n Q ops (⟨some d, .binOp .sub t x y t', ty, pos, aft, g⟩ :: rest) f w :=
  GL.yields hw rfl hlt (fun a ha => by simp [execOp, ha.eval hx, ha.eval hy, eqGuard, binOp, Op.intArith, wrap_i64 h1 h2]) h
theorem GL.mul_i64 {t t' : TypeId} {x y : Operand} {A B : Int} (hw : want ops f g = some true) (hlt : Nat.blt d n.size = true) (hx : ev f x = some (iv A)) (hy : ev f y = some (iv B)) (h1 : -9223372036854775808 ≤ A * B) (h2 : A * B ≤ 9223372036854775807)
    (h : GL P n Q ops rest ((d, iv (A * B)) :: f) w) : GL P n Q ops (⟨some d, .binOp .mul t x y t', ty, pos, aft, g⟩ :: rest) f w :=
  GL.yields hw rfl hlt (fun a ha => by simp [execOp, ha.eval hx, ha.eval hy, eqGuard, binOp, Op.intArith, wrap_i64 h1 h2]) h
theorem GL.quo_i64 {t t' : TypeId} {x y : Operand} {A B : Int} (hw : want ops f g = some true) (hlt : Nat.blt d n.size = true) (hx : ev f x = some (iv A)) (hy : ev f y = some (iv B)) (h1 : 0 ≤ A) (h2 : A ≤ 9223372036854775807) (h3 : 0 < B)
    (h : GL P n Q ops rest ((d, iv (A / B)) :: f) w) : GL P n Q ops (⟨some d, .binOp .quo t x y t', ty, pos, aft, g⟩ :: rest) f w :=
  GL.yields hw rfl hlt (fun a ha => by
    have e : A.tdiv B = A / B := Int.tdiv_eq_ediv_of_nonneg h1
    have h4 : A / B ≤ A := Int.ediv_le_self _ h1
    have h5 : 0 ≤ A / B := Int.ediv_nonneg h1 (by omega)
    simp [execOp, ha.eval hx, ha.eval hy, eqGuard, binOp, Op.intDiv, show B ≠ 0 by omega, e, wrap_i64 (show -9223372036854775808 ≤ A / B by omega) (show A / B ≤ 9223372036854775807 by omega)]) h
theorem GL.rem_i64 {t t' : TypeId} {x y : Operand} {A B : Int} (hw : want ops f g = some true) (hlt : Nat.blt d n.size = true) (hx : ev f x = some (iv A)) (hy : ev f y = some (iv B)) (h1 : 0 ≤ A) (h3 : 0 < B)
    (h : GL P n Q ops rest ((d, iv (A % B)) :: f) w) : GL P n Q ops (⟨some d, .binOp .rem t x y t', ty, pos, aft, g⟩ :: rest) f w :=
  GL.yields hw rfl hlt (fun a ha => by
    have e : A.tmod B = A % B := Int.tmod_eq_emod_of_nonneg h1
    simp [execOp, ha.eval hx, ha.eval hy, eqGuard, binOp, Op.intDiv, show B ≠ 0 by omega, e]) h
/-- All the rest, as the model has it. -/
theorem GL.bin {op : BinOp} {t t' : TypeId} {x y : Operand} {K K' : IntKind} {A B : Int} {v : Value} (hw : want ops f g = some true) (hlt : Nat.blt d n.size = true) (hx : ev f x = some (.int K A)) (hy : ev f y = some (.int K' B))
    (hr : ∀ w, (do eqGuard op t x y (.int K A) (.int K' B); binOp op t (.int K A) (.int K' B) : Sem Value).run P w = .ok v w)
    (h : GL P n Q ops rest ((d, v) :: f) w) : GL P n Q ops (⟨some d, .binOp op t x y t', ty, pos, aft, g⟩ :: rest) f w :=
  GL.yields hw rfl hlt (fun a ha => by
    have := hr w
    simp only [execOp, ha.eval hx, ha.eval hy]
    simp only [Sem.run_bind] at this ⊢
    rw [this]
    rfl) h
theorem GL.conv_int {src dst : TypeId} {x : Operand} {K K1 K' : IntKind} {A : Int} {i j : Ti} (hT : Tys P tt) (hw : want ops f g = some true) (hlt : Nat.blt d n.size = true) (hi : TT.get tt src = some i) (hdi : i.desc = .int K1) (hj : TT.get tt dst = some j) (hdj : j.desc = .int K') (hx : ev f x = some (.int K A))
    (h : GL P n Q ops rest ((d, .int K' (K'.wrap A)) :: f) w) : GL P n Q ops (⟨some d, .convert src dst x, ty, pos, aft, g⟩ :: rest) f w :=
  GL.yields hw rfl hlt (fun a ha => by
    have hs : P.underlying src = some (.int K1) := by have := (hT.ok src i hi).desc; rw [hdi] at this; exact this
    have ht : P.underlying dst = some (.int K') := by have := (hT.ok dst j hj).desc; rw [hdj] at this; exact this
    simp [execOp, ha.eval hx, convert, run_underlying hs, run_underlying ht, Conv.intToInt]) h

/-! len -/
theorem GL.len {t : TypeId} {x : Operand} {p : Option Addr} {m c e : Nat} {i : Ti} (hT : Tys P tt) (hw : want ops f g = some true) (hlt : Nat.blt d n.size = true) (hi : TT.get tt t = some i) (hdesc : i.desc = .slice e) (hx : ev f x = some (.slice p m c))
    (h : GL P n Q ops rest ((d, iv m) :: f) w) : GL P n Q ops (⟨some d, .call { callee := .builtin .len, args := #[x], argTypes := #[t] }, ty, pos, aft, g⟩ :: rest) f w :=
  GL.yields hw rfl hlt (fun a ha => by
    have hu : P.underlying t = some (.slice e) := by have := (hT.ok t i hi).desc; rw [hdesc] at this; exact this
    simp [execOp, resolve, ha.eval hx, invoke, builtin, Builtin.len_, run_underlying hu, goInt]) h

/-! addresses -/
theorem add_addr (b o j : Nat) : (⟨b, o, none⟩ : Addr).add j = ⟨b, o + j, none⟩ := by unfold Addr.add; split <;> simp_all
theorem GL.fieldAddr {s : TypeId} {x : Operand} {b o j m e : Nat} {i ie : Ti} {fs : List (TypeId × Nat)} (hT : Tys P tt) (hw : want ops f g = some true) (hlt : Nat.blt d n.size = true) (hi : TT.get tt s = some i) (hdesc : i.desc = .struct fs) (hj : fs[j]? = some (e, m)) (hx : ev f x = some (ptr b o))
    (hie : TT.get tt e = some ie) (hz : Nat.beq ie.size 0 = false)
    (h : GL P n Q ops rest ((d, ptr b (o + m)) :: f) w) : GL P n Q ops (⟨some d, .fieldAddr s x j, ty, pos, aft, g⟩ :: rest) f w :=
  GL.yields hw rfl hlt (fun a ha => by
    have := (hT.ok s i hi).desc
    rw [hdesc] at this
    obtain ⟨gs, hu, hgs⟩ := this
    rw [← hgs] at hj
    simp only [List.getElem?_map] at hj
    obtain ⟨fd, hfd, he⟩ := Option.map_eq_some_iff.1 hj
    have hfd' : gs[j]? = some fd := by simpa using hfd
    simp only [Prod.mk.injEq] at he
    have hs := (hT.ok e ie hie).run_sizeOf w
    have hz' : ie.size ≠ 0 := Nat.ne_of_beq_eq_false hz
    have hrun : (fieldPlace ⟨b, o, none⟩ fd).run P w = .ok ⟨b, o + fd.offset, none⟩ w := by
      simp [fieldPlace, he.1, hs, hz', add_addr]
    simp [execOp, ha.eval hx, Instr.fieldAt, run_underlying hu, hfd', Instr.sureAddr, hrun, he.2]) h
theorem GL.indexSlice (j s o' : Nat) {t : TypeId} {x y : Operand} {b o m c e : Nat} {A : Int} {K : IntKind} {i ie : Ti} (hT : Tys P tt) (hw : want ops f g = some true) (hlt : Nat.blt d n.size = true) (hi : TT.get tt t = some i) (hdesc : i.desc = .slice e) (hie : TT.get tt e = some ie)
    (hx : ev f x = some (.slice (some ⟨b, o, none⟩) m c)) (hy : ev f y = some (.int K A)) (hs : ie.size = s) (hA : A = (j : Int)) (hj : j < m) (ho : o + j * s = o')
    (h : GL P n Q ops rest ((d, ptr b o') :: f) w) : GL P n Q ops (⟨some d, .indexAddr t x y, ty, pos, aft, g⟩ :: rest) f w :=
  GL.yields hw rfl hlt (fun a ha => by
    have hu : P.underlying t = some (.slice e) := by have := (hT.ok t i hi).desc; rw [hdesc] at this; exact this
    have hsz := (hT.ok e ie hie).run_sizeOf w
    rw [hs] at hsz
    simp [execOp, ha.eval hx, ha.eval hy, Instr.indexAt, asIntOf, run_underlying hu, hA, hj, hsz, add_addr, ho]) h
theorem GL.indexArr (j s o' : Nat) {t : TypeId} {x y : Operand} {b o m e : Nat} {A : Int} {K : IntKind} {i ie : Ti} (hT : Tys P tt) (hw : want ops f g = some true) (hlt : Nat.blt d n.size = true) (hi : TT.get tt t = some i) (hdesc : i.desc = .arr m e) (hie : TT.get tt e = some ie)
    (hx : ev f x = some (ptr b o)) (hy : ev f y = some (.int K A)) (hs : ie.size = s) (hA : A = (j : Int)) (hj : j < m) (ho : o + j * s = o')
    (h : GL P n Q ops rest ((d, ptr b o') :: f) w) : GL P n Q ops (⟨some d, .indexAddr t x y, ty, pos, aft, g⟩ :: rest) f w :=
  GL.yields hw rfl hlt (fun a ha => by
    have hu : P.underlying t = some (.array m e) := by have := (hT.ok t i hi).desc; rw [hdesc] at this; exact this
    have hsz := (hT.ok e ie hie).run_sizeOf w
    rw [hs] at hsz
    simp [execOp, ha.eval hx, ha.eval hy, Instr.indexAt, asIntOf, Instr.sureAddr, run_underlying hu, hA, hj, hsz, add_addr, ho]) h
end
end Go.Bd
/-
  The operations that touch memory; calls.
-/
set_option linter.unusedVariables false
set_option linter.unusedSimpArgs false
namespace Go.Bd
open Go.RowKit

/-- Block b alone may have turned. -/
structure Chg (b : Nat) (w w' : World) : Prop where
  os : w'.os = w.os
  tape : w'.tape = w.tape
  output : w'.output = w.output
  size : w'.heap.size = w.heap.size
  block : ∀ k, k ≠ b → w'.heap[k]? = w.heap[k]?
theorem chg_put (w : World) (b o : Nat) (vs : List Value) : Chg b w (World.put w b o vs) := ⟨rfl, rfl, rfl, size_put _ _ _ _, fun k hk => heap_put_other hk⟩
theorem Chg.below {B b : Nat} {w0 w w' : World} (h : Chg b w w') (hb : B ≤ b) (h0 : Below B w0 w) : Below B w0 w' :=
  h0.trans ⟨h.os, h.tape, h.output, by rw [h.size]; exact Nat.le_refl _, fun k hk => h.block k (by omega)⟩
theorem Blk.chg {b b' : Nat} {T : TypeId} {vs : List Value} {w w' : World} (h : Blk w b T vs) (hc : Chg b' w w') (hne : b ≠ b') : Blk w' b T vs := h.keep (hc.block b hne)
theorem At.chg {b b' o : Nat} {S : Nat → Nat × Nat → Prop} {vs : List Value} {w w' : World} (h : At S w b o vs) (hc : Chg b' w w') (hne : b ≠ b') : At S w' b o vs := h.keep (hc.block b hne)

/-- What the call itself lies in. -/
structure Enters (P : Program) (g : FuncId) (fn : Func) : Prop where
  func : P.funcs[g]? = some fn
  name : (fn.name == "runtime.NumGoroutine") = false
  body : fn.body.isSome = true
theorem run_callFunc {P : Program} {g : FuncId} {fn : Func} (h : Enters P g fn) (args : Array Value) (w : World) : (callFunc g args).run P w = .ok (.enter g args) w := by
  obtain ⟨hf, hn, hb⟩ := h
  have hb' : fn.body.isNone = false := by cases hbb : fn.body <;> simp_all
  simp only [callFunc, Sem.run_bind, run_program, Result.andThen_ok, hf]
  rw [if_neg (by rw [hn]; simp), if_neg (by rw [hb']; simp)]
  rfl
/-- The call of function g hands back what Φ says. -/
structure Does (P : Program) (g : FuncId) (args : Array Value) (w : World) (Φ : Value → World → Prop) : Prop where
  enters : ∃ fn, Enters P g fn
  calls : Calls P g args w (Ret Φ)
theorem Does.mono {P : Program} {g : FuncId} {args : Array Value} {w : World} {Φ Φ' : Value → World → Prop} (h : Does P g args w Φ) (hi : ∀ v w', Φ v w' → Φ' v w') : Does P g args w Φ' :=
  ⟨h.enters, h.calls.mono fun e w' ⟨v, hv, hΦ⟩ => ⟨v, hv, hi _ _ hΦ⟩⟩
theorem call_of_G {P : Program} {fn : Func} {g : FuncId} {c : Code} {args : Array Value} {w : World} {Φ : Value → World → Prop} {f : Fr} (hf : P.funcs[g]? = some fn) (hn : (fn.name == "runtime.NumGoroutine") = false) (hb : fn.body = some c)
    (hsz : Nat.ble args.size fn.ntmps = true) (hfr : ∀ t v, Fr.get f t = some v → args[t]? = some v)
    (h : G P fn (FnE P Φ) ⟨fn.ntmps, [], none⟩ [.code c] f w) : Does P g args w Φ :=
  ⟨⟨fn, hf, hn, by simp [hb]⟩, calls_of_G hf hb hsz hfr h⟩
/-- The frame at the beginning. -/
def argsFrom : Nat → List Value → Fr
  | _, [] => []
  | i, v :: vs => (i, v) :: argsFrom (i + 1) vs
theorem argsFrom_get : ∀ (vs : List Value) (i t : Nat) (v : Value), Fr.get (argsFrom i vs) t = some v → ∃ j, t = i + j ∧ vs[j]? = some v
  | [], i, t, v, h => by simp [argsFrom, Fr.get] at h
  | u :: us, i, t, v, h => by
    simp only [argsFrom, Fr.get] at h
    cases hb : Nat.beq i t with
    | true =>
      have := Nat.eq_of_beq_eq_true hb
      simp only [hb, Option.some.injEq] at h
      exact ⟨0, by omega, by simp [h]⟩
    | false =>
      simp only [hb] at h
      obtain ⟨j, hj, hv⟩ := argsFrom_get us (i + 1) t v h
      exact ⟨j + 1, by omega, by simpa using hv⟩
theorem argsFrom_ok (vs : List Value) : ∀ t v, Fr.get (argsFrom 0 vs) t = some v → vs.toArray[t]? = some v := fun t v h => by
  obtain ⟨j, hj, hv⟩ := argsFrom_get vs 0 t v h
  simp at hj
  subst hj
  simpa using hv
/-- The opening of a walk. -/
theorem call_walk {P : Program} {fn : Func} {g : FuncId} {c : Code} {vs : List Value} {w : World} {Φ : Value → World → Prop} (hf : P.funcs[g]? = some fn) (hn : (fn.name == "runtime.NumGoroutine") = false) (hb : fn.body = some c) {m : Nat} (hm : fn.ntmps = m)
    (hsz : Nat.ble vs.length m = true) (h : G P fn (FnE P Φ) ⟨m, [], none⟩ [.code c] (argsFrom 0 vs) w) : Does P g vs.toArray w Φ := by
  subst hm
  exact call_of_G hf hn hb (by simpa using hsz) (argsFrom_ok vs) h

section
variable {P : Program} {fn : Func} {Φ : Value → World → Prop} {n : Sz} {Q : Act → World → Prop} {k : List Item} {f : Fr} {w : World} {ops : Array Oper} {rest : List Oper} {tt : List (Nat × Ti)}
variable {d : Nat} {ty : TypeId} {pos : String} {aft : Array Edge} {g : Option (Nat × Bool)}

/-! returns -/
theorem G.ret0 (hD : n.D = []) (hro : n.ro = none) (hr : fn.results = #[]) (h : Φ (.tuple #[]) w) : G P fn (FnE P Φ) n (.code .ret :: k) f w :=
  G.ret_of (v := .tuple #[]) hD hro (fun a ha => by simp [results, hr]) h
theorem G.end0 (hD : n.D = []) (hro : n.ro = none) (hr : fn.results = #[]) (h : Φ (.tuple #[]) w) : G P fn (FnE P Φ) n [] f w :=
  G.end_of (v := .tuple #[]) hD hro (fun a ha => by simp [results, hr]) h
theorem G.ret1 {t : Tmp} {v : Value} (hD : n.D = []) (hro : n.ro = none) (hr : fn.results = #[.tmp t]) (hv : Fr.get f t = some v) (h : Φ v w) : G P fn (FnE P Φ) n (.code .ret :: k) f w :=
  G.ret_of (v := v) hD hro (fun a ha => by simp [results, hr, ha.at_ t v hv]) h
theorem G.ret2 {t t' : Tmp} {v v' : Value} (hD : n.D = []) (hro : n.ro = none) (hr : fn.results = #[.tmp t, .tmp t']) (hv : Fr.get f t = some v) (hv' : Fr.get f t' = some v') (h : Φ (.tuple #[v, v']) w) : G P fn (FnE P Φ) n (.code .ret :: k) f w :=
  G.ret_of (v := .tuple #[v, v']) hD hro (fun a ha => by simp [results, hr, ha.at_ t v hv, ha.at_ t' v' hv']) h
theorem G.ret3 {t t' t'' : Tmp} {v v' v'' : Value} (hD : n.D = []) (hro : n.ro = none) (hr : fn.results = #[.tmp t, .tmp t', .tmp t'']) (hv : Fr.get f t = some v) (hv' : Fr.get f t' = some v') (hv'' : Fr.get f t'' = some v'') (h : Φ (.tuple #[v, v', v'']) w) : G P fn (FnE P Φ) n (.code .ret :: k) f w :=
  G.ret_of (v := .tuple #[v, v', v'']) hD hro (fun a ha => by simp [results, hr, ha.at_ t v hv, ha.at_ t' v' hv', ha.at_ t'' v'' hv'']) h

/-! loads -/
theorem run_load1 {t : TypeId} {i : Ti} {b o : Nat} {v : Value} (hT : Tys P tt) (hi : TT.get tt t = some i) (hg : i.desc.agg = false) (hc : w.cell? ⟨b, o, none⟩ = some v) : (loadVar t ⟨b, o, none⟩).run P w = .ok v w := by
  simp [loadVar, (hT.ok t i hi).run_isAgg, hg, hc]
theorem run_loadN {t : TypeId} {i : Ti} {S : Nat → Nat × Nat → Prop} {b o : Nat} {vs : List Value} (hT : Tys P tt) (hi : TT.get tt t = some i) (hg : i.desc.agg = true) (hA : At S w b o vs) (hl : vs.length = i.size) : (loadVar t ⟨b, o, none⟩).run P w = .ok (.agg vs.toArray) w := by
  have h := run_loadCells_list (P := P) w ⟨b, o, none⟩ vs (fun j v hj => by rw [add_addr]; exact hA.cell hj)
  simp [loadVar, (hT.ok t i hi).run_isAgg, hg, (hT.ok t i hi).run_sizeOf, ← hl, h]
theorem GL.load1 {t : TypeId} {x : Operand} {i : Ti} {S : Nat → Nat × Nat → Prop} {b o : Nat} {v : Value} {vs : List Value} (hT : Tys P tt) (hw : want ops f g = some true) (hlt : Nat.blt d n.size = true) (hi : TT.get tt t = some i) (hg : i.desc.agg = false)
    (hx : ev f x = some (ptr b o)) (hA : At S w b o (v :: vs)) (h : GL P n Q ops rest ((d, v) :: f) w) : GL P n Q ops (⟨some d, .load t x, ty, pos, aft, g⟩ :: rest) f w :=
  GL.yields hw rfl hlt (fun a ha => by
    have hc : w.cell? ⟨b, o, none⟩ = some v := by have := hA.cell (j := 0) (v := v) rfl; simpa using this
    simp [execOp, Instr.loadAt, ha.eval hx, Instr.sureAddr, run_load1 hT hi hg hc]) h
theorem GL.loadN {t : TypeId} {x : Operand} {i : Ti} {S : Nat → Nat × Nat → Prop} {b o : Nat} {vs : List Value} (hT : Tys P tt) (hw : want ops f g = some true) (hlt : Nat.blt d n.size = true) (hi : TT.get tt t = some i) (hg : i.desc.agg = true)
    (hx : ev f x = some (ptr b o)) (hA : At S w b o vs) (hl : vs.length = i.size) (h : GL P n Q ops rest ((d, .agg vs.toArray) :: f) w) : GL P n Q ops (⟨some d, .load t x, ty, pos, aft, g⟩ :: rest) f w :=
  GL.yields hw rfl hlt (fun a ha => by simp [execOp, Instr.loadAt, ha.eval hx, Instr.sureAddr, run_loadN hT hi hg hA hl]) h

/-! new variables -/
theorem GL.alloc {t : TypeId} {i : Ti} (hT : Tys P tt) (hw : want ops f g = some true) (hlt : Nat.blt d n.size = true) (hi : TT.get tt t = some i)
    (h : ∀ b w', b = w.heap.size → Blk w' b t i.zero → Ext w w' → GL P n Q ops rest ((d, ptr b 0) :: f) w') : GL P n Q ops (⟨some d, .alloc t, ty, pos, aft, g⟩ :: rest) f w := by
  obtain ⟨z, hz, hc⟩ := (hT.ok t i hi).run_zero w
  refine GL.yields (w' := w.alloc (.cells i.zero.toArray t)) hw rfl hlt (fun a ha => ?_) (h w.heap.size _ rfl (blk_alloc w i.zero t) (ext_alloc w _))
  simp [execOp, Instr.alloc, hz, newVar, newRow, hc]
theorem GL.box {t : TypeId} {x : Operand} {v : Value} {vs : List Value} (hw : want ops f g = some true) (hlt : Nat.blt d n.size = true) (hx : ev f x = some v) (hv : v.cells = vs.toArray)
    (h : ∀ b w', b = w.heap.size → Blk w' b t vs → Ext w w' → GL P n Q ops rest ((d, ptr b 0) :: f) w') : GL P n Q ops (⟨some d, .box t x, ty, pos, aft, g⟩ :: rest) f w := by
  refine GL.yields (w' := w.alloc (.cells vs.toArray t)) hw rfl hlt (fun a ha => ?_) (h w.heap.size _ rfl (blk_alloc w vs t) (ext_alloc w _))
  simp [execOp, Instr.box, ha.eval hx, newVar, newRow, hv]

/-! stores -/
theorem run_store {t : TypeId} {i : Ti} {b o : Nat} {T : TypeId} {v : Value} {c vs : List Value} (hT : Tys P tt) (hi : TT.get tt t = some i) (hv : v.cells = vs.toArray) (hl : vs.length = i.size) (h1 : ∀ u ∈ vs, u.oneCell' = true) (hB : Blk w b T c) (hle : o + vs.length ≤ c.length) :
    (storeVar t ⟨b, o, none⟩ v).run P w = .ok () (World.put w b o vs) := by
  have := run_storeCells (P := P) vs o 0 b c T (0, 0) w hB (by omega) h1 (fun j hj => by simp)
  simp only [Nat.add_zero] at this
  simp [storeVar, hv, (hT.ok t i hi).run_sizeOf, hl, this]
/-- Into a block of one's own, anywhere. -/
theorem GL.storeIn {t : TypeId} {x y : Operand} {i : Ti} {b o : Nat} {T : TypeId} {v : Value} {c vs : List Value} (hT : Tys P tt) (hw : want ops f g = some true) (hi : TT.get tt t = some i) (hx : ev f x = some (ptr b o)) (hy : ev f y = some v) (hv : v.cells = vs.toArray) (hl : vs.length = i.size) (h1 : ∀ u ∈ vs, u.oneCell' = true) (hB : Blk w b T c) (hle : o + vs.length ≤ c.length)
    (h : ∀ w', Chg b w w' → Blk w' b T (splice c o vs) → GL P n Q ops rest f w') : GL P n Q ops (⟨none, .store t x y, ty, pos, aft, g⟩ :: rest) f w :=
  GL.writes hw rfl (fun a ha => by simp [execOp, Instr.storeAt, ha.eval hx, ha.eval hy, Instr.sureAddr, run_store hT hi hv hl h1 hB hle]) (h _ (chg_put w b o vs) (blk_put hB))
/-- A variable, whole. -/
theorem GL.storeVar {t : TypeId} {x y : Operand} {i : Ti} {b : Nat} {T : TypeId} {v : Value} {c vs : List Value} (hT : Tys P tt) (hw : want ops f g = some true) (hi : TT.get tt t = some i) (hx : ev f x = some (ptr b 0)) (hy : ev f y = some v) (hv : v.cells = vs.toArray) (hl : vs.length = i.size) (h1 : ∀ u ∈ vs, u.oneCell' = true) (hB : Blk w b T c) (hle : c.length = vs.length)
    (h : ∀ w', Chg b w w' → Blk w' b T vs → GL P n Q ops rest f w') : GL P n Q ops (⟨none, .store t x y, ty, pos, aft, g⟩ :: rest) f w :=
  GL.storeIn hT hw hi hx hy hv hl h1 hB (by omega) fun w' hc hB' => h w' hc (by
    have : splice c 0 vs = vs := by simp [splice, ← hle]
    rwa [this] at hB')
/-- One cell. -/
theorem GL.store1 {t : TypeId} {x y : Operand} {i : Ti} {b o : Nat} {T : TypeId} {v : Value} {c : List Value} (hT : Tys P tt) (hw : want ops f g = some true) (hi : TT.get tt t = some i) (hs : i.size = 1) (hx : ev f x = some (ptr b o)) (hy : ev f y = some v) (hv : v.cells = #[v]) (h1 : v.oneCell' = true) (hB : Blk w b T c) (hle : o < c.length)
    (h : ∀ w', Chg b w w' → Blk w' b T (c.set o v) → GL P n Q ops rest f w') : GL P n Q ops (⟨none, .store t x y, ty, pos, aft, g⟩ :: rest) f w :=
  GL.storeIn (vs := [v]) hT hw hi hx hy hv (by simp [hs]) (by simpa using h1) hB (by simp; omega) fun w' hc hB' => h w' hc (by
    have : splice c o [v] = c.set o v := by simp [splice, List.set_eq_take_append_cons_drop, hle]
    rwa [this] at hB')

/-! calls -/
theorem GL.call {gf : FuncId} {args : Array Operand} {tys : Array TypeId} {vs : List Value} {Ψ : Value → World → Prop} (hw : want ops f g = some true) (hlt : Nat.blt d n.size = true) (hxs : evs f args.toList = some vs) (hc : Does P gf vs.toArray w Ψ)
    (h : ∀ v w', Ψ v w' → GL P n Q ops rest ((d, v) :: f) w') : GL P n Q ops (⟨some d, .call { callee := .value (.func gf), args := args, argTypes := tys }, ty, pos, aft, g⟩ :: rest) f w := by
  obtain ⟨⟨fn', hen⟩, hcalls⟩ := hc
  refine GL.enters hw rfl hlt (fun a ha => ?_) hcalls h
  have e1 : args.map a.eval = vs.toArray := by
    apply Array.ext'
    simp only [Array.toList_map]
    exact evs_map ha _ _ hxs
  simp [execOp, resolve, Act.eval, Deferred.ofValue, e1, invoke, run_callFunc hen]
theorem GL.call0 {gf : FuncId} {args : Array Operand} {tys : Array TypeId} {vs : List Value} {Ψ : Value → World → Prop} (hw : want ops f g = some true) (hxs : evs f args.toList = some vs) (hc : Does P gf vs.toArray w Ψ)
    (h : ∀ v w', Ψ v w' → GL P n Q ops rest f w') : GL P n Q ops (⟨none, .call { callee := .value (.func gf), args := args, argTypes := tys }, ty, pos, aft, g⟩ :: rest) f w := by
  obtain ⟨⟨fn', hen⟩, hcalls⟩ := hc
  refine GL.enters0 hw rfl (fun a ha => ?_) hcalls h
  have e1 : args.map a.eval = vs.toArray := by
    apply Array.ext'
    simp only [Array.toList_map]
    exact evs_map ha _ _ hxs
  simp [execOp, resolve, Act.eval, Deferred.ofValue, e1, invoke, run_callFunc hen]
/-- A call of a function value. -/
theorem GL.callv {x : Operand} {gf : FuncId} {first cap : List Value} {args : Array Operand} {tys : Array TypeId} {vs : List Value} {Ψ : Value → World → Prop} (hw : want ops f g = some true) (hlt : Nat.blt d n.size = true) (hx : ev f x = some (.func (.func gf) first.toArray cap.toArray)) (hxs : evs f args.toList = some vs) (hc : Does P gf (first ++ vs ++ cap).toArray w Ψ)
    (h : ∀ v w', Ψ v w' → GL P n Q ops rest ((d, v) :: f) w') : GL P n Q ops (⟨some d, .call { callee := .value x, args := args, argTypes := tys }, ty, pos, aft, g⟩ :: rest) f w := by
  obtain ⟨⟨fn', hen⟩, hcalls⟩ := hc
  refine GL.enters hw rfl hlt (fun a ha => ?_) hcalls h
  have e1 : args.map a.eval = vs.toArray := by
    apply Array.ext'
    simp only [Array.toList_map]
    exact evs_map ha _ _ hxs
  simp [execOp, resolve, ha.eval hx, Deferred.ofValue, e1, invoke, run_callFunc hen]

/-! '==' -/
theorem GL.eq_bytes {op : BinOp} {t t' e : TypeId} {x y : Operand} {m : Nat} {i ie : Ti} {xs ys : List UInt8} {c : Bool} (hT : Tys P tt) (hw : want ops f g = some true) (hlt : Nat.blt d n.size = true) (hi : TT.get tt t = some i) (hdesc : i.desc = .arr m e) (hie : TT.get tt e = some ie) (hde : ie.desc = .int .u8) (hse : ie.size = 1) (hng : P.eqGuardType P.depth t = false)
    (hx : ev f x = some (.agg (xs.map bv).toArray)) (hy : ev f y = some (.agg (ys.map bv).toArray)) (hlx : xs.length = m) (hly : ys.length = m) (hop : (op = .eql ∧ (c = true ↔ xs = ys)) ∨ (op = .neq ∧ (c = true ↔ xs ≠ ys)))
    (h : GL P n Q ops rest ((d, .bool c) :: f) w) : GL P n Q ops (⟨some d, .binOp op t x y t', ty, pos, aft, g⟩ :: rest) f w :=
  GL.yields hw rfl hlt (fun a ha => by
    have hu : P.underlying t = some (.array m e) := by have := (hT.ok t i hi).desc; rw [hdesc] at this; exact this
    have he : P.underlying e = some (.int .u8) := by have := (hT.ok e ie hie).desc; rw [hde] at this; exact this
    have hsz : ∀ w, (sizeOf e).run P w = .ok 1 w := fun w => by rw [(hT.ok e ie hie).run_sizeOf w, hse]
    have hb := run_equalIn_bytes (P := P) w 9998 t e m hu he hsz xs ys hlx hly
    have e0 : ∀ zs : List UInt8, zs.map Extern.Stop.cell = zs.map bv := fun zs => rfl
    rw [e0, e0] at hb
    rcases hop with ⟨rfl, hcc⟩ | ⟨rfl, hcc⟩
    · simp only [execOp, ha.eval hx, ha.eval hy, Sem.run_bind, run_eqGuard_agg (P := P) w .eql t x y _ _ hng, Result.andThen_ok, run_eql_struct, hb, Sem.run_pure]
      have : (xs == ys) = c := by rw [Bool.eq_iff_iff, hcc]; simp
      rw [this]
    · simp only [execOp, ha.eval hx, ha.eval hy, Sem.run_bind, run_eqGuard_agg (P := P) w .neq t x y _ _ hng, Result.andThen_ok, run_neq_struct, hb, Sem.run_pure]
      have : (!(xs == ys)) = c := by rw [Bool.eq_iff_iff, hcc]; simp
      rw [this]) h
end
end Go.Bd
