/-
  The operations of my calculus: what each yields, read off the model; and what is known of memory.
-/
import Derived.Test.YtefneilaongpbaaSteps
set_option linter.unusedVariables false
set_option linter.unusedSimpArgs false
namespace Go.Bd
open Go.RowKit

/-! ### 1. Types, by a table -/
inductive Td where
  | cell
  | int (k : IntKind)
  | slice (e : TypeId)
  | arr (len : Nat) (e : TypeId)
  | struct (fs : List (TypeId × Nat))
structure Ti where
  desc : Td
  size : Nat
  bytes : Nat
  zero : List Value
def Td.agg : Td → Bool
  | .arr _ _ | .struct _ => true
  | _ => false
def TT.get : List (Nat × Ti) → Nat → Option Ti
  | [], _ => none
  | (i, v) :: r, t => match Nat.beq i t with
    | true => some v
    | false => TT.get r t
def Td.fits (P : Program) (t : TypeId) : Td → Prop
  | .int k => P.underlying t = some (.int k)
  | .cell => ∃ d, P.underlying t = some d ∧ (match d with | .struct _ | .array _ _ | .slice _ => false | _ => true) = true
  | .slice e => P.underlying t = some (.slice e)
  | .arr n e => P.underlying t = some (.array n e)
  | .struct fs => ∃ gs, P.underlying t = some (.struct gs) ∧ gs.toList.map (fun g => (g.type, g.offset)) = fs
structure Ti.Ok (P : Program) (t : TypeId) (i : Ti) : Prop where
  desc : i.desc.fits P t
  info : (P.info? t).map (fun x => (x.size, x.bytes)) = some (i.size, i.bytes)
  zero : (P.info? t).bind (fun x => x.zero.map fun z => z.cells.toList) = some i.zero
structure Tys (P : Program) (tt : List (Nat × Ti)) : Prop where
  ok : ∀ t i, TT.get tt t = some i → i.Ok P t
theorem Tys.nil (P : Program) : Tys P [] := ⟨fun t i h => by simp [TT.get] at h⟩
theorem Tys.cons {P : Program} {tt : List (Nat × Ti)} {t : Nat} {i : Ti} (h : i.Ok P t) (hs : Tys P tt) : Tys P ((t, i) :: tt) := ⟨fun u j hj => by
  simp only [TT.get] at hj
  cases hb : Nat.beq t u with
  | true => have := Nat.eq_of_beq_eq_true hb; subst this; simp only [hb, Option.some.injEq] at hj; subst hj; exact h
  | false => simp only [hb] at hj; exact hs.ok u j hj⟩

section
variable {P : Program} {tt : List (Nat × Ti)} {t : TypeId} {i : Ti}
theorem Ti.Ok.run_isAgg (h : i.Ok P t) (w : World) : (isAgg t).run P w = .ok i.desc.agg w := by
  obtain ⟨hd, _, _⟩ := h
  unfold isAgg
  cases hi : i.desc with
  | cell => obtain ⟨d, hu, hn⟩ := (hi ▸ hd : Td.fits P t .cell); simp only [Sem.run_bind, run_underlying hu]; cases d <;> simp_all [Td.agg]
  | int k => have hu := (hi ▸ hd : Td.fits P t (.int k)); simp [Sem.run_bind, run_underlying hu, Td.agg]
  | slice e => have hu := (hi ▸ hd : Td.fits P t (.slice e)); simp [Sem.run_bind, run_underlying hu, Td.agg]
  | arr n e => have hu := (hi ▸ hd : Td.fits P t (.arr n e)); simp [Sem.run_bind, run_underlying hu, Td.agg]
  | struct fs => obtain ⟨gs, hu, _⟩ := (hi ▸ hd : Td.fits P t (.struct fs)); simp [Sem.run_bind, run_underlying hu, Td.agg]
theorem Ti.Ok.run_info (h : i.Ok P t) (w : World) : ∃ x, P.info? t = some x ∧ (typeInfo t).run P w = .ok x w ∧ x.size = i.size ∧ x.bytes = i.bytes := by
  have := h.info
  cases hx : P.info? t with
  | none => simp [hx] at this
  | some x =>
    simp [hx] at this
    exact ⟨x, rfl, by simp [typeInfo, hx], this.1, this.2⟩
theorem Ti.Ok.run_sizeOf (h : i.Ok P t) (w : World) : (sizeOf t).run P w = .ok i.size w := by
  obtain ⟨x, hx, hr, hs, _⟩ := h.run_info w
  simp [sizeOf, hr, hs]
theorem Ti.Ok.run_zero (h : i.Ok P t) (w : World) : ∃ z, (zeroValue t).run P w = .ok z w ∧ z.cells = i.zero.toArray := by
  obtain ⟨x, hx, hr, hs, _⟩ := h.run_info w
  have hz := h.zero
  simp only [hx, Option.bind_some] at hz
  cases hzz : x.zero with
  | none => simp [hzz] at hz
  | some z => simp [hzz] at hz; exact ⟨z, by simp [zeroValue, hr, hzz], by simp [← hz]⟩
end

/-! ### 2. Memory -/
/-- From offset o on block b holds these. -/
def At (S : Nat → Nat × Nat → Prop) (w : World) (b o : Nat) (vs : List Value) : Prop :=
  ∃ c T fr, w.heap[b]? = some (.cells c T fr) ∧ S b fr ∧ ∀ j v, vs[j]? = some v → c[o + j]? = some v
/-- A block of one's own, whole. -/
def Blk (w : World) (b : Nat) (T : TypeId) (vs : List Value) : Prop := w.heap[b]? = some (.cells vs.toArray T (0, 0))
abbrev any : Nat → Nat × Nat → Prop := fun _ _ => True
section
variable {w w' : World} {b o : Nat} {T : TypeId} {vs : List Value} {S S' : Nat → Nat × Nat → Prop}
theorem Blk.lt (h : Blk w b T vs) : b < w.heap.size := (Array.getElem?_eq_some_iff.1 h).1
theorem At.lt (h : At S w b o vs) : b < w.heap.size := by obtain ⟨c, T, fr, hh, _⟩ := h; exact (Array.getElem?_eq_some_iff.1 hh).1
theorem Blk.keep (h : Blk w b T vs) (hk : w'.heap[b]? = w.heap[b]?) : Blk w' b T vs := by unfold Blk at *; rw [hk]; exact h
theorem At.keep (h : At S w b o vs) (hk : w'.heap[b]? = w.heap[b]?) : At S w' b o vs := by
  obtain ⟨c, T, fr, hh, r⟩ := h
  exact ⟨c, T, fr, hk.trans hh, r⟩
theorem Blk.ext (h : Blk w b T vs) (he : Ext w w') : Blk w' b T vs := h.keep (he.block b h.lt)
theorem At.ext (h : At S w b o vs) (he : Ext w w') : At S w' b o vs := h.keep (he.block b h.lt)
theorem At.imp (h : At S w b o vs) (hS : ∀ b fr, S b fr → S' b fr) : At S' w b o vs := by
  obtain ⟨c, T, fr, hh, hs, r⟩ := h
  exact ⟨c, T, fr, hh, hS _ _ hs, r⟩
theorem At.cell (h : At S w b o vs) {j : Nat} {v : Value} (hv : vs[j]? = some v) : w.cell? ⟨b, o + j, none⟩ = some v := by
  obtain ⟨c, T, fr, hh, _, r⟩ := h
  simp [World.cell?, hh, r j v hv]
theorem At.sub (h : At S w b o vs) (p m : List Value) {q : List Value} (hv : vs = p ++ (m ++ q)) {o' : Nat} (ho : o' = o + p.length) : At S w b o' m := by
  obtain ⟨c, T, fr, hh, hs, r⟩ := h
  refine ⟨c, T, fr, hh, hs, fun j v hj => ?_⟩
  subst ho hv
  rw [Nat.add_assoc]
  refine r (p.length + j) v ?_
  rw [List.getElem?_append_right (by omega), Nat.add_sub_cancel_left, List.getElem?_append_left (List.getElem?_eq_some_iff.1 hj).1]
  exact hj
theorem At.one {j o' : Nat} {v : Value} (h : At S w b o vs) (hv : vs[j]? = some v) (ho : o' = o + j) : At S w b o' [v] := by
  obtain ⟨c, T, fr, hh, hs, r⟩ := h
  refine ⟨c, T, fr, hh, hs, fun i u hi => ?_⟩
  cases i with
  | zero => simp at hi; subst hi ho; exact r j _ hv
  | succ i => simp at hi
theorem At.one0 {j : Nat} {v : Value} (h : At S w b 0 vs) (hv : vs[j]? = some v) : At S w b j [v] := h.one hv (by omega)
theorem Blk.at (h : Blk w b T vs) (p m : List Value) {q : List Value} (hv : vs = p ++ (m ++ q)) (ho : o = p.length) : At (fun b' fr => b' = b ∧ fr = (0, 0)) w b o m := by
  refine ⟨vs.toArray, T, (0, 0), h, ⟨rfl, rfl⟩, fun j v hj => ?_⟩
  subst ho hv
  simp only [List.getElem?_toArray]
  rw [List.getElem?_append_right (by omega), Nat.add_sub_cancel_left, List.getElem?_append_left (List.getElem?_eq_some_iff.1 hj).1]
  exact hj
theorem Blk.one {v : Value} (h : Blk w b T vs) (hv : vs[o]? = some v) : At (fun b' fr => b' = b ∧ fr = (0, 0)) w b o [v] := by
  refine ⟨vs.toArray, T, (0, 0), h, ⟨rfl, rfl⟩, fun j u hj => ?_⟩
  cases j with
  | zero => simp at hj; subst hj; simpa using hv
  | succ j => simp at hj
theorem Blk.all (h : Blk w b T vs) : At any w b 0 vs := ⟨vs.toArray, T, (0, 0), h, trivial, fun j v hj => by simpa using hj⟩
theorem Ext.refl (w : World) : Ext w w := Below.refl _ _
theorem Ext.trans {w1 w2 w3 : World} (h : Ext w1 w2) (h' : Ext w2 w3) : Ext w1 w3 := Below.trans h (Below.mono h' h.size)
theorem ext_alloc (w : World) (o : Obj) : Ext w (w.alloc o) := (Below.refl _ _).alloc (Nat.le_refl _) o
theorem below_then {B : Nat} {w1 w2 w3 : World} (h : Below B w1 w2) (hB : B ≤ w2.heap.size) (h' : Ext w2 w3) : Below B w1 w3 := Below.trans h (Below.mono h' hB)
theorem blk_alloc (w : World) (vs : List Value) (T : TypeId) : Blk (w.alloc (.cells vs.toArray T)) w.heap.size T vs := heap_alloc_new w _
end

/-! ### 3. Stores -/
def splice (c : List Value) (o : Nat) (vs : List Value) : List Value := c.take o ++ (vs ++ c.drop (o + vs.length))
theorem length_splice (c vs : List Value) (o : Nat) (h : o + vs.length ≤ c.length) : (splice c o vs).length = c.length := by
  simp [splice]; omega
theorem splice_nil (c : List Value) (o : Nat) : splice c o [] = c := by simp [splice]
theorem splice_cons (c : List Value) (o : Nat) (v : Value) (vs : List Value) (h : o < c.length) : splice (c.set o v) (o + 1) vs = splice c o (v :: vs) := by
  unfold splice
  rw [List.take_set, List.drop_set, if_pos (by omega), List.set_eq_take_append_cons_drop, if_pos (by simp; omega), List.take_take, Nat.min_eq_left (by omega), List.drop_take]
  have e : o + 1 + vs.length = o + (v :: vs).length := by simp; omega
  rw [e]
  simp
def World.put (w : World) (b o : Nat) (vs : List Value) : World :=
  { w with heap := w.heap.modify b fun | .cells c T fr => .cells (splice c.toList o vs).toArray T fr | x => x }
theorem heap_put_same {w : World} {b o : Nat} {vs : List Value} {c : Array Value} {T : TypeId} {fr : Nat × Nat} (h : w.heap[b]? = some (.cells c T fr)) : (World.put w b o vs).heap[b]? = some (.cells (splice c.toList o vs).toArray T fr) := by
  simp [World.put, Array.getElem?_modify, h]
theorem heap_put_other {w : World} {b o k : Nat} {vs : List Value} (h : k ≠ b) : (World.put w b o vs).heap[k]? = w.heap[k]? := by
  simp [World.put, Array.getElem?_modify, Ne.symm h]
theorem size_put (w : World) (b o : Nat) (vs : List Value) : (World.put w b o vs).heap.size = w.heap.size := by simp [World.put]
theorem blk_put {w : World} {b o : Nat} {T : TypeId} {c vs : List Value} (h : Blk w b T c) : Blk (World.put w b o vs) b T (splice c o vs) := by
  have := heap_put_same (o := o) (vs := vs) h
  simpa [Blk] using this
theorem below_put {B : Nat} {w0 w : World} {b o : Nat} {vs : List Value} (h : Below B w0 w) (hb : B ≤ b) : Below B w0 (World.put w b o vs) :=
  h.trans ⟨rfl, rfl, rfl, by simp [size_put], fun k hk => heap_put_other (by omega)⟩
theorem Blk.put {w : World} {b b' o : Nat} {T : TypeId} {vs us : List Value} (h : Blk w b T vs) (hne : b ≠ b') : Blk (World.put w b' o us) b T vs := h.keep (heap_put_other hne)

theorem run_storeCells {P : Program} (vs : List Value) : ∀ (o i : Nat) (b : Nat) (c : List Value) (T : TypeId) (fr : Nat × Nat) (w : World), w.heap[b]? = some (.cells c.toArray T fr) → o + i + vs.length ≤ c.length →
    (∀ v ∈ vs, v.oneCell' = true) → (∀ j, j < vs.length → (fr.1 ≤ o + i + j && o + i + j < fr.2) = false) →
    (storeCells ⟨b, o, none⟩ vs i).run P w = .ok () (World.put w b (o + i) vs) := by
  induction vs with
  | nil =>
    intro o i b c T fr w hh _ _ _
    have e : World.put w b (o + i) [] = w := by
      unfold World.put
      have : w.heap.modify b (fun | .cells c T fr => .cells (splice c.toList (o + i) []).toArray T fr | x => x) = w.heap := by
        apply Array.ext_getElem?
        intro k
        rw [Array.getElem?_modify]
        split
        · rename_i hk
          subst hk
          rw [hh]
          simp [splice_nil]
        · rfl
      rw [this]
    rw [e]
    rfl
  | cons v vs ih =>
    intro o i b c T fr w hh hlen hone hfr
    have h1 : v.oneCell' = true := hone v (by simp)
    have ha : (⟨b, o, none⟩ : Addr).add i = ⟨b, o + i, none⟩ := by unfold Addr.add; split <;> simp_all
    have hcell : (w.cell? ⟨b, o + i, none⟩).isSome = true := by
      simp [World.cell?, hh]
      simp at hlen
      omega
    have hfz : w.frozen? ⟨b, o + i, none⟩ = false := by
      have := hfr 0 (by simp)
      simpa [World.frozen?, hh] using this
    have hset : w.setCell ⟨b, o + i, none⟩ v = World.put w b (o + i) [v] := by
      simp only [World.setCell, World.put]
      congr 1
      apply Array.ext_getElem?
      intro k
      rw [Array.getElem?_modify, Array.getElem?_modify]
      split
      · rename_i hk
        subst hk
        rw [hh]
        simp only [Option.map_some]
        have hlt : o + i < c.length := by simp at hlen; omega
        simp only [splice, List.length_cons, List.length_nil, Nat.zero_add, Option.isSome_none, Bool.false_eq_true, if_false]
        rw [List.setIfInBounds_toArray, List.set_eq_take_append_cons_drop, if_pos hlt]
        simp
      · rfl
    have hrun : (store ⟨b, o + i, none⟩ v).run P w = .ok () (World.put w b (o + i) [v]) := by
      rw [run_store P w _ v _ h1]
      obtain ⟨u, hu⟩ := Option.isSome_iff_exists.1 hcell
      simp [stored, hu, hfz, hset]
    simp only [storeCells, Sem.run_bind, ha, hrun, Result.andThen_ok]
    have hh' : (World.put w b (o + i) [v]).heap[b]? = some (.cells (c.set (o + i) v).toArray T fr) := by
      have := heap_put_same (o := o + i) (vs := [v]) hh
      rw [this]
      have hlt : o + i < c.length := by simp at hlen; omega
      simp only [splice, List.length_cons, List.length_nil, Nat.zero_add]
      rw [List.set_eq_take_append_cons_drop, if_pos hlt]
      simp
    rw [ih o (i + 1) b (c.set (o + i) v) T fr _ hh' (by simp at hlen ⊢; omega) (fun u hu => hone u (by simp [hu])) (fun j hj => by
      have := hfr (j + 1) (by simp; omega)
      rw [show o + (i + 1) + j = o + i + (j + 1) by omega]
      exact this)]
    congr 1
    simp only [World.put]
    congr 1
    apply Array.ext_getElem?
    intro k
    rw [Array.getElem?_modify, Array.getElem?_modify, Array.getElem?_modify]
    split
    · rename_i hk
      subst hk
      rw [hh]
      have hlt : o + i < c.length := by simp at hlen; omega
      simp only [Option.map_some, List.toList_toArray]
      congr 2
      have e1 : splice c (o + i) [v] = c.set (o + i) v := by
        simp only [splice, List.length_cons, List.length_nil, Nat.zero_add]
        rw [List.set_eq_take_append_cons_drop, if_pos hlt]
        simp
      rw [e1, show o + (i + 1) = o + i + 1 by omega, splice_cons c (o + i) v vs hlt]
    · rfl
end Go.Bd
