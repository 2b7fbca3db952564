/-
  Slicing; making slices; building structs, arrays and slices; the least of two; an element of an array's value; a string's bytes.
-/
import Derived.Test.YtefneilaongpbaaMem2
set_option linter.unusedVariables false
set_option linter.unusedSimpArgs false
set_option maxRecDepth 100000
namespace Go.Bd
open Go Go.RowKit

def bndOk (f : Fr) (dflt : Nat) (x : Option Operand) (L : Nat) : Prop := match x with
  | none => L = dflt
  | some y => ∃ K A, ev f y = some (.int K A) ∧ A = (L : Int)
def cutP (p : Option Addr) (L M sz : Nat) : Option Addr := if M = L then p else p.map (·.add (L * sz))
section
variable {P : Program} {n : Sz} {Q : Act → World → Prop} {f : Fr} {w : World} {ops : Array Oper} {rest : List Oper} {tt : List (Nat × Ti)} {d : Nat} {ty : TypeId} {pos : String} {aft : Array Edge} {g : Option (Nat × Bool)}
theorem run_bound {f : Fr} {a : Act} (ha : St n f a) {y : Operand} {K : IntKind} {A : Int} {L m : Nat} {code : BoundsCode} (h : ev f y = some (.int K A)) (hA : A = (L : Int)) (hL : L ≤ m) (w : World) : (Instr.sliceBound (a.eval y) m code).run P w = .ok L w := by
  rw [ha.eval h]
  simp [Instr.sliceBound, asIntOf, hA, hL]
theorem run_slice {t e : TypeId} {i ie : Ti} {x : Operand} {lo hi mx : Option Operand} {p : Option Addr} {m c L H M sz : Nat} (hT : Tys P tt) (hi' : TT.get tt t = some i) (hdesc : i.desc = .slice e) (hie : TT.get tt e = some ie) (hs : ie.size = sz)
    (hx : ev f x = some (.slice p m c)) (hlo : bndOk f 0 lo L) (hhi : bndOk f m hi H) (hmx : bndOk f c mx M) (hmh : mx.isSome = true → hi.isSome = true) (hLH : L ≤ H) (hHM : H ≤ M) (hMc : M ≤ c) (w : World) :
    ∀ a, St n f a → (execOp a.eval ⟨some d, .slice t x lo hi mx, ty, pos, aft, g⟩).run P w = .ok (.value (.slice (cutP p L M sz) (H - L) (M - L))) w := by
  intro a ha
  have hu : P.underlying t = some (.slice e) := by have := (hT.ok t i hi').desc; rw [hdesc] at this; exact this
  have hsz := fun w => (hT.ok e ie hie).run_sizeOf w
  rw [hs] at hsz
  have B : ∀ (y : Operand) (L m : Nat), (∃ K A, ev f y = some (.int K A) ∧ A = (L : Int)) → L ≤ m → ∀ code w, (Instr.sliceBound (a.eval y) m code).run P w = .ok L w := fun y L m ⟨K, A, h1, h2⟩ hL code w => run_bound ha h1 h2 hL w
  have hb : (Instr.sliceBounds true m c (lo.map a.eval) (hi.map a.eval) (mx.map a.eval)).run P w = .ok (L, H, M) w := by
    rcases mx with _ | ym <;> rcases hi with _ | yh <;> rcases lo with _ | yl
    all_goals simp only [bndOk] at hlo hhi hmx
    · subst hlo hhi hmx; simp [Instr.sliceBounds]
    · subst hhi hmx; simp [Instr.sliceBounds, B _ _ _ hlo hLH]
    · subst hlo hmx; simp [Instr.sliceBounds, B _ _ _ hhi hHM]
    · subst hmx; simp [Instr.sliceBounds, B _ _ _ hhi hHM, B _ _ _ hlo hLH]
    · simp at hmh
    · simp at hmh
    · subst hlo; simp [Instr.sliceBounds, B _ _ _ hmx hMc, B _ _ _ hhi hHM]
    · simp [Instr.sliceBounds, B _ _ _ hmx hMc, B _ _ _ hhi hHM, B _ _ _ hlo hLH]
  simp [execOp, Instr.sliceAt, Instr.slice, ha.eval hx, run_underlying hu, hb, hsz, cutP]
theorem GL.slice {t e : TypeId} {i ie : Ti} {x : Operand} {lo hi mx : Option Operand} {p : Option Addr} {m c : Nat} (L H M sz : Nat) (hT : Tys P tt) (hw : want ops f g = some true) (hlt : Nat.blt d n.size = true) (hi' : TT.get tt t = some i) (hdesc : i.desc = .slice e) (hie : TT.get tt e = some ie) (hs : ie.size = sz)
    (hx : ev f x = some (.slice p m c)) (hlo : bndOk f 0 lo L) (hhi : bndOk f m hi H) (hmx : bndOk f c mx M) (hmh : mx.isSome = true → hi.isSome = true) (hLH : L ≤ H) (hHM : H ≤ M) (hMc : M ≤ c)
    (h : GL P n Q ops rest ((d, .slice (cutP p L M sz) (H - L) (M - L)) :: f) w) : GL P n Q ops (⟨some d, .slice t x lo hi mx, ty, pos, aft, g⟩ :: rest) f w :=
  GL.yields hw rfl hlt (run_slice hT hi' hdesc hie hs hx hlo hhi hmx hmh hLH hHM hMc w) h
theorem GQ.slice {t e : TypeId} {i ie : Ti} {x : Operand} {lo hi mx : Option Operand} {p : Option Addr} {m c : Nat} (L H M sz : Nat) (hT : Tys P tt) (hw : want ops f g = some true) (hlt : Nat.blt d n.size = true) (hi' : TT.get tt t = some i) (hdesc : i.desc = .slice e) (hie : TT.get tt e = some ie) (hs : ie.size = sz)
    (hx : ev f x = some (.slice p m c)) (hlo : bndOk f 0 lo L) (hhi : bndOk f m hi H) (hmx : bndOk f c mx M) (hmh : mx.isSome = true → hi.isSome = true) (hLH : L ≤ H) (hHM : H ≤ M) (hMc : M ≤ c)
    (h : GQ P n Q ops rest ((d, .slice (cutP p L M sz) (H - L) (M - L)) :: f) w) : GQ P n Q ops (⟨some d, .slice t x lo hi mx, ty, pos, aft, g⟩ :: rest) f w :=
  GQ.yields hw rfl hlt (fun w _ => run_slice hT hi' hdesc hie hs hx hlo hhi hmx hmh hLH hHM hMc w) h
/-- An array's whole, by its address. -/
theorem run_sliceArr {t e : TypeId} {i ie : Ti} {x : Operand} {b o m : Nat} (hT : Tys P tt) (hi' : TT.get tt t = some i) (hdesc : i.desc = .arr m e) (hie : TT.get tt e = some ie) (hx : ev f x = some (ptr b o)) (w : World) :
    ∀ a, St n f a → (execOp a.eval ⟨some d, .slice t x none none none, ty, pos, aft, g⟩).run P w = .ok (.value (.slice (some ⟨b, o, none⟩) m m)) w := by
  intro a ha
  have hu : P.underlying t = some (.array m e) := by have := (hT.ok t i hi').desc; rw [hdesc] at this; exact this
  have hsz := fun w => (hT.ok e ie hie).run_sizeOf w
  have h0 : ∀ s, (⟨b, o, none⟩ : Addr).add (0 * s) = ⟨b, o, none⟩ := fun s => by rw [add_addr]; simp
  simp [execOp, Instr.sliceAt, Instr.sliceBounds, ha.eval hx, Instr.sureAddr, run_underlying hu, hsz, h0]
  intro _
  simpa using h0 0
theorem GL.sliceArr {t e : TypeId} {i ie : Ti} {x : Operand} {b o m : Nat} (hT : Tys P tt) (hw : want ops f g = some true) (hlt : Nat.blt d n.size = true) (hi' : TT.get tt t = some i) (hdesc : i.desc = .arr m e) (hie : TT.get tt e = some ie) (hx : ev f x = some (ptr b o))
    (h : GL P n Q ops rest ((d, .slice (some ⟨b, o, none⟩) m m) :: f) w) : GL P n Q ops (⟨some d, .slice t x none none none, ty, pos, aft, g⟩ :: rest) f w :=
  GL.yields hw rfl hlt (run_sliceArr hT hi' hdesc hie hx w) h
theorem GQ.sliceArr {t e : TypeId} {i ie : Ti} {x : Operand} {b o m : Nat} (hT : Tys P tt) (hw : want ops f g = some true) (hlt : Nat.blt d n.size = true) (hi' : TT.get tt t = some i) (hdesc : i.desc = .arr m e) (hie : TT.get tt e = some ie) (hx : ev f x = some (ptr b o))
    (h : GQ P n Q ops rest ((d, .slice (some ⟨b, o, none⟩) m m) :: f) w) : GQ P n Q ops (⟨some d, .slice t x none none none, ty, pos, aft, g⟩ :: rest) f w :=
  GQ.yields hw rfl hlt (fun w _ => run_sliceArr hT hi' hdesc hie hx w) h

/-! min -/
theorem run_minop {x y : Operand} {tys : Array TypeId} {A B : Int} (hx : ev f x = some (iv A)) (hy : ev f y = some (iv B)) (w : World) :
    ∀ a, St n f a → (execOp a.eval ⟨some d, .call { callee := .builtin .min, args := #[x, y], argTypes := tys }, ty, pos, aft, g⟩).run P w = .ok (.value (iv (if B < A then B else A))) w := by
  intro a ha
  have := run_min_int2 (P := P) (w := w) tys ty .i64 .i64 A B
  simp [execOp, resolve, ha.eval hx, ha.eval hy, invoke, builtin, this]
theorem GL.min {x y : Operand} {tys : Array TypeId} {A B : Int} (hw : want ops f g = some true) (hlt : Nat.blt d n.size = true) (hx : ev f x = some (iv A)) (hy : ev f y = some (iv B))
    (h : GL P n Q ops rest ((d, iv (if B < A then B else A)) :: f) w) : GL P n Q ops (⟨some d, .call { callee := .builtin .min, args := #[x, y], argTypes := tys }, ty, pos, aft, g⟩ :: rest) f w :=
  GL.yields hw rfl hlt (run_minop hx hy w) h
theorem run_capop {x : Operand} {t e : TypeId} {i : Ti} {p : Option Addr} {m c : Nat} (hT : Tys P tt) (hi' : TT.get tt t = some i) (hdesc : i.desc = .slice e) (hx : ev f x = some (.slice p m c)) (w : World) :
    ∀ a, St n f a → (execOp a.eval ⟨some d, .call { callee := .builtin .cap, args := #[x], argTypes := #[t] }, ty, pos, aft, g⟩).run P w = .ok (.value (iv c)) w := by
  intro a ha
  have hu : P.underlying t = some (.slice e) := by have := (hT.ok t i hi').desc; rw [hdesc] at this; exact this
  simp [execOp, resolve, ha.eval hx, invoke, builtin, Builtin.cap_, run_underlying hu, goInt]
theorem GL.cap {x : Operand} {t e : TypeId} {i : Ti} {p : Option Addr} {m c : Nat} (hT : Tys P tt) (hw : want ops f g = some true) (hlt : Nat.blt d n.size = true) (hi' : TT.get tt t = some i) (hdesc : i.desc = .slice e) (hx : ev f x = some (.slice p m c))
    (h : GL P n Q ops rest ((d, iv c) :: f) w) : GL P n Q ops (⟨some d, .call { callee := .builtin .cap, args := #[x], argTypes := #[t] }, ty, pos, aft, g⟩ :: rest) f w :=
  GL.yields hw rfl hlt (run_capop hT hi' hdesc hx w) h

/-! an element of an array's value; of a string -/
theorem run_indexV {t e : TypeId} {i ie : Ti} {x y : Operand} {m j : Nat} {K : IntKind} {A : Int} {cs : List Value} {v : Value} (hT : Tys P tt) (hi' : TT.get tt t = some i) (hdesc : i.desc = .arr m e) (hie : TT.get tt e = some ie) (hse : ie.size = 1) (hag : ie.desc.agg = false)
    (hx : ev f x = some (.agg cs.toArray)) (hy : ev f y = some (.int K A)) (hA : A = (j : Int)) (hj : j < m) (hv : cs[j]? = some v) (w : World) :
    ∀ a, St n f a → (execOp a.eval ⟨some d, .index t x y, ty, pos, aft, g⟩).run P w = .ok (.value v) w := by
  intro a ha
  have hu : P.underlying t = some (.array m e) := by have := (hT.ok t i hi').desc; rw [hdesc] at this; exact this
  have hsz := fun w => (hT.ok e ie hie).run_sizeOf w
  have hg := fun w => (hT.ok e ie hie).run_isAgg w
  rw [hse] at hsz
  rw [hag] at hg
  simp [execOp, Instr.index, ha.eval hx, ha.eval hy, asIntOf, run_underlying hu, hA, hj, hsz, part, hg, hv]
theorem GL.indexV {t e : TypeId} {i ie : Ti} {x y : Operand} {m : Nat} (j : Nat) {K : IntKind} {A : Int} {cs : List Value} {v : Value} (hT : Tys P tt) (hw : want ops f g = some true) (hlt : Nat.blt d n.size = true) (hi' : TT.get tt t = some i) (hdesc : i.desc = .arr m e) (hie : TT.get tt e = some ie) (hse : ie.size = 1) (hag : ie.desc.agg = false)
    (hx : ev f x = some (.agg cs.toArray)) (hy : ev f y = some (.int K A)) (hA : A = (j : Int)) (hj : j < m) (hv : cs[j]? = some v)
    (h : GL P n Q ops rest ((d, v) :: f) w) : GL P n Q ops (⟨some d, .index t x y, ty, pos, aft, g⟩ :: rest) f w :=
  GL.yields hw rfl hlt (run_indexV hT hi' hdesc hie hse hag hx hy hA hj hv w) h
theorem GQ.indexV {t e : TypeId} {i ie : Ti} {x y : Operand} {m : Nat} (j : Nat) {K : IntKind} {A : Int} {cs : List Value} {v : Value} (hT : Tys P tt) (hw : want ops f g = some true) (hlt : Nat.blt d n.size = true) (hi' : TT.get tt t = some i) (hdesc : i.desc = .arr m e) (hie : TT.get tt e = some ie) (hse : ie.size = 1) (hag : ie.desc.agg = false)
    (hx : ev f x = some (.agg cs.toArray)) (hy : ev f y = some (.int K A)) (hA : A = (j : Int)) (hj : j < m) (hv : cs[j]? = some v)
    (h : GQ P n Q ops rest ((d, v) :: f) w) : GQ P n Q ops (⟨some d, .index t x y, ty, pos, aft, g⟩ :: rest) f w :=
  GQ.yields hw rfl hlt (fun w _ => run_indexV hT hi' hdesc hie hse hag hx hy hA hj hv w) h
theorem run_indexS {t : TypeId} {x y : Operand} {j : Nat} {K : IntKind} {A : Int} {s : ByteArray} {b : UInt8} (hu : P.underlying t = some .string)
    (hx : ev f x = some (.string s)) (hy : ev f y = some (.int K A)) (hA : A = (j : Int)) (hb : s[j]? = some b) (w : World) :
    ∀ a, St n f a → (execOp a.eval ⟨some d, .index t x y, ty, pos, aft, g⟩).run P w = .ok (.value (bv b)) w := by
  intro a ha
  simp [execOp, Instr.index, ha.eval hx, ha.eval hy, asIntOf, run_underlying hu, hA, hb]
theorem GL.indexS {t : TypeId} {x y : Operand} (j : Nat) {K : IntKind} {A : Int} {s : ByteArray} {b : UInt8} (hu : P.underlying t = some .string) (hw : want ops f g = some true) (hlt : Nat.blt d n.size = true)
    (hx : ev f x = some (.string s)) (hy : ev f y = some (.int K A)) (hA : A = (j : Int)) (hb : s[j]? = some b)
    (h : GL P n Q ops rest ((d, bv b) :: f) w) : GL P n Q ops (⟨some d, .index t x y, ty, pos, aft, g⟩ :: rest) f w :=
  GL.yields hw rfl hlt (run_indexS hu hx hy hA hb w) h

/-! making -/
theorem GL.makeSlice {t e : TypeId} {i ie : Ti} {x y : Operand} {k c : Nat} {A B : Int} (hT : Tys P tt) (hw : want ops f g = some true) (hlt : Nat.blt d n.size = true) (hi' : TT.get tt t = some i) (hdesc : i.desc = .slice e) (hie : TT.get tt e = some ie)
    (hx : ev f x = some (iv A)) (hy : ev f y = some (iv B)) (hA : A = (k : Int)) (hB : B = (c : Int)) (hkc : k ≤ c) (hby : ie.bytes * c ≤ 281474976710656) (hc : c ≤ 281474976710656)
    (h : ∀ b w', b = w.heap.size → Blk w' b e (madeCells ie.zero.toArray (c * ie.size)).toList → Ext w w' → GL P n Q ops rest ((d, .slice (some ⟨b, 0, none⟩) k c) :: f) w') : GL P n Q ops (⟨some d, .makeSlice t x y, ty, pos, aft, g⟩ :: rest) f w := by
  have hu : P.underlying t = some (.slice e) := by have := (hT.ok t i hi').desc; rw [hdesc] at this; exact this
  obtain ⟨ix, z, hix, hz, hzc, hxs, hxb⟩ := (hT.ok e ie hie).more
  have hbb : (ix.bytes : Int) * (c : Int) ≤ 281474976710656 := by
    rw [hxb]
    have : ((ie.bytes * c : Nat) : Int) ≤ 281474976710656 := by omega
    rwa [Int.natCast_mul] at this
  have hm := run_make (P := P) w t e ix z hu hix hz .i64 .i64 k c (by omega) (by omega) hbb (by omega)
  simp only [Int.toNat_natCast, hzc, hxs] at hm
  refine GL.yields (w' := w.alloc (.cells (madeCells ie.zero.toArray (c * ie.size)) e)) hw rfl hlt (fun a ha => ?_) (h w.heap.size _ rfl ?_ (ext_alloc w _))
  · simp [execOp, ha.eval hx, ha.eval hy, hA, hB, hm]
  · have := blk_alloc w (madeCells ie.zero.toArray (c * ie.size)).toList e
    simpa using this

/-! building -/
def fillL (place : Nat → Option (Nat × Nat)) (cells : List Value) : List (Nat × Value) → Option (List Value)
  | [] => some cells
  | (i, v) :: rest => match place i with
    | none => none
    | some (off, size) => if v.cells.size ≠ size ∨ cells.length < off + v.cells.size then none else fillL place (splice cells off v.cells.toList) rest
theorem foldl_set (vs : List Value) : ∀ (k off : Nat) (c : Array Value), off + k + vs.length ≤ c.size → (vs.zipIdx k).foldl (fun cs (p : Value × Nat) => cs.setIfInBounds (off + p.2) p.1) c = (splice c.toList (off + k) vs).toArray := by
  induction vs with
  | nil => intro k off c h; simp [splice_nil]
  | cons v vs ih =>
    intro k off c h
    simp only [List.length_cons] at h
    simp only [List.zipIdx_cons, List.foldl_cons]
    rw [ih (k + 1) off _ (by simp; omega)]
    congr 1
    rw [Array.toList_setIfInBounds, show off + (k + 1) = off + k + 1 by omega, splice_cons _ _ _ _ (by simp; omega)]
theorem fill_eq (place : Nat → Option (Nat × Nat)) : ∀ (parts : List (Nat × Value)) (cells r : List Value), fillL place cells parts = some r → Instr.fill place cells.toArray parts = some r.toArray
  | [], cells, r, h => by simp [fillL] at h; simp [Instr.fill, h]
  | (i, v) :: rest, cells, r, h => by
    simp only [fillL] at h
    cases hp : place i with
    | none => simp [hp] at h
    | some os =>
      obtain ⟨off, size⟩ := os
      simp only [hp] at h
      split at h
      · cases h
      · rename_i hc
        have hc1 : v.cells.size = size := by
          rcases Nat.decEq v.cells.size size with h1 | h1
          · exact absurd (.inl h1) hc
          · exact h1
        have hc2 : ¬ cells.length < off + v.cells.size := fun h1 => hc (.inr h1)
        have ih := fill_eq place rest _ r h
        simp only [Instr.fill, hp]
        rw [if_neg (by simp [hc1]; omega)]
        have hz : v.cells.zipIdx.foldl (fun cs (x : Value × Nat) => cs.setIfInBounds (off + x.2) x.1) cells.toArray = (splice cells off v.cells.toList).toArray := by
          rw [← Array.foldl_toList, Array.toList_zipIdx]
          have := foldl_set v.cells.toList 0 off cells.toArray (by simp; omega)
          simpa using this
        exact (congrArg (fun z => Instr.fill place z rest) hz).trans ih
theorem fillL_one {sz : Nat} {z : List Value} {v : Value} {vs : List Value} (hv : v.cells = vs.toArray) (hl : vs.length = sz) (hz : z.length = sz) : fillL (fun k => some (k * sz, sz)) z [(0, v)] = some vs := by
  have h1 : v.cells.size = sz := by rw [hv]; simpa using hl
  simp only [fillL, Nat.zero_mul, Nat.zero_add]
  rw [if_neg (by rw [h1, hz]; simp)]
  congr 1
  simp [splice, hv, hl, ← hz]
theorem fillL_two {sz : Nat} {z : List Value} {v u : Value} {vs us : List Value} (hv : v.cells = vs.toArray) (hl : vs.length = sz) (hu : u.cells = us.toArray) (hl' : us.length = sz) (hz : z.length = 2 * sz) : fillL (fun k => some (k * sz, sz)) z [(0, v), (1, u)] = some (vs ++ us) := by
  have h1 : v.cells.size = sz := by rw [hv]; simpa using hl
  have h2 : u.cells.size = sz := by rw [hu]; simpa using hl'
  simp only [fillL, Nat.zero_mul, Nat.zero_add, Nat.one_mul]
  have e1 : splice z 0 v.cells.toList = vs ++ z.drop sz := by simp [splice, hv, hl]
  rw [if_neg (by rw [h1, hz]; simp; omega), e1, if_neg (by rw [h2]; simp [hl, hz]; omega)]
  congr 1
  simp [splice, hu, hl', ← hl]
  omega
theorem madeLen (z : Array Value) (n : Nat) : (madeCells z n).toList.length = n := by simp [madeCells]
def partsOf (f : Fr) : List (Nat × Operand) → Option (List (Nat × Value))
  | [] => some []
  | (i, x) :: r => match ev f x, partsOf f r with
    | some v, some vs => some ((i, v) :: vs)
    | _, _ => none
theorem parts_map {a : Act} (ha : St n f a) : ∀ (xs : List (Nat × Operand)) (vs : List (Nat × Value)), partsOf f xs = some vs → xs.map (fun x => (x.1, a.eval x.2)) = vs
  | [], vs, h => by simpa [partsOf] using h
  | (i, x) :: xs, vs, h => by
    simp only [partsOf] at h
    split at h
    · rename_i v us hx hxs
      simp only [Option.some.injEq] at h
      subst h
      rw [List.map_cons, ha.eval hx, parts_map ha xs us hxs]
    · cases h
def sizesL (tt : List (Nat × Ti)) : List (TypeId × Nat) → Option (List (Nat × Nat))
  | [] => some []
  | (t, o) :: r => match TT.get tt t, sizesL tt r with
    | some i, some q => some ((o, i.size) :: q)
    | _, _ => none
theorem run_places (hT : Tys P tt) (w : World) : ∀ (gs : List Field) (q : List (Nat × Nat)), sizesL tt (gs.map fun g => (g.type, g.offset)) = some q → (gs.mapM (fun g => do pure (g.offset, ← sizeOf g.type) : Field → Sem (Nat × Nat))).run P w = .ok q w
  | [], q, h => by simp [sizesL] at h; subst h; simp
  | g :: gs, q, h => by
    simp only [List.map_cons, sizesL] at h
    split at h
    · rename_i i q' hi hq
      simp only [Option.some.injEq] at h
      subst h
      have ih := run_places hT w gs q' hq
      have hs := (hT.ok _ i hi).run_sizeOf w
      simp only [List.mapM_cons, Sem.run_bind, hs, Result.andThen_ok, Sem.run_pure, ih]
    · cases h
theorem run_build {t : TypeId} {i : Ti} {fs : List (TypeId × Nat)} {q : List (Nat × Nat)} {parts : Array (Nat × Operand)} {vs : List (Nat × Value)} {r : List Value} (hT : Tys P tt) (hi' : TT.get tt t = some i) (hdesc : i.desc = .struct fs) (hq : sizesL tt fs = some q) (hp : partsOf f parts.toList = some vs) (hfill : fillL (q[·]?) i.zero vs = some r) (w : World) :
    ∀ a, St n f a → (execOp a.eval ⟨some d, .build t parts, ty, pos, aft, g⟩).run P w = .ok (.value (.agg r.toArray)) w := by
  intro a ha
  have := (hT.ok t i hi').desc
  rw [hdesc] at this
  obtain ⟨gs, hu, hgs⟩ := this
  obtain ⟨z, hz, hzc⟩ := (hT.ok t i hi').run_zero w
  rw [← hgs] at hq
  have hpl := run_places hT w gs.toList q hq
  have hpm : (parts.map fun (x : Nat × Operand) => (x.1, a.eval x.2)) = vs.toArray := by
    apply Array.ext'
    rw [Array.toList_map]
    exact parts_map ha _ _ hp
  have hf := fill_eq (q[·]?) vs i.zero r hfill
  have hmapM : (gs.mapM (fun g => do pure (g.offset, ← sizeOf g.type) : Field → Sem (Nat × Nat))).run P w = .ok q.toArray w := by
    rw [Array.mapM_eq_mapM_toList]
    show Sem.run P ((gs.toList.mapM (fun g => do pure (g.offset, ← sizeOf g.type) : Field → Sem (Nat × Nat))) >>= fun l => pure l.toArray) w = _
    simp only [Sem.run_bind, hpl, Result.andThen_ok, Sem.run_pure]
  have hb : (Instr.build t vs.toArray).run P w = .ok (.agg r.toArray) w := by
    have hf' : Instr.fill (q.toArray[·]?) i.zero.toArray vs = some r.toArray := by
      rw [← hf]
      congr 1
      funext k
      simp
    simp only [Instr.build, Sem.run_bind, hz, Result.andThen_ok, run_underlying hu, hmapM, hzc, hf']
    rfl
  have : (execOp a.eval ⟨some d, .build t parts, ty, pos, aft, g⟩) = (do let v ← Instr.build t (parts.map fun (x : Nat × Operand) => (x.1, a.eval x.2)); pure (Next.value v) : Sem Next) := rfl
  rw [this, hpm]
  simp [hb]
theorem GL.build {t : TypeId} {i : Ti} {fs : List (TypeId × Nat)} {q : List (Nat × Nat)} {parts : Array (Nat × Operand)} {vs : List (Nat × Value)} (r : List Value) (hT : Tys P tt) (hw : want ops f g = some true) (hlt : Nat.blt d n.size = true) (hi' : TT.get tt t = some i) (hdesc : i.desc = .struct fs) (hq : sizesL tt fs = some q) (hp : partsOf f parts.toList = some vs) (hfill : fillL (q[·]?) i.zero vs = some r)
    (h : GL P n Q ops rest ((d, .agg r.toArray) :: f) w) : GL P n Q ops (⟨some d, .build t parts, ty, pos, aft, g⟩ :: rest) f w :=
  GL.yields hw rfl hlt (run_build hT hi' hdesc hq hp hfill w) h
theorem GQ.build {t : TypeId} {i : Ti} {fs : List (TypeId × Nat)} {q : List (Nat × Nat)} {parts : Array (Nat × Operand)} {vs : List (Nat × Value)} (r : List Value) (hT : Tys P tt) (hw : want ops f g = some true) (hlt : Nat.blt d n.size = true) (hi' : TT.get tt t = some i) (hdesc : i.desc = .struct fs) (hq : sizesL tt fs = some q) (hp : partsOf f parts.toList = some vs) (hfill : fillL (q[·]?) i.zero vs = some r)
    (h : GQ P n Q ops rest ((d, .agg r.toArray) :: f) w) : GQ P n Q ops (⟨some d, .build t parts, ty, pos, aft, g⟩ :: rest) f w :=
  GQ.yields hw rfl hlt (fun w _ => run_build hT hi' hdesc hq hp hfill w) h
theorem run_buildArr {t e : TypeId} {i ie : Ti} {m : Nat} {parts : Array (Nat × Operand)} {vs : List (Nat × Value)} {r : List Value} (hT : Tys P tt) (hi' : TT.get tt t = some i) (hdesc : i.desc = .arr m e) (hie : TT.get tt e = some ie) (hp : partsOf f parts.toList = some vs) (hfill : fillL (fun k => some (k * ie.size, ie.size)) i.zero vs = some r) (w : World) :
    ∀ a, St n f a → (execOp a.eval ⟨some d, .build t parts, ty, pos, aft, g⟩).run P w = .ok (.value (.agg r.toArray)) w := by
  intro a ha
  have hu : P.underlying t = some (.array m e) := by have := (hT.ok t i hi').desc; rw [hdesc] at this; exact this
  obtain ⟨z, hz, hzc⟩ := (hT.ok t i hi').run_zero w
  have hsz := (hT.ok e ie hie).run_sizeOf w
  have hpm : (parts.map fun (x : Nat × Operand) => (x.1, a.eval x.2)) = vs.toArray := by
    apply Array.ext'
    rw [Array.toList_map]
    exact parts_map ha _ _ hp
  have hf := fill_eq _ vs i.zero r hfill
  have hb : (Instr.build t vs.toArray).run P w = .ok (.agg r.toArray) w := by
    simp only [Instr.build, Sem.run_bind, hz, Result.andThen_ok, run_underlying hu, hsz, hzc, hf]
    rfl
  have : (execOp a.eval ⟨some d, .build t parts, ty, pos, aft, g⟩) = (do let v ← Instr.build t (parts.map fun (x : Nat × Operand) => (x.1, a.eval x.2)); pure (Next.value v) : Sem Next) := rfl
  rw [this, hpm]
  simp [hb]
theorem GL.buildArr {t e : TypeId} {i ie : Ti} {m : Nat} {parts : Array (Nat × Operand)} {vs : List (Nat × Value)} (r : List Value) (hT : Tys P tt) (hw : want ops f g = some true) (hlt : Nat.blt d n.size = true) (hi' : TT.get tt t = some i) (hdesc : i.desc = .arr m e) (hie : TT.get tt e = some ie) (hp : partsOf f parts.toList = some vs) (hfill : fillL (fun k => some (k * ie.size, ie.size)) i.zero vs = some r)
    (h : GL P n Q ops rest ((d, .agg r.toArray) :: f) w) : GL P n Q ops (⟨some d, .build t parts, ty, pos, aft, g⟩ :: rest) f w :=
  GL.yields hw rfl hlt (run_buildArr hT hi' hdesc hie hp hfill w) h
theorem GQ.buildArr {t e : TypeId} {i ie : Ti} {m : Nat} {parts : Array (Nat × Operand)} {vs : List (Nat × Value)} (r : List Value) (hT : Tys P tt) (hw : want ops f g = some true) (hlt : Nat.blt d n.size = true) (hi' : TT.get tt t = some i) (hdesc : i.desc = .arr m e) (hie : TT.get tt e = some ie) (hp : partsOf f parts.toList = some vs) (hfill : fillL (fun k => some (k * ie.size, ie.size)) i.zero vs = some r)
    (h : GQ P n Q ops rest ((d, .agg r.toArray) :: f) w) : GQ P n Q ops (⟨some d, .build t parts, ty, pos, aft, g⟩ :: rest) f w :=
  GQ.yields hw rfl hlt (fun w _ => run_buildArr hT hi' hdesc hie hp hfill w) h
/-- A slice of so many elements, in new memory. -/
theorem GL.buildSlice {t e : TypeId} {i ie : Ti} {m : Nat} {parts : Array (Nat × Operand)} {vs : List (Nat × Value)} (r : List Value) (hT : Tys P tt) (hw : want ops f g = some true) (hlt : Nat.blt d n.size = true) (hi' : TT.get tt t = some i) (hdesc : i.desc = .slice e) (hie : TT.get tt e = some ie) (hbig : Nat.ble (m * ie.size) 16777216 = true) (hp : partsOf f parts.toList = some vs) (hfill : fillL (fun k => some (k * ie.size, ie.size)) (madeCells ie.zero.toArray (m * ie.size)).toList vs = some r)
    (h : ∀ b w', b = w.heap.size → Blk w' b e r → Ext w w' → GL P n Q ops rest ((d, .slice (some ⟨b, 0, none⟩) m m) :: f) w') : GL P n Q ops (⟨some d, .buildSlice t m parts, ty, pos, aft, g⟩ :: rest) f w := by
  have hu : P.underlying t = some (.slice e) := by have := (hT.ok t i hi').desc; rw [hdesc] at this; exact this
  obtain ⟨z, hz, hzc⟩ := (hT.ok e ie hie).run_zero w
  have hsz := (hT.ok e ie hie).run_sizeOf w
  have hf := fill_eq _ vs _ r hfill
  refine GL.yields (w' := w.alloc (.cells r.toArray e)) (v := .slice (some ⟨w.heap.size, 0, none⟩) m m) hw rfl hlt (fun a ha => ?_) (h w.heap.size _ rfl (blk_alloc w r e) (ext_alloc w _))
  have hpm : (parts.map fun (x : Nat × Operand) => (x.1, a.eval x.2)) = vs.toArray := by
    apply Array.ext'
    rw [Array.toList_map]
    exact parts_map ha _ _ hp
  have hbig' : ¬ (m * ie.size > 2 ^ 24) := by have := Nat.le_of_ble_eq_true hbig; omega
  have hb : (Instr.buildSlice t m vs.toArray).run P w = .ok (.slice (some ⟨w.heap.size, 0, none⟩) m m) (w.alloc (.cells r.toArray e)) := by
    by_cases h0 : m * ie.size = 0
    · have hf' : Instr.fill (fun k => some (k * ie.size, ie.size)) #[] vs = some r.toArray := by
        rw [← hf, h0]; simp [madeCells]
      simp only [Instr.buildSlice, Sem.run_bind, Result.andThen_ok, run_underlying hu, hsz, if_neg hbig', if_pos h0, Sem.run_pure]
      rw [h0]
      simp only [Array.range_zero', Array.map_empty]
      simp [hf', newRow]
    · simp only [Instr.buildSlice, Sem.run_bind, Result.andThen_ok, run_underlying hu, hsz, if_neg hbig', if_neg h0, hz, hzc, Sem.run_pure]
      have hf' : Instr.fill (fun k => some (k * ie.size, ie.size)) (madeCells ie.zero.toArray (m * ie.size)) vs = some r.toArray := by simpa using hf
      simp only [madeCells] at hf'
      rw [hf']
      simp [newRow]
  have : (execOp a.eval ⟨some d, .buildSlice t m parts, ty, pos, aft, g⟩) = (do let v ← Instr.buildSlice t m (parts.map fun (x : Nat × Operand) => (x.1, a.eval x.2)); Pure.pure (Next.value v) : Sem Next) := rfl
  rw [this, hpm]
  simp [hb]
end
end Go.Bd
