/-
  The operations that touch memory; calls.
-/
import Derived.Test.YtefneilaongpbaaOps2
import Derived.Maps.AppendAt
import Derived.Laws.AppendOwnNone
import Derived.Stop.BytesEq
set_option linter.unusedVariables false
set_option linter.unusedSimpArgs false
namespace Go.Bd
open Go.RowKit

/-- Block b alone may have turned. -/
structure Chg (b : Nat) (w w' : World) : Prop where
  os : w'.os = w.os
  tape : w'.tape = w.tape
  output : w'.output = w.output
  size : w'.heap.size = w.heap.size
  block : ∀ k, k ≠ b → w'.heap[k]? = w.heap[k]?
theorem chg_put (w : World) (b o : Nat) (vs : List Value) : Chg b w (World.put w b o vs) := ⟨rfl, rfl, rfl, size_put _ _ _ _, fun k hk => heap_put_other hk⟩
theorem Chg.below {B b : Nat} {w0 w w' : World} (h : Chg b w w') (hb : B ≤ b) (h0 : Below B w0 w) : Below B w0 w' :=
  h0.trans ⟨h.os, h.tape, h.output, by rw [h.size]; exact Nat.le_refl _, fun k hk => h.block k (by omega)⟩
theorem Blk.chg {b b' : Nat} {T : TypeId} {vs : List Value} {w w' : World} (h : Blk w b T vs) (hc : Chg b' w w') (hne : b ≠ b') : Blk w' b T vs := h.keep (hc.block b hne)
theorem At.chg {b b' o : Nat} {S : Nat → Nat × Nat → Prop} {vs : List Value} {w w' : World} (h : At S w b o vs) (hc : Chg b' w w') (hne : b ≠ b') : At S w' b o vs := h.keep (hc.block b hne)

/-- What the call itself lies in. -/
structure Enters (P : Program) (g : FuncId) (fn : Func) : Prop where
  func : P.funcs[g]? = some fn
  name : (fn.name == "runtime.NumGoroutine") = false
  body : fn.body.isSome = true
theorem run_callFunc {P : Program} {g : FuncId} {fn : Func} (h : Enters P g fn) (args : Array Value) (w : World) : (callFunc g args).run P w = .ok (.enter g args) w := by
  obtain ⟨hf, hn, hb⟩ := h
  have hb' : fn.body.isNone = false := by cases hbb : fn.body <;> simp_all
  simp only [callFunc, Sem.run_bind, run_program, Result.andThen_ok, hf]
  rw [if_neg (by rw [hn]; simp), if_neg (by rw [hb']; simp)]
  rfl
/-- The call of function g hands back what Φ says. -/
structure Does (P : Program) (g : FuncId) (args : Array Value) (w : World) (Φ : Value → World → Prop) : Prop where
  enters : ∃ fn, Enters P g fn
  calls : Calls P g args w (Ret Φ)
theorem Does.mono {P : Program} {g : FuncId} {args : Array Value} {w : World} {Φ Φ' : Value → World → Prop} (h : Does P g args w Φ) (hi : ∀ v w', Φ v w' → Φ' v w') : Does P g args w Φ' :=
  ⟨h.enters, h.calls.mono fun e w' ⟨v, hv, hΦ⟩ => ⟨v, hv, hi _ _ hΦ⟩⟩
theorem call_of_G {P : Program} {fn : Func} {g : FuncId} {c : Code} {args : Array Value} {w : World} {Φ : Value → World → Prop} {f : Fr} (hf : P.funcs[g]? = some fn) (hn : (fn.name == "runtime.NumGoroutine") = false) (hb : fn.body = some c)
    (hsz : Nat.ble args.size fn.ntmps = true) (hfr : ∀ t v, Fr.get f t = some v → args[t]? = some v)
    (h : G P fn (FnE P Φ) ⟨fn.ntmps, [], none⟩ [.code c] f w) : Does P g args w Φ :=
  ⟨⟨fn, hf, hn, by simp [hb]⟩, calls_of_G hf hb hsz hfr h⟩
/-- The frame at the beginning. -/
def argsFrom : Nat → List Value → Fr
  | _, [] => []
  | i, v :: vs => (i, v) :: argsFrom (i + 1) vs
theorem argsFrom_get : ∀ (vs : List Value) (i t : Nat) (v : Value), Fr.get (argsFrom i vs) t = some v → ∃ j, t = i + j ∧ vs[j]? = some v
  | [], i, t, v, h => by simp [argsFrom, Fr.get] at h
  | u :: us, i, t, v, h => by
    simp only [argsFrom, Fr.get] at h
    cases hb : Nat.beq i t with
    | true =>
      have := Nat.eq_of_beq_eq_true hb
      simp only [hb, Option.some.injEq] at h
      exact ⟨0, by omega, by simp [h]⟩
    | false =>
      simp only [hb] at h
      obtain ⟨j, hj, hv⟩ := argsFrom_get us (i + 1) t v h
      exact ⟨j + 1, by omega, by simpa using hv⟩
theorem argsFrom_ok (vs : List Value) : ∀ t v, Fr.get (argsFrom 0 vs) t = some v → vs.toArray[t]? = some v := fun t v h => by
  obtain ⟨j, hj, hv⟩ := argsFrom_get vs 0 t v h
  simp at hj
  subst hj
  simpa using hv
/-- The opening of a walk. -/
theorem call_walk {P : Program} {fn : Func} {g : FuncId} {c : Code} {vs : List Value} {w : World} {Φ : Value → World → Prop} (hf : P.funcs[g]? = some fn) (hn : (fn.name == "runtime.NumGoroutine") = false) (hb : fn.body = some c) {m : Nat} (hm : fn.ntmps = m)
    (hsz : Nat.ble vs.length m = true) (h : G P fn (FnE P Φ) ⟨m, [], none⟩ [.code c] (argsFrom 0 vs) w) : Does P g vs.toArray w Φ := by
  subst hm
  exact call_of_G hf hn hb (by simpa using hsz) (argsFrom_ok vs) h

section
variable {P : Program} {fn : Func} {Φ : Value → World → Prop} {n : Sz} {Q : Act → World → Prop} {k : List Item} {f : Fr} {w : World} {ops : Array Oper} {rest : List Oper} {tt : List (Nat × Ti)}
variable {d : Nat} {ty : TypeId} {pos : String} {aft : Array Edge} {g : Option (Nat × Bool)}

/-! returns -/
theorem G.ret0 (hD : n.D = []) (hro : n.ro = none) (hr : fn.results = #[]) (h : Φ (.tuple #[]) w) : G P fn (FnE P Φ) n (.code .ret :: k) f w :=
  G.ret_of (v := .tuple #[]) hD hro (fun a ha => by simp [results, hr]) h
theorem G.end0 (hD : n.D = []) (hro : n.ro = none) (hr : fn.results = #[]) (h : Φ (.tuple #[]) w) : G P fn (FnE P Φ) n [] f w :=
  G.end_of (v := .tuple #[]) hD hro (fun a ha => by simp [results, hr]) h
theorem G.ret1 {t : Tmp} {v : Value} (hD : n.D = []) (hro : n.ro = none) (hr : fn.results = #[.tmp t]) (hv : Fr.get f t = some v) (h : Φ v w) : G P fn (FnE P Φ) n (.code .ret :: k) f w :=
  G.ret_of (v := v) hD hro (fun a ha => by simp [results, hr, ha.at_ t v hv]) h
theorem G.ret2 {t t' : Tmp} {v v' : Value} (hD : n.D = []) (hro : n.ro = none) (hr : fn.results = #[.tmp t, .tmp t']) (hv : Fr.get f t = some v) (hv' : Fr.get f t' = some v') (h : Φ (.tuple #[v, v']) w) : G P fn (FnE P Φ) n (.code .ret :: k) f w :=
  G.ret_of (v := .tuple #[v, v']) hD hro (fun a ha => by simp [results, hr, ha.at_ t v hv, ha.at_ t' v' hv']) h
theorem G.ret3 {t t' t'' : Tmp} {v v' v'' : Value} (hD : n.D = []) (hro : n.ro = none) (hr : fn.results = #[.tmp t, .tmp t', .tmp t'']) (hv : Fr.get f t = some v) (hv' : Fr.get f t' = some v') (hv'' : Fr.get f t'' = some v'') (h : Φ (.tuple #[v, v', v'']) w) : G P fn (FnE P Φ) n (.code .ret :: k) f w :=
  G.ret_of (v := .tuple #[v, v', v'']) hD hro (fun a ha => by simp [results, hr, ha.at_ t v hv, ha.at_ t' v' hv', ha.at_ t'' v'' hv'']) h

/-! loads -/
theorem run_load1 {t : TypeId} {i : Ti} {b o : Nat} {v : Value} (hT : Tys P tt) (hi : TT.get tt t = some i) (hg : i.desc.agg = false) (hc : w.cell? ⟨b, o, none⟩ = some v) : (loadVar t ⟨b, o, none⟩).run P w = .ok v w := by
  simp [loadVar, (hT.ok t i hi).run_isAgg, hg, hc]
theorem run_loadN {t : TypeId} {i : Ti} {S : Nat → Nat × Nat → Prop} {b o : Nat} {vs : List Value} (hT : Tys P tt) (hi : TT.get tt t = some i) (hg : i.desc.agg = true) (hA : At S w b o vs) (hl : vs.length = i.size) : (loadVar t ⟨b, o, none⟩).run P w = .ok (.agg vs.toArray) w := by
  have h := run_loadCells_list (P := P) w ⟨b, o, none⟩ vs (fun j v hj => by rw [add_addr]; exact hA.cell hj)
  simp [loadVar, (hT.ok t i hi).run_isAgg, hg, (hT.ok t i hi).run_sizeOf, ← hl, h]
theorem GL.load1 {t : TypeId} {x : Operand} {i : Ti} {S : Nat → Nat × Nat → Prop} {b o : Nat} {v : Value} {vs : List Value} (hT : Tys P tt) (hw : want ops f g = some true) (hlt : Nat.blt d n.size = true) (hi : TT.get tt t = some i) (hg : i.desc.agg = false)
    (hx : ev f x = some (ptr b o)) (hA : At S w b o (v :: vs)) (h : GL P n Q ops rest ((d, v) :: f) w) : GL P n Q ops (⟨some d, .load t x, ty, pos, aft, g⟩ :: rest) f w :=
  GL.yields hw rfl hlt (fun a ha => by
    have hc : w.cell? ⟨b, o, none⟩ = some v := by have := hA.cell (j := 0) (v := v) rfl; simpa using this
    simp [execOp, Instr.loadAt, ha.eval hx, Instr.sureAddr, run_load1 hT hi hg hc]) h
theorem GL.loadN {t : TypeId} {x : Operand} {i : Ti} {S : Nat → Nat × Nat → Prop} {b o : Nat} {vs : List Value} (hT : Tys P tt) (hw : want ops f g = some true) (hlt : Nat.blt d n.size = true) (hi : TT.get tt t = some i) (hg : i.desc.agg = true)
    (hx : ev f x = some (ptr b o)) (hA : At S w b o vs) (hl : vs.length = i.size) (h : GL P n Q ops rest ((d, .agg vs.toArray) :: f) w) : GL P n Q ops (⟨some d, .load t x, ty, pos, aft, g⟩ :: rest) f w :=
  GL.yields hw rfl hlt (fun a ha => by simp [execOp, Instr.loadAt, ha.eval hx, Instr.sureAddr, run_loadN hT hi hg hA hl]) h

/-! new variables -/
theorem GL.alloc {t : TypeId} {i : Ti} (hT : Tys P tt) (hw : want ops f g = some true) (hlt : Nat.blt d n.size = true) (hi : TT.get tt t = some i)
    (h : ∀ b w', b = w.heap.size → Blk w' b t i.zero → Ext w w' → GL P n Q ops rest ((d, ptr b 0) :: f) w') : GL P n Q ops (⟨some d, .alloc t, ty, pos, aft, g⟩ :: rest) f w := by
  obtain ⟨z, hz, hc⟩ := (hT.ok t i hi).run_zero w
  refine GL.yields (w' := w.alloc (.cells i.zero.toArray t)) hw rfl hlt (fun a ha => ?_) (h w.heap.size _ rfl (blk_alloc w i.zero t) (ext_alloc w _))
  simp [execOp, Instr.alloc, hz, newVar, newRow, hc]
theorem GL.box {t : TypeId} {x : Operand} {v : Value} {vs : List Value} (hw : want ops f g = some true) (hlt : Nat.blt d n.size = true) (hx : ev f x = some v) (hv : v.cells = vs.toArray)
    (h : ∀ b w', b = w.heap.size → Blk w' b t vs → Ext w w' → GL P n Q ops rest ((d, ptr b 0) :: f) w') : GL P n Q ops (⟨some d, .box t x, ty, pos, aft, g⟩ :: rest) f w := by
  refine GL.yields (w' := w.alloc (.cells vs.toArray t)) hw rfl hlt (fun a ha => ?_) (h w.heap.size _ rfl (blk_alloc w vs t) (ext_alloc w _))
  simp [execOp, Instr.box, ha.eval hx, newVar, newRow, hv]

/-! stores -/
theorem run_store {t : TypeId} {i : Ti} {b o : Nat} {T : TypeId} {v : Value} {c vs : List Value} (hT : Tys P tt) (hi : TT.get tt t = some i) (hv : v.cells = vs.toArray) (hl : vs.length = i.size) (h1 : ∀ u ∈ vs, u.oneCell' = true) (hB : Blk w b T c) (hle : o + vs.length ≤ c.length) :
    (storeVar t ⟨b, o, none⟩ v).run P w = .ok () (World.put w b o vs) := by
  have := run_storeCells (P := P) vs o 0 b c T (0, 0) w hB (by omega) h1 (fun j hj => by simp)
  simp only [Nat.add_zero] at this
  simp [storeVar, hv, (hT.ok t i hi).run_sizeOf, hl, this]
/-- Into a block of one's own, anywhere. -/
theorem GL.storeIn {t : TypeId} {x y : Operand} {i : Ti} {b o : Nat} {T : TypeId} {v : Value} {c vs : List Value} (hT : Tys P tt) (hw : want ops f g = some true) (hi : TT.get tt t = some i) (hx : ev f x = some (ptr b o)) (hy : ev f y = some v) (hv : v.cells = vs.toArray) (hl : vs.length = i.size) (h1 : ∀ u ∈ vs, u.oneCell' = true) (hB : Blk w b T c) (hle : o + vs.length ≤ c.length)
    (h : ∀ w', Chg b w w' → Blk w' b T (splice c o vs) → GL P n Q ops rest f w') : GL P n Q ops (⟨none, .store t x y, ty, pos, aft, g⟩ :: rest) f w :=
  GL.writes hw rfl (fun a ha => by simp [execOp, Instr.storeAt, ha.eval hx, ha.eval hy, Instr.sureAddr, run_store hT hi hv hl h1 hB hle]) (h _ (chg_put w b o vs) (blk_put hB))
/-- A variable, whole. -/
theorem GL.storeVar {t : TypeId} {x y : Operand} {i : Ti} {b : Nat} {T : TypeId} {v : Value} {c vs : List Value} (hT : Tys P tt) (hw : want ops f g = some true) (hi : TT.get tt t = some i) (hx : ev f x = some (ptr b 0)) (hy : ev f y = some v) (hv : v.cells = vs.toArray) (hl : vs.length = i.size) (h1 : ∀ u ∈ vs, u.oneCell' = true) (hB : Blk w b T c) (hle : c.length = vs.length)
    (h : ∀ w', Chg b w w' → Blk w' b T vs → GL P n Q ops rest f w') : GL P n Q ops (⟨none, .store t x y, ty, pos, aft, g⟩ :: rest) f w :=
  GL.storeIn hT hw hi hx hy hv hl h1 hB (by omega) fun w' hc hB' => h w' hc (by
    have : splice c 0 vs = vs := by simp [splice, ← hle]
    rwa [this] at hB')
/-- One cell. -/
theorem GL.store1 {t : TypeId} {x y : Operand} {i : Ti} {b o : Nat} {T : TypeId} {v : Value} {c : List Value} (hT : Tys P tt) (hw : want ops f g = some true) (hi : TT.get tt t = some i) (hs : i.size = 1) (hx : ev f x = some (ptr b o)) (hy : ev f y = some v) (hv : v.cells = #[v]) (h1 : v.oneCell' = true) (hB : Blk w b T c) (hle : o < c.length)
    (h : ∀ w', Chg b w w' → Blk w' b T (c.set o v) → GL P n Q ops rest f w') : GL P n Q ops (⟨none, .store t x y, ty, pos, aft, g⟩ :: rest) f w :=
  GL.storeIn (vs := [v]) hT hw hi hx hy hv (by simp [hs]) (by simpa using h1) hB (by simp; omega) fun w' hc hB' => h w' hc (by
    have : splice c o [v] = c.set o v := by simp [splice, List.set_eq_take_append_cons_drop, hle]
    rwa [this] at hB')

/-! calls -/
theorem GL.call {gf : FuncId} {args : Array Operand} {tys : Array TypeId} {vs : List Value} {Ψ : Value → World → Prop} (hw : want ops f g = some true) (hlt : Nat.blt d n.size = true) (hxs : evs f args.toList = some vs) (hc : Does P gf vs.toArray w Ψ)
    (h : ∀ v w', Ψ v w' → GL P n Q ops rest ((d, v) :: f) w') : GL P n Q ops (⟨some d, .call { callee := .value (.func gf), args := args, argTypes := tys }, ty, pos, aft, g⟩ :: rest) f w := by
  obtain ⟨⟨fn', hen⟩, hcalls⟩ := hc
  refine GL.enters hw rfl hlt (fun a ha => ?_) hcalls h
  have e1 : args.map a.eval = vs.toArray := by
    apply Array.ext'
    simp only [Array.toList_map]
    exact evs_map ha _ _ hxs
  simp [execOp, resolve, Act.eval, Deferred.ofValue, e1, invoke, run_callFunc hen]
theorem GL.call0 {gf : FuncId} {args : Array Operand} {tys : Array TypeId} {vs : List Value} {Ψ : Value → World → Prop} (hw : want ops f g = some true) (hxs : evs f args.toList = some vs) (hc : Does P gf vs.toArray w Ψ)
    (h : ∀ v w', Ψ v w' → GL P n Q ops rest f w') : GL P n Q ops (⟨none, .call { callee := .value (.func gf), args := args, argTypes := tys }, ty, pos, aft, g⟩ :: rest) f w := by
  obtain ⟨⟨fn', hen⟩, hcalls⟩ := hc
  refine GL.enters0 hw rfl (fun a ha => ?_) hcalls h
  have e1 : args.map a.eval = vs.toArray := by
    apply Array.ext'
    simp only [Array.toList_map]
    exact evs_map ha _ _ hxs
  simp [execOp, resolve, Act.eval, Deferred.ofValue, e1, invoke, run_callFunc hen]
/-- A call of a function value. -/
theorem GL.callv {x : Operand} {gf : FuncId} {first cap : List Value} {args : Array Operand} {tys : Array TypeId} {vs : List Value} {Ψ : Value → World → Prop} (hw : want ops f g = some true) (hlt : Nat.blt d n.size = true) (hx : ev f x = some (.func (.func gf) first.toArray cap.toArray)) (hxs : evs f args.toList = some vs) (hc : Does P gf (first ++ vs ++ cap).toArray w Ψ)
    (h : ∀ v w', Ψ v w' → GL P n Q ops rest ((d, v) :: f) w') : GL P n Q ops (⟨some d, .call { callee := .value x, args := args, argTypes := tys }, ty, pos, aft, g⟩ :: rest) f w := by
  obtain ⟨⟨fn', hen⟩, hcalls⟩ := hc
  refine GL.enters hw rfl hlt (fun a ha => ?_) hcalls h
  have e1 : args.map a.eval = vs.toArray := by
    apply Array.ext'
    simp only [Array.toList_map]
    exact evs_map ha _ _ hxs
  simp [execOp, resolve, ha.eval hx, Deferred.ofValue, e1, invoke, run_callFunc hen]

/-! '==' -/
theorem GL.eq_bytes {op : BinOp} {t t' e : TypeId} {x y : Operand} {m : Nat} {i ie : Ti} {xs ys : List UInt8} {c : Bool} (hT : Tys P tt) (hw : want ops f g = some true) (hlt : Nat.blt d n.size = true) (hi : TT.get tt t = some i) (hdesc : i.desc = .arr m e) (hie : TT.get tt e = some ie) (hde : ie.desc = .int .u8) (hse : ie.size = 1) (hng : P.eqGuardType P.depth t = false)
    (hx : ev f x = some (.agg (xs.map bv).toArray)) (hy : ev f y = some (.agg (ys.map bv).toArray)) (hlx : xs.length = m) (hly : ys.length = m) (hop : (op = .eql ∧ (c = true ↔ xs = ys)) ∨ (op = .neq ∧ (c = true ↔ xs ≠ ys)))
    (h : GL P n Q ops rest ((d, .bool c) :: f) w) : GL P n Q ops (⟨some d, .binOp op t x y t', ty, pos, aft, g⟩ :: rest) f w :=
  GL.yields hw rfl hlt (fun a ha => by
    have hu : P.underlying t = some (.array m e) := by have := (hT.ok t i hi).desc; rw [hdesc] at this; exact this
    have he : P.underlying e = some (.int .u8) := by have := (hT.ok e ie hie).desc; rw [hde] at this; exact this
    have hsz : ∀ w, (sizeOf e).run P w = .ok 1 w := fun w => by rw [(hT.ok e ie hie).run_sizeOf w, hse]
    have hb := run_equalIn_bytes (P := P) w 9998 t e m hu he hsz xs ys hlx hly
    have e0 : ∀ zs : List UInt8, zs.map Extern.Stop.cell = zs.map bv := fun zs => rfl
    rw [e0, e0] at hb
    rcases hop with ⟨rfl, hcc⟩ | ⟨rfl, hcc⟩
    · simp only [execOp, ha.eval hx, ha.eval hy, Sem.run_bind, run_eqGuard_agg (P := P) w .eql t x y _ _ hng, Result.andThen_ok, run_eql_struct, hb, Sem.run_pure]
      have : (xs == ys) = c := by rw [Bool.eq_iff_iff, hcc]; simp
      rw [this]
    · simp only [execOp, ha.eval hx, ha.eval hy, Sem.run_bind, run_eqGuard_agg (P := P) w .neq t x y _ _ hng, Result.andThen_ok, run_neq_struct, hb, Sem.run_pure]
      have : (!(xs == ys)) = c := by rw [Bool.eq_iff_iff, hcc]; simp
      rw [this]) h
end
end Go.Bd
