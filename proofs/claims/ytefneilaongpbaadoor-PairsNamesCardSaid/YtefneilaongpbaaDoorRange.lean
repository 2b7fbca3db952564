/-
  A RANGE OVER A FUNCTION in my calculus: the statement, a round, the call of yield, the return behind it.
-/
import Derived.Test.YtefneilaongpbaaDoorQuiet
set_option linter.unusedVariables false
set_option linter.unusedSimpArgs false
namespace Go.Bd
open Go.RowKit

/-- What the statement keeps of the frame in which it stands. -/
structure Lo (P : Program) (fn : Func) (n : Sz) (f : Fr) where
  a : Act
  ha : St n f a
  g : FuncId
  hg : P.funcs[g]? = some fn
  ps : Array Tmp
  assign : Code
  body : Code
  l : Nat
  r : Nat
section
variable {P : Program} {fn : Func} {n : Sz} {f : Fr}
def Lo.loop (L : Lo P fn n f) (st : LoopState) (p : Option Code) : Loop := { state := st, pending := p, fn := L.g, tmps := L.a.tmps, params := L.ps, assign := L.assign, body := L.body, defers := L.r }
def Lo.At (L : Lo P fn n f) (w : World) (st : LoopState) (p : Option Code) : Prop := w.heap[L.l]? = some (.loop (L.loop st p))
theorem Lo.At.keep {L : Lo P fn n f} {w w' : World} {st : LoopState} {p : Option Code} (h : L.At w st p) (hk : w'.heap[L.l]? = w.heap[L.l]?) : L.At w' st p := hk.trans h
theorem Lo.At.lt {L : Lo P fn n f} {w : World} {st : LoopState} {p : Option Code} (h : L.At w st p) : L.l < w.heap.size := (Array.getElem?_eq_some_iff.1 h).1
theorem Lo.At.ext {L : Lo P fn n f} {w w' : World} {st : LoopState} {p : Option Code} (h : L.At w st p) (he : Ext w w') : L.At w' st p := h.keep (he.block _ h.lt)
theorem Lo.At.chg {L : Lo P fn n f} {w w' : World} {st : LoopState} {p : Option Code} {b : Nat} (h : L.At w st p) (hc : Chg b w w') (hne : L.l ≠ b) : L.At w' st p := h.keep (hc.block _ hne)
def setO (w : World) (r : Nat) (o : Obj) : World := { w with heap := w.heap.setIfInBounds r o }
theorem chg_setO (w : World) (r : Nat) (o : Obj) : Chg r w (setO w r o) := ⟨rfl, rfl, rfl, by simp [setO], fun k hk => by simp [setO, Array.getElem?_setIfInBounds_ne (Ne.symm hk)]⟩
theorem setO_same {w : World} {r : Nat} (h : r < w.heap.size) (o : Obj) : (setO w r o).heap[r]? = some o := by simp [setO, h]
theorem Lo.At.run_get {L : Lo P fn n f} {w : World} {st : LoopState} {p : Option Code} (h : L.At w st p) : (Instr.getLoop L.l).run P w = .ok (L.loop st p) w := by
  have h' : w.heap[L.l]? = some (.loop (L.loop st p)) := h
  simp [Instr.getLoop, getObj, Sem.run, h']
theorem Lo.At.run_set {L : Lo P fn n f} {w : World} {st : LoopState} {p : Option Code} (h : L.At w st p) (o : Obj) : (setObj L.l o).run P w = .ok () (setO w L.l o) := by
  have h' : w.heap[L.l]? = some (.loop (L.loop st p)) := h
  simp [setObj, Sem.run, h', setO]
theorem Lo.set_at {L : Lo P fn n f} {w : World} {st : LoopState} {p : Option Code} (h : L.At w st p) (st' : LoopState) (p' : Option Code) : L.At (setO w L.l (.loop (L.loop st' p'))) st' p' := setO_same h.lt _

/-- A call of yield, where the record lies. -/
def YieldC (P : Program) (l : Nat) (vs : List Value) (w : World) (Ψ : Value → World → Prop) : Prop :=
  ∃ g tmps assign body, (Instr.yield l vs.toArray).run P w = .ok (.round l g tmps assign body) w ∧ RoundC P l g tmps assign body w Ψ
theorem YieldC.mono {l : Nat} {vs : List Value} {w : World} {Ψ Ψ' : Value → World → Prop} (h : YieldC P l vs w Ψ) (hi : ∀ v w', Ψ v w' → Ψ' v w') : YieldC P l vs w Ψ' :=
  let ⟨g, t, as, b, h1, h2⟩ := h; ⟨g, t, as, b, h1, h2.mono hi⟩
/-- What is known in a round: the loop's variables, and what was known. -/
def zipFr : List Tmp → List Value → Fr → Fr
  | p :: ps, v :: vs, f => zipFr ps vs ((p, v) :: f)
  | _, _, f => f
theorem St.zip {n : Sz} : ∀ (ps : List Tmp) (vs : List Value) (f : Fr) (a : Act), St n f a → (∀ p ∈ ps, p < n.size) → St n (zipFr ps vs f) { a with tmps := (ps.zip vs).foldl (fun t (x, v) => t.setIfInBounds x v) a.tmps }
  | [], vs, f, a, h, _ => by cases vs <;> simpa [zipFr] using h
  | p :: ps, [], f, a, h, _ => by simpa [zipFr] using h
  | p :: ps, v :: vs, f, a, h, hp => by
    have h1 := h.put (d := p) (by have := hp p (by simp); simpa [Nat.blt_eq] using this) v
    have := St.zip ps vs ((p, v) :: f) (a.put (some p) v) h1 (fun q hq => hp q (by simp [hq]))
    simpa [zipFr, Act.put] using this
theorem Lo.yield {L : Lo P fn n f} {w : World} {st : LoopState} {p : Option Code} (h : L.At w st p) (hD : L.a.defers = n.D) {vs : List Value} {Ψ : Value → World → Prop} (hl : vs.length = L.ps.size) (hp : L.ps.toList.all (fun q => Nat.blt q n.size) = true)
    (hw : G P fn (RoundE P Ψ) ⟨n.size, [], some L.l⟩ [.code L.assign, .beginRound, .code L.body] (zipFr L.ps.toList vs f) w) : YieldC P L.l vs w Ψ := by
  have hp' : ∀ q ∈ L.ps.toList, q < n.size := fun q hq => by have := List.all_eq_true.1 hp q hq; simpa [Nat.blt_eq] using this
  have hst : St ⟨n.size, [], some L.l⟩ f { tmps := L.a.tmps, defers := [] } := ⟨L.ha.size, rfl, L.ha.at_⟩
  have hz := St.zip (n := ⟨n.size, [], some L.l⟩) L.ps.toList vs f _ hst hp'
  refine ⟨L.g, (L.ps.toList.zip vs).foldl (fun t (x, v) => t.setIfInBounds x v) L.a.tmps, L.assign, L.body, ?_, fun c cs => ?_⟩
  · simp only [Instr.yield, Sem.run_bind, h.run_get, Result.andThen_ok]
    have e1 : (vs.toArray.size ≠ (L.loop st p).params.size) = False := by simp [Lo.loop, hl]
    have e2 : ((L.loop st p).params.zip vs.toArray).foldl (fun tmps (x : Tmp × Value) => tmps.setIfInBounds x.1 x.2) (L.loop st p).tmps = (L.ps.toList.zip vs).foldl (fun t (x, v) => t.setIfInBounds x v) L.a.tmps := by
      rw [← Array.foldl_toList]
      simp [Lo.loop]
    rw [← e2]
    simp [e1, Lo.loop, hl]
  · have hb0 : Frame.round L.l L.g ((L.ps.toList.zip vs).foldl (fun t (x, v) => t.setIfInBounds x v) L.a.tmps) L.assign L.body .normal =
        ({ (default : Frame) with fn := L.g, kind := .normal, roundOf := some L.l } : Frame).atR { tmps := (L.ps.toList.zip vs).foldl (fun t (x, v) => t.setIfInBounds x v) L.a.tmps, defers := [] } [.code L.assign, .beginRound, .code L.body] := by
      simp [Frame.round, Frame.atR]
    rw [hb0]
    obtain ⟨m, hE, hm⟩ := hw _ hz { (default : Frame) with fn := L.g, kind := .normal, roundOf := some L.l } (c :: cs) rfl rfl L.hg
    obtain ⟨v, w', rfl, hΨ⟩ := hE c cs rfl
    exact ⟨v, w', hΨ, hm⟩
end

section
variable {P : Program} {fn fn' : Func} {E : Fin} {n m : Sz} {k : List Item} {f f' : Fr} {w : World} {Ψ : Value → World → Prop}
theorem G.beginRound {L : Lo P fn' m f'} {p : Option Code} (hro : n.ro = some L.l) (h : L.At w .ready p) (hk : ∀ w', Chg L.l w w' → L.At w' .busy p → G P fn E n k f w') : G P fn E n (.beginRound :: k) f w := by
  intro a ha b cs hb hr hf
  have hrun : (Instr.beginRound L.l).run P w = .ok () (setO w L.l (.loop (L.loop .busy p))) := by
    simp only [Instr.beginRound, Sem.run_bind, h.run_get, Result.andThen_ok, h.run_set]
    rfl
  obtain ⟨mm, hE, hm⟩ := hk _ (chg_setO _ _ _) (Lo.set_at h .busy p) a ha b cs hb hr hf
  exact ⟨mm, hE, Steps.head (stepR_beginRound (hr.trans hro) hrun) hm⟩
theorem G.roundEnd {L : Lo P fn' m f'} {st : LoopState} {p : Option Code} (hro : n.ro = some L.l) (h : L.At w st p) (hk : ∀ w', Chg L.l w w' → L.At w' .ready none → Ψ (.bool true) w') : G P fn (RoundE P Ψ) n [] f w := by
  intro a ha b cs hb hr hf
  have hrun : (Instr.endRound L.l none).run P w = .ok (.bool true) (setO w L.l (.loop (L.loop .ready none))) := by
    simp only [Instr.endRound, Sem.run_bind, h.run_get, Result.andThen_ok, h.run_set]
    rfl
  cases cs with
  | nil => exact ⟨_, fun c cs' hc => (by cases hc), .refl _ _⟩
  | cons c cs => exact ⟨_, fun c' cs' hc => (by cases hc; exact ⟨_, _, rfl, hk _ (chg_setO _ _ _) (Lo.set_at h .ready none)⟩), .one (stepR_round_end (hr.trans hro) hb hrun)⟩
theorem G.roundRet {L : Lo P fn' m f'} {st : LoopState} {p : Option Code} (hro : n.ro = some L.l) (h : L.At w st p) (hk : ∀ w', Chg L.l w w' → L.At w' .done (some .ret) → Ψ (.bool false) w') : G P fn (RoundE P Ψ) n (.code .ret :: k) f w := by
  intro a ha b cs hb hr hf
  have hrun : (Instr.endRound L.l (some .ret)).run P w = .ok (.bool false) (setO w L.l (.loop (L.loop .done (some .ret)))) := by
    simp only [Instr.endRound, Sem.run_bind, h.run_get, Result.andThen_ok, h.run_set]
    rfl
  cases cs with
  | nil => exact ⟨_, fun c cs' hc => (by cases hc), .refl _ _⟩
  | cons c cs => exact ⟨_, fun c' cs' hc => (by cases hc; exact ⟨_, _, rfl, hk _ (chg_setO _ _ _) (Lo.set_at h .done (some .ret))⟩), .one (stepR_round_ret (hr.trans hro) hb hrun)⟩

/-- The block for the rounds' deferred calls: none. -/
def NoDefers (w : World) (r : Nat) : Prop := w.heap[r]? = some (.deferred (some []))
theorem NoDefers.lt {r : Nat} (h : NoDefers w r) : r < w.heap.size := (Array.getElem?_eq_some_iff.1 h).1
theorem NoDefers.ext {w' : World} {r : Nat} (h : NoDefers w r) (he : Ext w w') : NoDefers w' r := (he.block _ h.lt).trans h
theorem NoDefers.chg {w' : World} {r b : Nat} (h : NoDefers w r) (hc : Chg b w w') (hne : r ≠ b) : NoDefers w' r := (hc.block _ hne).trans h
abbrev coll (r : Nat) : Deferred := { target := .collected r, args := #[] }
abbrev yieldv (l : Nat) : Value := .func (.yield l) #[] #[]

/-- 'for .. := range g { .. }', outside all rounds. -/
theorem G.rangeFunc {g : Operand} {ps : Array Tmp} {assign body : Code} {gf : FuncId} {first cap : List Value} {Θ : Lo P fn n f → Value → World → Prop} (hro : n.ro = none) (hx : ev f g = some (.func (.func gf) first.toArray cap.toArray))
    (hit : ∀ (L : Lo P fn n f) (w1 : World), L.a.defers = n.D → L.ps = ps → L.assign = assign → L.body = body → L.r = w.heap.size → L.l = w.heap.size + 1 → Ext w w1 → L.At w1 .ready none → NoDefers w1 L.r →
      Does P gf (first ++ [yieldv L.l] ++ cap).toArray w1 (Θ L))
    (hk : ∀ (L : Lo P fn n f) v w2, L.r = w.heap.size → L.l = w.heap.size + 1 → Θ L v w2 → ∃ st p, L.At w2 st p ∧ st ≠ .busy ∧ ∀ w3, Chg L.l w2 w3 → G P fn E ⟨n.size, coll L.r :: n.D, none⟩ ((p.map Item.code).toList ++ k) f w3) :
    G P fn E n (.code (.rangeFunc g ps assign body) :: k) f w := by
  intro a ha b cs hb hr hf
  let L : Lo P fn n f := ⟨a, ha, b.fn, hf, ps, assign, body, w.heap.size + 1, w.heap.size⟩
  let w0 := w.alloc (.deferred (some []))
  let w1 := w0.alloc (.loop (L.loop .ready none))
  have hs0 : w0.heap.size = w.heap.size + 1 := by simp [w0]
  have he0 : Ext w w0 := ext_alloc w _
  have he : Ext w w1 := he0.trans (ext_alloc w0 _)
  have hat : L.At w1 .ready none := by
    show w1.heap[w.heap.size + 1]? = _
    rw [← hs0]
    exact heap_alloc_new w0 _
  have hnd : NoDefers w1 w.heap.size := by
    have h0 : NoDefers w0 w.heap.size := heap_alloc_new w _
    exact h0.ext (ext_alloc w0 _)
  obtain ⟨⟨fg, hen⟩, hcalls⟩ := hit L w1 ha.defers rfl rfl rfl rfl rfl he hat hnd
  have hrr : b.roundOf = none := hr.trans hro
  have henter : (Instr.enterLoop b.fn a.tmps ps assign body b.roundOf).run P w = .ok (w.heap.size + 1, [coll w.heap.size]) w1 := by
    rw [hrr]
    simp [Instr.enterLoop, w1, w0, L, Lo.loop]
  have hres : (resolve a.eval (rangeCall g (w.heap.size + 1)) 0).run P w1 = .ok { target := .fn (.func gf) cap.toArray, args := (first ++ [yieldv (w.heap.size + 1)]).toArray } w1 := by
    simp only [resolve, rangeCall, List.map_toArray, List.map_cons, List.map_nil]
    rw [ha.eval hx]
    simp [Deferred.ofValue, Act.eval]
  have hinv : (invoke (.fn (.func gf) cap.toArray) (first ++ [yieldv (w.heap.size + 1)]).toArray).run P w1 = .ok (.enter gf (first ++ [yieldv (w.heap.size + 1)] ++ cap).toArray) w1 := by
    have := run_callFunc hen (first ++ [yieldv (w.heap.size + 1)] ++ cap).toArray w1
    simp only [invoke]
    simpa using this
  have hst := stepR_rangeFunc (P := P) (b := b) (a := a) (k := k) (cs := cs) (w := w) henter hres hinv
  obtain ⟨e, w2, fr, ⟨v, rfl, hΘ⟩, hsteps, hfn, hleave⟩ := hcalls (b.atR { a with defers := [coll w.heap.size] ++ a.defers } (.inRangeFunc (w.heap.size + 1) :: k) :: cs)
  obtain ⟨st, p, hat2, hne, hgo⟩ := hk L v w2 rfl rfl hΘ
  have hend : (Instr.endLoop (w.heap.size + 1)).run P w2 = .ok p (setO w2 (w.heap.size + 1) (.loop (L.loop .exhausted p))) := by
    have hg : (Instr.getLoop (w.heap.size + 1)).run P w2 = .ok (L.loop st p) w2 := hat2.run_get
    have hs : (setObj (w.heap.size + 1) (.loop (L.loop .exhausted p))).run P w2 = .ok () (setO w2 (w.heap.size + 1) (.loop (L.loop .exhausted p))) := hat2.run_set _
    simp only [Instr.endLoop, Sem.run_bind, hg, Result.andThen_ok]
    have hb2 : ((L.loop st p).state == LoopState.busy) = false := by simp [Lo.loop, hne]
    rw [if_neg (by rw [hb2]; simp)]
    have e3 : ({ L.loop st p with state := .exhausted } : Loop) = L.loop .exhausted p := rfl
    rw [e3]
    simp only [Sem.run_bind, hs, Result.andThen_ok]
    rfl
  have hst3 : St ⟨n.size, coll w.heap.size :: n.D, none⟩ f { a with defers := [coll w.heap.size] ++ a.defers } := ⟨ha.size, by simp [ha.defers], ha.at_⟩
  obtain ⟨mm, hE, hm⟩ := hgo _ (chg_setO w2 _ _) _ hst3 b cs hb (by simpa using hrr) hf
  refine ⟨mm, hE, Steps.head hst (Steps.trans hsteps (Steps.head ?_ (Steps.head (stepR_endRangeFunc hend) hm)))⟩
  rw [← finish_atR_inRangeFunc (w.heap.size + 1) v]
  exact step_leave_returned hleave
end

/-! the return behind it -/
section
variable {P : Program} {fn : Func} {Φ : Value → World → Prop} {n : Sz} {k : List Item} {f : Fr} {w : World}
theorem step_takeDeferred {P : Program} {fr : Frame} {cs : List Frame} {w : World} {r : Nat} {ds : List Deferred} (hm : fr.mode = .returning) (hd : fr.defers = coll r :: ds) (h : NoDefers w r) :
    step P (lone fr cs w) = .next (lone { fr with defers := ds } cs (setO w r (.deferred none))) := by
  have h' : w.heap[r]? = some (.deferred (some [])) := h
  have hrun : (Instr.takeDeferred r).run P w = .ok [] (setO w r (.deferred none)) := by
    simp [Instr.takeDeferred, getObj, setObj, Sem.run, h', setO]
  refine step_lone_go ?_
  simp [stepG, unwind, hm, hd, Sem.runT_eq, hrun, GStep.bare_after]
theorem G.ret_coll {v : Value} {r : Nat} (hD : n.D = [coll r]) (hro : n.ro = none) (hnd : NoDefers w r) (h : ∀ a w', St n f a → Chg r w w' → (results fn a.tmps).run P w' = .ok v w') (hR : ∀ w', Chg r w w' → Φ v w') : G P fn (FnE P Φ) n (.code .ret :: k) f w := by
  intro a ha b cs hb hr hf
  have hd : (b.atR a (.code .ret :: k)).defers = [coll r] := by simp [Frame.atR, ha.defers, hD]
  refine ⟨_, ⟨v, setO w r (.deferred none), { ({ b.atR a (.code .ret :: k) with mode := .returning } : Frame) with defers := [] }, rfl, hR _ (chg_setO _ _ _), rfl, rfl, rfl, hb, fn, hf, ?_⟩, Steps.head (stepR_ret (hr.trans hro)) (.one (step_takeDeferred rfl hd hnd))⟩
  exact h a _ ha (chg_setO _ _ _)
theorem G.ret1_coll {r : Nat} {t : Tmp} {v : Value} (hD : n.D = [coll r]) (hro : n.ro = none) (hnd : NoDefers w r) (hr : fn.results = #[.tmp t]) (hv : Fr.get f t = some v) (h : ∀ w', Chg r w w' → Φ v w') : G P fn (FnE P Φ) n (.code .ret :: k) f w :=
  G.ret_coll hD hro hnd (fun a w' ha _ => by simp [results, hr, ha.at_ t v hv]) h
end
end Go.Bd
namespace Go.Bd
section
variable {P : Program} {n : Sz} {Q : Act → World → Prop} {f : Fr} {w : World} {ops : Array Oper} {rest : List Oper} {d : Nat} {ty : TypeId} {pos : String} {aft : Array Edge} {g : Option (Nat × Bool)}
theorem GL.yieldc {x : Operand} {l : Nat} {args : Array Operand} {tys : Array TypeId} {vs : List Value} {Ψ : Value → World → Prop} (hw : want ops f g = some true) (hlt : Nat.blt d n.size = true) (hx : ev f x = some (yieldv l)) (hxs : evs f args.toList = some vs) (hc : YieldC P l vs w Ψ)
    (h : ∀ v w', Ψ v w' → GL P n Q ops rest ((d, v) :: f) w') : GL P n Q ops (⟨some d, .call { callee := .value x, args := args, argTypes := tys }, ty, pos, aft, g⟩ :: rest) f w := by
  obtain ⟨gf, tmps, assign, body, hy, hr⟩ := hc
  refine GL.roundsOn hw rfl hlt (fun a ha => ?_) hr h
  have e1 : args.map a.eval = vs.toArray := by
    apply Array.ext'
    simp only [Array.toList_map]
    exact evs_map ha _ _ hxs
  simp only [execOp, resolve, ha.eval hx, Deferred.ofValue, e1, invoke, Sem.run_bind, Sem.run_pure, Result.andThen_ok]
  simpa using hy
end
end Go.Bd
namespace Go.Bd
section
variable {P : Program} {fn : Func} {Φ : Value → World → Prop} {n : Sz} {k : List Item} {f : Fr} {w : World} {tt : List (Nat × Ti)}
/-- A result that lies in a variable. -/
theorem run_result1 {t : Tmp} {ty : TypeId} {i : Ti} {b : Nat} {v : Value} {S : Nat → Nat × Nat → Prop} (hT : Tys P tt) (hi : TT.get tt ty = some i) (hg : i.desc.agg = false) (hr : fn.results = #[.cell t ty]) (hx : Fr.get f t = some (ptr b 0)) (hA : At S w b 0 [v]) :
    ∀ a, St n f a → (results fn a.tmps).run P w = .ok v w := fun a ha => by
  have hc : w.cell? ⟨b, 0, none⟩ = some v := by have := hA.cell (j := 0) (v := v) rfl; simpa using this
  have h1 := run_load1 (P := P) hT hi hg hc
  have h2 : a.tmps[t]? = some (ptr b 0) := ha.at_ t _ hx
  simp [results, hr, h2, asAddr, h1]
end
end Go.Bd
