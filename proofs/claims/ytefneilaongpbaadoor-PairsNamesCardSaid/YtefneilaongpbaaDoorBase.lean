/-
  My own small calculus for walks: G: from this frame's list of things to do the machine comes to an end of the wanted kind.
  What is known of the frame is a list of slots and values; regions are walked operation by operation; a round of a range over a function is a frame like any other.
-/
import Derived.WalkKit
import Derived.RangeFuncIn
import Derived.KernelRfl
set_option linter.unusedVariables false
namespace Go.Bd
open Go.RowKit

/-! ### 1. What is known of a frame -/
abbrev Fr := List (Nat × Value)
def Fr.get : Fr → Nat → Option Value
  | [], _ => none
  | (i, v) :: r, t => match Nat.beq i t with
    | true => some v
    | false => Fr.get r t
/-- A frame's make: how many slots, what is deferred, whose round it is. -/
structure Sz where
  size : Nat
  D : List Deferred := []
  ro : Option Nat := none
structure St (n : Sz) (f : Fr) (a : Act) : Prop where
  size : a.tmps.size = n.size
  defers : a.defers = n.D
  at_ : ∀ t v, Fr.get f t = some v → a.tmps[t]? = some v
def ev (f : Fr) : Operand → Option Value
  | .tmp t => Fr.get f t
  | .const v => some v
  | .global g => some (.pointer (some ⟨g, 0, none⟩))
  | .func g => some (.func (.func g) #[] #[])
theorem St.eval {n : Sz} {f : Fr} {a : Act} (h : St n f a) {x : Operand} {v : Value} (hx : ev f x = some v) : a.eval x = v := by
  cases x with
  | tmp t => have := h.at_ t v hx; simp [Act.eval, this]
  | const u => simpa [ev, Act.eval] using hx
  | global g => simpa [ev, Act.eval] using hx
  | func g => simpa [ev, Act.eval] using hx
theorem Fr.get_cons (f : Fr) (d t : Nat) (v : Value) : Fr.get ((d, v) :: f) t = if d = t then some v else Fr.get f t := by
  simp only [Fr.get]
  cases hb : Nat.beq d t with
  | true => simp [Nat.eq_of_beq_eq_true hb]
  | false => simp [Nat.ne_of_beq_eq_false hb]
theorem St.put {n : Sz} {f : Fr} {a : Act} (h : St n f a) {d : Nat} (hd : Nat.blt d n.size = true) (v : Value) : St n ((d, v) :: f) (a.put (some d) v) := by
  have hd' : d < n.size := by simpa [Nat.blt_eq] using hd
  refine ⟨by simp [Act.put, h.size], by simp [Act.put, h.defers], fun t u ht => ?_⟩
  rw [Fr.get_cons] at ht
  by_cases e : d = t
  · subst e
    simp only [if_true, Option.some.injEq] at ht
    subst ht
    simp [Act.put, h.size, hd']
  · rw [if_neg e] at ht
    simp only [Act.put]
    rw [Array.getElem?_setIfInBounds_ne e]
    exact h.at_ t u ht
/-- What is known less. -/
def Fr.sub (f' f : Fr) : Prop := ∀ t v, Fr.get f' t = some v → Fr.get f t = some v
theorem St.sub {n : Sz} {f f' : Fr} {a : Act} (h : St n f a) (hs : Fr.sub f' f) : St n f' a := ⟨h.size, h.defers, fun t v ht => h.at_ t v (hs t v ht)⟩
theorem Fr.sub_nil (f : Fr) : Fr.sub [] f := fun t v h => by simp [Fr.get] at h
theorem Fr.sub_cons {f f' : Fr} {i : Nat} {v : Value} (h : Fr.get f i = some v) (hs : Fr.sub f' f) : Fr.sub ((i, v) :: f') f := fun t u ht => by
  rw [Fr.get_cons] at ht
  by_cases e : i = t
  · subst e; simp only [if_true, Option.some.injEq] at ht; subst ht; exact h
  · rw [if_neg e] at ht; exact hs t u ht
theorem Fr.sub_refl (f : Fr) : Fr.sub f f := fun _ _ h => h

/-! ### 2. The rest of a call, or of a round -/
abbrev Fin := Frame → List Frame → Machine → Prop
section
variable (P : Program) (fn : Func) (E : Fin) (n : Sz)
def GoA (k : List Item) (a : Act) (w : World) : Prop :=
  ∀ (b : Frame) (cs : List Frame), b.kind = .normal → b.roundOf = n.ro → P.funcs[b.fn]? = some fn →
    ∃ m, E b cs m ∧ Steps P (lone (b.atR a k) cs w) m
def G (k : List Item) (f : Fr) (w : World) : Prop := ∀ a, St n f a → GoA P fn E n k a w
end

/-- What a round comes to. -/
def RoundC (P : Program) (l : Nat) (g : FuncId) (tmps : Array Value) (assign body : Code) (w : World) (Ψ : Value → World → Prop) : Prop :=
  ∀ (c : Frame) (cs : List Frame), ∃ v w', Ψ v w' ∧ Steps P (lone (Frame.round l g tmps assign body .normal) (c :: cs) w) (lone (c.finish v) cs w')
theorem RoundC.mono {P : Program} {l : Nat} {g : FuncId} {tmps : Array Value} {assign body : Code} {w : World} {Ψ Ψ' : Value → World → Prop} (h : RoundC P l g tmps assign body w Ψ) (hi : ∀ v w', Ψ v w' → Ψ' v w') : RoundC P l g tmps assign body w Ψ' :=
  fun c cs => let ⟨v, w', h1, h2⟩ := h c cs; ⟨v, w', hi _ _ h1, h2⟩

/-- What an operation's outcome owes. -/
def upx (P : Program) (next : Value → World → Prop) : Result Next → Prop
  | .ok (.value v) w' => next v w'
  | .ok .skip w' => next undef w'
  | .ok (.enter g args) w' => Calls P g args w' fun e w'' => ∃ v, e = .returned v ∧ next v w''
  | .ok (.round l g tmps assign body) w' => RoundC P l g tmps assign body w' next
  | _ => False
def opX (P : Program) (o : Oper) (a : Act) (w : World) (next : Value → World → Prop) : Prop := upx P next ((execOp a.eval o).run P w)
theorem upx_mono {P : Program} {next next' : Value → World → Prop} (hn : ∀ v w, next v w → next' v w) {r : Result Next} (h : upx P next r) : upx P next' r := by
  unfold upx at *
  split at h
  · exact hn _ _ h
  · exact hn _ _ h
  · exact h.mono fun e w'' ⟨v, he, hv⟩ => ⟨v, he, hn _ _ hv⟩
  · exact h.mono hn
  · exact h.elim
/-- The operations that are left, in their order. -/
def wpX (P : Program) (ops : Array Oper) (Q : Act → World → Prop) : List Oper → Act → World → Prop
  | [], a, w => Q a w
  | o :: rest, a, w => if Region.wanted o (yielded ops a.tmps) then opX P o a w (fun v w' => wpX P ops Q rest (a.put o.dst v) w') else wpX P ops Q rest (a.put o.dst undef) w
def wpXs (P : Program) (ops : Array Oper) (Q : Act → World → Prop) : List Nat → Act → World → Prop
  | [], a, w => Q a w
  | i :: rest, a, w => match ops[i]? with
    | none => wpXs P ops Q rest a w
    | some o => if Region.wanted o (yielded ops a.tmps) then opX P o a w (fun v w' => wpXs P ops Q rest (a.put o.dst v) w') else wpXs P ops Q rest (a.put o.dst undef) w
theorem wpXs_eq (P : Program) (ops : Array Oper) (Q : Act → World → Prop) (l : List Oper) : ∀ k, (∀ j, l[j]? = ops[k + j]?) → wpXs P ops Q (List.range' k l.length) = wpX P ops Q l := by
  induction l with
  | nil => intro k _; funext a w; simp [wpXs, wpX]
  | cons o l ih =>
    intro k h
    have h0 : ops[k]? = some o := by simpa using (h 0).symm
    have ih' := ih (k + 1) (fun j => by have := h (j + 1); simpa [Nat.add_assoc, Nat.add_comm 1 j] using this)
    funext a w
    simp only [List.length_cons, List.range'_succ, wpXs, h0, wpX, ih']

section
variable {P : Program} {fn : Func} {E : Fin} {n : Sz} {k : List Item} {f : Fr} {w : World}

theorem semAt_run {ro : Option Nat} {ρ : Operand → Value} {o : Oper} {x : Next} {w w' : World} (h : (execOp ρ o).run P w = .ok x w') (hx : ∀ d, x ≠ .defer d) : (o.semAt ro ρ).run P w = .ok x w' := by
  rw [Oper.semAt_eq ro ρ o (fun c hc => ?_)]
  · exact h
  · unfold execOp at h
    simp only [hc, Sem.run_bind] at h
    cases hr : (resolve ρ c o.type).run P w with
    | ok d w1 => simp [hr] at h; exact hx d h.1.symm
    | halt e w1 => simp [hr, Result.andThen] at h

theorem GoA.of_steps {a a' : Act} {k' : List Item} {w' : World} (hs : ∀ (b : Frame) (cs : List Frame), Steps P (lone (b.atR a k) cs w) (lone (b.atR a' k') cs w')) (h : GoA P fn E n k' a' w') : GoA P fn E n k a w := by
  intro b cs hb hr hf
  obtain ⟨m, hE, hm⟩ := h b cs hb hr hf
  exact ⟨m, hE, (hs b cs).trans hm⟩
theorem GoA.of_wpXs {ops : Array Oper} (l : List Nat) : ∀ (a : Act) (w : World), wpXs P ops (GoA P fn E n k) l a w → GoA P fn E n (.inRegion ops l :: k) a w := by
  induction l with
  | nil => exact fun a w h => .of_steps (fun _ _ => .one stepR_region_end) h
  | cons i rest ih =>
    intro a w h
    simp only [wpXs] at h
    cases ho : ops[i]? with
    | none =>
      simp only [ho] at h
      refine .of_steps (fun b cs => .one ?_) (ih a w h)
      have hs := stepR_op_skip (P := P) (b := b) (a := a) (k := k) (cs := cs) (w := w) (ops := ops) (i := i) (rest := rest) (by simp [ho])
      simpa only [ho, Option.bind_none, Act.put] using hs
    | some o =>
      simp only [ho] at h
      by_cases hw : Region.wanted o (yielded ops a.tmps) = true
      · simp only [hw, if_true] at h
        intro b cs hb hro hf
        have hg := stepGR_op (P := P) (b := b) (k := k) (cs := cs) (w := w) (rest := rest) ho hw
        have hfin : ∀ v, (b.atR a (.inRegion ops (i :: rest) :: k)).finish v = b.atR (a.put o.dst v) (.inRegion ops rest :: k) := by
          intro v; rw [Frame.finish_atR, ho]; rfl
        unfold opX upx at h
        split at h
        · rename_i v w' hr
          obtain ⟨m, hE, hm⟩ := ih _ _ h b cs hb hro hf
          refine ⟨m, hE, Steps.head (step_lone_go ?_) hm⟩
          rw [hg, ← hfin]; simp [stepG.apply, semAt_run hr (by simp)]
        · rename_i w' hr
          obtain ⟨m, hE, hm⟩ := ih _ _ h b cs hb hro hf
          refine ⟨m, hE, Steps.head (step_lone_go ?_) hm⟩
          rw [hg, ← hfin]; simp [stepG.apply, semAt_run hr (by simp)]
        · rename_i g args w' hr
          obtain ⟨e, w'', fr, ⟨v, rfl, hR⟩, hsteps, _, hleave⟩ := h (b.atR a (.inRegion ops (i :: rest) :: k) :: cs)
          have henter : step P (lone (b.atR a (.inRegion ops (i :: rest) :: k)) cs w) = .next (lone (Frame.enter P g args .normal) (b.atR a (.inRegion ops (i :: rest) :: k) :: cs) w') :=
            step_lone_go (by rw [hg]; simp [stepG.apply, semAt_run hr (by simp), Frame.atR])
          obtain ⟨m, hE, hm⟩ := ih _ _ hR b cs hb hro hf
          refine ⟨m, hE, Steps.head henter (Steps.trans hsteps (Steps.head (step_leave_returned hleave) ?_))⟩
          rw [hfin]; exact hm
        · rename_i l g tmps assign body w' hr
          obtain ⟨v, w'', hR, hsteps⟩ := h (b.atR a (.inRegion ops (i :: rest) :: k)) cs
          have henter : step P (lone (b.atR a (.inRegion ops (i :: rest) :: k)) cs w) = .next (lone (Frame.round l g tmps assign body .normal) (b.atR a (.inRegion ops (i :: rest) :: k) :: cs) w') :=
            step_lone_go (by rw [hg]; simp [stepG.apply, semAt_run hr (by simp), Frame.atR])
          obtain ⟨m, hE, hm⟩ := ih _ _ hR b cs hb hro hf
          refine ⟨m, hE, Steps.head henter (Steps.trans hsteps ?_)⟩
          rw [hfin]; exact hm
        · exact h.elim
      · simp only [hw, if_false, Bool.false_eq_true] at h
        refine .of_steps (fun b cs => .one ?_) (ih _ w h)
        have hs := stepR_op_skip (P := P) (b := b) (a := a) (k := k) (cs := cs) (w := w) (ops := ops) (i := i) (rest := rest) (by simp [ho]; simpa using hw)
        simpa only [ho, Option.bind_some] using hs
theorem G.sub {f' : Fr} (hs : Fr.sub f' f) (h : G P fn E n k f' w) : G P fn E n k f w := fun a ha => h a (ha.sub hs)

theorem G.seq {x y : Code} (h : G P fn E n (.code x :: .code y :: k) f w) : G P fn E n (.code (.seq x y) :: k) f w :=
  fun a ha => .of_steps (fun _ _ => .one stepR_seq) (h a ha)
theorem G.skip (h : G P fn E n k f w) : G P fn E n (.code .skip :: k) f w := fun a ha => .of_steps (fun _ _ => .one stepR_skip) (h a ha)
theorem G.label {l : Nat} (h : G P fn E n k f w) : G P fn E n (.code (.label l) :: k) f w := fun a ha => .of_steps (fun _ _ => .one stepR_label) (h a ha)
theorem G.block {id : Nat} {c : Code} (h : G P fn E n (.code c :: .inBlock id :: k) f w) : G P fn E n (.code (.block id c) :: k) f w :=
  fun a ha => .of_steps (fun _ _ => .one stepR_block) (h a ha)
theorem G.inBlock {id : Nat} (h : G P fn E n k f w) : G P fn E n (.inBlock id :: k) f w := fun a ha => .of_steps (fun _ _ => .one stepR_inBlock) (h a ha)
theorem G.loop {c : Code} (h : G P fn E n (.code c :: .inLoop c :: k) f w) : G P fn E n (.code (.loop c) :: k) f w :=
  fun a ha => .of_steps (fun _ _ => .one stepR_loop) (h a ha)
theorem G.inLoop {c : Code} (h : G P fn E n (.code c :: .inLoop c :: k) f w) : G P fn E n (.inLoop c :: k) f w :=
  fun a ha => .of_steps (fun _ _ => .one stepR_inLoop) (h a ha)
theorem G.exit {id : Nat} {k' : List Item} (he : exitTo id k = some k') (h : G P fn E n k' f w) : G P fn E n (.code (.exit id) :: k) f w :=
  fun a ha => .of_steps (fun _ _ => .one (stepR_exit he)) (h a ha)
theorem G.cond_t {c : Operand} {x y : Code} (hc : ev f c = some (.bool true)) (h : G P fn E n (.code x :: k) f w) : G P fn E n (.code (.cond c x y) :: k) f w :=
  fun a ha => .of_steps (fun _ _ => .one (stepR_cond (ha.eval hc))) (h a ha)
theorem G.cond_f {c : Operand} {x y : Code} (hc : ev f c = some (.bool false)) (h : G P fn E n (.code y :: k) f w) : G P fn E n (.code (.cond c x y) :: k) f w :=
  fun a ha => .of_steps (fun _ _ => .one (stepR_cond (ha.eval hc))) (h a ha)
theorem stepR_scope {P : Program} {b : Frame} {a : Act} {k : List Item} {cs : List Frame} {w : World} {c : Code} :
    step P (lone (b.atR a (.code (.scope c) :: k)) cs w) = .next (lone (b.atR a (.code c :: .inScope c :: k)) cs w) :=
  step_lone_go (by simp [stepG, stepG.exec, Frame.atR])
theorem stepR_inScope {P : Program} {b : Frame} {a : Act} {k : List Item} {cs : List Frame} {w : World} {c : Code} :
    step P (lone (b.atR a (.inScope c :: k)) cs w) = .next (lone (b.atR a k) cs w) :=
  step_lone_go (by simp [stepG, stepG.exec, Frame.atR])
theorem G.scope {c : Code} (h : G P fn E n (.code c :: .inScope c :: k) f w) : G P fn E n (.code (.scope c) :: k) f w :=
  fun a ha => .of_steps (fun _ _ => .one stepR_scope) (h a ha)
theorem G.inScope {c : Code} (h : G P fn E n k f w) : G P fn E n (.inScope c :: k) f w :=
  fun a ha => .of_steps (fun _ _ => .one stepR_inScope) (h a ha)

/-- The loop's rule: every state of the relation goes round to one of a lesser measure, or leaves for good. -/
theorem G.rounds {α : Type} {c : Code} (Inv : α → Fr → World → Prop) (μ : α → Nat)
    (round : ∀ x f w, Inv x f w → (∀ y f' w', μ y < μ x → Inv y f' w' → G P fn E n (.inLoop c :: k) f' w') → G P fn E n (.code c :: .inLoop c :: k) f w)
    (x : α) (h0 : Inv x f w) : G P fn E n (.code (.loop c) :: k) f w := by
  refine G.loop ?_
  have key : ∀ m, ∀ x f w, μ x = m → Inv x f w → G P fn E n (.code c :: .inLoop c :: k) f w := by
    intro m
    induction m using Nat.strongRecOn with
    | _ m ih =>
      intro x f w hm hI
      refine round x f w hI fun y f' w' hlt hI' => ?_
      exact G.inLoop (ih (μ y) (hm ▸ hlt) y f' w' rfl hI')
  exact key _ x f w rfl h0
end

/-- What a contract says: the call hands back a value, and this holds of it and of the world behind it. -/
def Ret (Φ : Value → World → Prop) (e : Ending) (w : World) : Prop := ∃ v, e = .returned v ∧ Φ v w
abbrev Ext (w w' : World) : Prop := Below w.heap.size w w'
/-- The end of a call. -/
def FnE (P : Program) (Φ : Value → World → Prop) : Fin := fun b cs m => ∃ v w' fr, m = lone fr cs w' ∧ Φ v w' ∧ fr.fn = b.fn ∧ fr.leaving P w' (.returned v)
/-- The end of a round. -/
def RoundE (P : Program) (Ψ : Value → World → Prop) : Fin := fun b cs m => ∀ c cs', cs = c :: cs' → ∃ v w', m = lone (c.finish v) cs' w' ∧ Ψ v w'

section
variable {P : Program} {fn : Func} {Φ : Value → World → Prop} {n : Sz} {k : List Item} {f : Fr} {w : World}
theorem calls_of_G {g : FuncId} {c : Code} {args : Array Value} {f : Fr} (hf : P.funcs[g]? = some fn) (hb : fn.body = some c)
    (hsz : Nat.ble args.size fn.ntmps = true) (hfr : ∀ t v, Fr.get f t = some v → args[t]? = some v)
    (h : G P fn (FnE P Φ) ⟨fn.ntmps, [], none⟩ [.code c] f w) : Calls P g args w (Ret Φ) := by
  intro cs
  have henter : Frame.enter P g args .normal = ({ (default : Frame) with fn := g, kind := .normal, roundOf := none } : Frame).atR { tmps := args ++ Array.replicate (fn.ntmps - args.size) undef, defers := [] } [.code c] := by
    simp [Frame.enter, Frame.atR, hf, hb]
  rw [henter]
  have hle : args.size ≤ fn.ntmps := by simpa [Nat.ble_eq] using hsz
  obtain ⟨m, ⟨v, w', fr, rfl, hΦ, hfn, hl⟩, hm⟩ := h { tmps := args ++ Array.replicate (fn.ntmps - args.size) undef, defers := [] }
    ⟨by simp; omega, rfl, fun t v ht => by
      have := hfr t v ht
      have hlt : t < args.size := by
        rcases Nat.lt_or_ge t args.size with h1 | h1
        · exact h1
        · simp [Array.getElem?_eq_none h1] at this
      rw [Array.getElem?_append_left hlt]
      exact this⟩ { (default : Frame) with fn := g, kind := .normal, roundOf := none } cs rfl rfl (by simpa using hf)
  exact ⟨.returned v, w', fr, ⟨v, rfl, hΦ⟩, hm, hfn, hl⟩

/-- The call returns: the results out of what is known. -/
theorem G.ret_of {v : Value} (hD : n.D = []) (hro : n.ro = none) (h : ∀ a, St n f a → (results fn a.tmps).run P w = .ok v w) (hR : Φ v w) : G P fn (FnE P Φ) n (.code .ret :: k) f w := by
  intro a ha b cs hb hr hf
  refine ⟨_, ⟨v, w, { b.atR a (.code .ret :: k) with mode := .returning }, rfl, hR, rfl, rfl, ?_, hb, fn, hf, ?_⟩, .one (stepR_ret (hr.trans hro))⟩
  · simp [Frame.atR, ha.defers, hD]
  · exact h a ha
theorem G.end_of {v : Value} (hD : n.D = []) (hro : n.ro = none) (h : ∀ a, St n f a → (results fn a.tmps).run P w = .ok v w) (hR : Φ v w) : G P fn (FnE P Φ) n [] f w := by
  intro a ha b cs hb hr hf
  refine ⟨_, ⟨v, w, { b.atR a [] with mode := .returning }, rfl, hR, rfl, rfl, ?_, hb, fn, hf, ?_⟩, .one (stepR_end (hr.trans hro))⟩
  · simp [Frame.atR, ha.defers, hD]
  · exact h a ha
end

/-! ### 3. Operations -/
section
variable (P : Program) (n : Sz) (Q : Act → World → Prop)
def GL (ops : Array Oper) (rest : List Oper) (f : Fr) (w : World) : Prop := ∀ a, St n f a → wpX P ops Q rest a w
end
section
variable {P : Program} {fn : Func} {E : Fin} {n : Sz} {k : List Item} {Q : Act → World → Prop} {f : Fr} {w : World} {ops : Array Oper} {rest : List Oper}
theorem GL.sub {f' : Fr} (hs : Fr.sub f' f) (h : GL P n Q ops rest f' w) : GL P n Q ops rest f w := fun a ha => h a (ha.sub hs)
theorem GL.nil (h : G P fn E n k f w) : GL P n (GoA P fn E n k) ops [] f w := fun a ha => h a ha
theorem G.region {id : Nat} {l : List Oper} (h : GL P n (GoA P fn E n k) l.toArray l f w) : G P fn E n (.code (.region id l.toArray false) :: k) f w :=
  fun a ha => .of_steps (fun _ _ => .one stepR_region) (.of_wpXs _ a w (by
    have := wpXs_eq P l.toArray (GoA P fn E n k) l 0 (by simp)
    rw [List.range_eq_range', List.size_toArray, this]
    exact h a ha))

/-- Whether an operation is wanted, as far as it is known. -/
def want (ops : Array Oper) (f : Fr) : Option (Nat × Bool) → Option Bool
  | none => some true
  | some (j, b) => match (ops[j]?).bind (·.dst) with
    | none => some false
    | some t => match Fr.get f t with
      | some (.bool c) => some (c == b)
      | some _ => some false
      | none => none
theorem wanted_of {a : Act} (ha : St n f a) {o : Oper} {b : Bool} (h : want ops f o.guard = some b) : Region.wanted o (yielded ops a.tmps) = b := by
  unfold want at h
  unfold Region.wanted
  cases hg : o.guard with
  | none => simp only [hg] at h; simpa using h
  | some g =>
    obtain ⟨j, c⟩ := g
    simp only [hg] at h
    simp only [yielded]
    cases hj : (ops[j]?).bind (·.dst) with
    | none => simp only [hj] at h; simpa using h
    | some t =>
      simp only [hj] at h
      simp only [Option.bind_some]
      cases hv : Fr.get f t with
      | none => simp only [hv] at h; cases h
      | some v =>
        simp only [hv] at h
        rw [ha.at_ t v hv]
        cases v <;> simp only [Option.some.injEq] at h <;> simp [← h]

theorem GL.pass {d : Nat} {o : Oper} (hw : want ops f o.guard = some false) (hd : o.dst = some d) (hlt : Nat.blt d n.size = true)
    (h : GL P n Q ops rest ((d, undef) :: f) w) : GL P n Q ops (o :: rest) f w := fun a ha => by
  unfold wpX
  rw [if_neg (by rw [wanted_of ha hw]; simp), hd]
  exact h _ (ha.put hlt _)
/-- An operation that yields a value. -/
theorem GL.yields {d : Nat} {o : Oper} {v : Value} {w' : World} (hw : want ops f o.guard = some true) (hd : o.dst = some d) (hlt : Nat.blt d n.size = true)
    (hr : ∀ a, St n f a → (execOp a.eval o).run P w = .ok (.value v) w') (h : GL P n Q ops rest ((d, v) :: f) w') : GL P n Q ops (o :: rest) f w := fun a ha => by
  unfold wpX
  rw [if_pos (wanted_of ha hw)]
  unfold opX
  rw [hr a ha, hd]
  exact h _ (ha.put hlt _)
/-- An operation that writes. -/
theorem GL.writes {o : Oper} {w' : World} (hw : want ops f o.guard = some true) (hd : o.dst = none)
    (hr : ∀ a, St n f a → (execOp a.eval o).run P w = .ok .skip w') (h : GL P n Q ops rest f w') : GL P n Q ops (o :: rest) f w := fun a ha => by
  unfold wpX
  rw [if_pos (wanted_of ha hw)]
  unfold opX
  rw [hr a ha, hd]
  exact h _ (by simpa [Act.put] using ha)
/-- A call. -/
theorem GL.enters {d : Nat} {o : Oper} {g : FuncId} {args : Array Value} {Φ : Value → World → Prop} (hw : want ops f o.guard = some true) (hd : o.dst = some d) (hlt : Nat.blt d n.size = true)
    (hr : ∀ a, St n f a → (execOp a.eval o).run P w = .ok (.enter g args) w) (hc : Calls P g args w (Ret Φ))
    (h : ∀ v w', Φ v w' → GL P n Q ops rest ((d, v) :: f) w') : GL P n Q ops (o :: rest) f w := fun a ha => by
  unfold wpX
  rw [if_pos (wanted_of ha hw)]
  unfold opX
  rw [hr a ha]
  refine hc.mono fun e w' he => ?_
  obtain ⟨v, rfl, hΦ⟩ := he
  refine ⟨v, rfl, ?_⟩
  rw [hd]
  exact h v w' hΦ _ (ha.put hlt _)
theorem GL.enters0 {o : Oper} {g : FuncId} {args : Array Value} {Φ : Value → World → Prop} (hw : want ops f o.guard = some true) (hd : o.dst = none)
    (hr : ∀ a, St n f a → (execOp a.eval o).run P w = .ok (.enter g args) w) (hc : Calls P g args w (Ret Φ))
    (h : ∀ v w', Φ v w' → GL P n Q ops rest f w') : GL P n Q ops (o :: rest) f w := fun a ha => by
  unfold wpX
  rw [if_pos (wanted_of ha hw)]
  unfold opX
  rw [hr a ha]
  refine hc.mono fun e w' he => ?_
  obtain ⟨v, rfl, hΦ⟩ := he
  refine ⟨v, rfl, ?_⟩
  rw [hd]
  exact h v w' hΦ _ (by simpa [Act.put] using ha)
/-- A call of yield. -/
theorem GL.roundsOn {d : Nat} {o : Oper} {l : Nat} {g : FuncId} {tmps : Array Value} {assign body : Code} {w1 : World} {Ψ : Value → World → Prop} (hw : want ops f o.guard = some true) (hd : o.dst = some d) (hlt : Nat.blt d n.size = true)
    (hr : ∀ a, St n f a → (execOp a.eval o).run P w = .ok (.round l g tmps assign body) w1) (hc : RoundC P l g tmps assign body w1 Ψ)
    (h : ∀ v w', Ψ v w' → GL P n Q ops rest ((d, v) :: f) w') : GL P n Q ops (o :: rest) f w := fun a ha => by
  unfold wpX
  rw [if_pos (wanted_of ha hw)]
  unfold opX
  rw [hr a ha]
  refine hc.mono fun v w' hΨ => ?_
  rw [hd]
  exact h v w' hΨ _ (ha.put hlt _)
end
end Go.Bd
