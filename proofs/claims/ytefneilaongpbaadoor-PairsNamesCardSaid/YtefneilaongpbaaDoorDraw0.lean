/-
  REGIONS THAT DRAW THEIR ORDER: whatever order the tape picks. Two rules: one walk in the text's order where all is quiet; and, where operations make memory, what each operation leaves, shown of it alone.
-/
import Derived.Test.YtefneilaongpbaaDoorOps
import Derived.Deep.Quiet
set_option linter.unusedVariables false
set_option linter.unusedSimpArgs false
namespace Go.Bd
open Go.RowKit

section
variable {P : Program} {ops : Array Oper} {Q : Act → World → Prop} {md : Region.Mode}
def xOp (P : Program) (ops : Array Oper) (i : Nat) (K : Act → World → Prop) (a : Act) (w : World) : Prop :=
  match ops[i]? with
  | none => K a w
  | some o => if Region.wanted o (yielded ops a.tmps) then opX P o a w (fun v w' => K (a.put o.dst v) w') else K (a.put o.dst undef) w
theorem xOp_mono {i : Nat} {K K' : Act → World → Prop} {a : Act} {w : World} (h : ∀ a w, K a w → K' a w) (hh : xOp P ops i K a w) : xOp P ops i K' a w := by
  unfold xOp at *
  split
  · exact h _ _ (by simpa [*] using hh)
  · rename_i o ho
    simp only [ho] at hh
    split
    · rename_i hw; simp only [hw, if_true] at hh; exact upx_mono (fun v w => h _ _) hh
    · rename_i hw; simp only [hw] at hh; exact h _ _ hh
theorem wpXs_cons (i : Nat) (rest : List Nat) (a : Act) (w : World) : wpXs P ops Q (i :: rest) a w = xOp P ops i (wpXs P ops Q rest) a w := by
  cases h : ops[i]? <;> simp [wpXs, xOp, h]
def xAny (P : Program) (md : Region.Mode) (ops : Array Oper) (Q : Act → World → Prop) : Nat → Array Bool → Act → World → Prop
  | 0, listed, a, w => Region.ready md ops listed = [] ∧ Q a w
  | fuel + 1, listed, a, w =>
    (Region.ready md ops listed = [] → Q a w) ∧
    ∀ i ∈ Region.ready md ops listed, xOp P ops i (xAny P md ops Q fuel (listed.setIfInBounds i true)) a w
theorem xAny_sound : ∀ (fuel t : Nat) (listed : Array Bool) (a : Act) (w : World), xAny P md ops Q fuel listed a w →
    wpXs P ops Q (Region.linearise.go md ops fuel t listed []) a w := by
  intro fuel
  induction fuel with
  | zero => intro t listed a w h; simpa [Region.linearise.go, wpXs] using h.2
  | succ fuel ih =>
    intro t listed a w h
    obtain ⟨h₀, h₁⟩ := h
    simp only [Region.linearise.go]
    change wpXs P ops Q (match (Region.ready md ops listed)[t % (Region.ready md ops listed).length]? with
      | some i => Region.linearise.go md ops fuel (t / (Region.ready md ops listed).length) (listed.setIfInBounds i true) [i]
      | none => [].reverse) a w
    cases hi : (Region.ready md ops listed)[t % (Region.ready md ops listed).length]? with
    | none =>
      have hnil : Region.ready md ops listed = [] := by
        cases hr : Region.ready md ops listed with
        | nil => rfl
        | cons x xs =>
          rw [hr] at hi
          have hlt : t % (x :: xs).length < (x :: xs).length := Nat.mod_lt _ (by simp)
          simp at hi
          simp at hlt
          omega
      simpa [wpXs] using h₀ hnil
    | some i =>
      simp only []
      rw [linearise_go_acc, List.reverse_singleton, List.singleton_append, wpXs_cons]
      exact xOp_mono (fun a w => ih _ _ a w) (h₁ i (List.mem_of_getElem? hi))
end

section
variable {P : Program} {fn : Func} {E : Fin} {n : Sz} {k : List Item} {f : Fr} {w : World}
theorem G.anyOrder {id : Nat} {ops : Array Oper} (hm : P.follows .mixedOrders = true)
    (h : ∀ a, St n f a → xAny P .any ops (GoA P fn E n k) ops.size (Array.replicate ops.size false) a { w with drawn := w.drawn + 1 }) : G P fn E n (.code (.region id ops true) :: k) f w := by
  intro a ha b cs hb hr hf
  have h1 := xAny_sound ops.size (w.tape w.drawn (.order b.fn id)) _ a _ (h a ha)
  have h2 := GoA.of_wpXs (P := P) (fn := fn) (E := E) (n := n) (k := k) (ops := ops) _ a _ h1
  obtain ⟨m, hE, hm'⟩ := h2 b cs hb hr hf
  refine ⟨m, hE, Steps.head stepR_region_draw ?_⟩
  simp only [Region.schedule, hm, Bool.true_or, if_true]
  exact hm'
theorem ext_draw (w : World) : Ext w { w with drawn := w.drawn + 1 } := ⟨rfl, rfl, rfl, Nat.le_refl _, fun _ _ => rfl⟩
end

/-! ### 1. All is quiet -/
section
variable {P : Program} {ops : Array Oper} {md : Region.Mode} {C : World → Prop}
theorem opX_of_quiet {o : Oper} {a : Act} {K : Act → Prop} {K' : Act → World → Prop} {w : World} (hw : C w) (h : ∀ a w', C w' → K a → K' a w') (hh : o.quiet P a C K) : opX P o a w (fun v w' => K' (a.put o.dst v) w') := by
  obtain ⟨v, h1, h2⟩ := hh
  have h3 := h1 w hw
  unfold Oper.quietAt at h3
  unfold opX
  generalize (execOp a.eval o).run P w = r at *
  cases r with
  | ok n w' =>
    cases n <;> simp only [Oper.quietUpon] at h3 <;> simp only [upx]
    case value u => obtain ⟨e1, e2⟩ := h3; rw [e1, e2]; exact h _ _ hw h2
    case skip => obtain ⟨e1, e2⟩ := h3; rw [e1, ← e2]; exact h _ _ hw h2
    case enter f args =>
      obtain ⟨e1, hc⟩ := h3
      rw [e1]
      exact hc.mono fun e w'' ⟨he, hw''⟩ => ⟨v, he, h _ _ hw'' h2⟩
  | halt x w' => simp only [Oper.quietUpon] at h3
theorem xAny_of_quiet {Q : Act → Prop} {Q' : Act → World → Prop} (hQ : ∀ a w, C w → Q a → Q' a w) : ∀ (fuel : Nat) (listed : Array Bool) (a : Act) (w : World), C w →
    wpAnyQ P md ops C Q fuel listed a → xAny P md ops Q' fuel listed a w
  | 0, _, _, _, hw, h => ⟨h.1, hQ _ _ hw h.2⟩
  | fuel + 1, listed, a, w, hw, h => ⟨fun h0 => hQ _ _ hw (h.1 h0), fun i hi => by
      have hh := h.2 i hi
      unfold qOp at hh
      unfold xOp
      split
      · rename_i ho; simp only [ho] at hh; exact xAny_of_quiet hQ fuel _ _ _ hw hh
      · rename_i o ho
        simp only [ho] at hh
        split
        · rename_i hwn; simp only [hwn, if_true] at hh; exact opX_of_quiet hw (fun a' w' hw' => xAny_of_quiet hQ fuel _ a' w' hw') hh
        · rename_i hwn; simp only [hwn] at hh; exact xAny_of_quiet hQ fuel _ _ _ hw hh⟩
end
section
variable (P : Program) (n : Sz) (Q : Act → World → Prop)
def GQ (ops : Array Oper) (rest : List Oper) (f : Fr) (w : World) : Prop :=
  ∀ a, St n f a → wpQuiet P ops (fun w' => Ext w w') (fun a' => ∀ w', Ext w w' → Q a' w') rest a
end
section
variable {P : Program} {fn : Func} {E : Fin} {n : Sz} {Q : Act → World → Prop} {k : List Item} {f : Fr} {w : World} {ops : Array Oper} {rest : List Oper}
theorem G.quiet {id : Nat} {l : List Oper} (hm : P.follows .mixedOrders = true) (hB : Region.lexB .any l.toArray = true) (h : GQ P n (GoA P fn E n k) l.toArray l f w) : G P fn E n (.code (.region id l.toArray true) :: k) f w := by
  refine G.anyOrder hm fun a ha => ?_
  simp only [Region.lexB, Bool.and_eq_true] at hB
  refine xAny_of_quiet (C := fun w' => Ext w w') (Q := fun a' => ∀ w', Ext w w' → GoA P fn E n k a' w') (fun _ w' hw' h => h w' hw') _ _ _ _ (ext_draw w) ?_
  have := wpAnyQ_lex (C := fun w' => Ext w w') (md := .any) hB.1 l 0 (Array.replicate l.length false) a (by simp) (by simpa using hB.2) (h a ha)
  simpa using this
theorem GQ.nil (h : ∀ w', Ext w w' → G P fn E n k f w') : GQ P n (GoA P fn E n k) ops [] f w := fun a ha w' he => h w' he a ha
theorem GQ.pass {d : Nat} {o : Oper} (hw : want ops f o.guard = some false) (hd : o.dst = some d) (hlt : Nat.blt d n.size = true)
    (h : GQ P n Q ops rest ((d, undef) :: f) w) : GQ P n Q ops (o :: rest) f w := fun a ha => by
  unfold wpQuiet
  rw [if_neg (by rw [wanted_of ha hw]; simp), hd]
  exact h _ (ha.put hlt _)
theorem GQ.yields {d : Nat} {o : Oper} {v : Value} (hw : want ops f o.guard = some true) (hd : o.dst = some d) (hlt : Nat.blt d n.size = true)
    (hr : ∀ w', Ext w w' → ∀ a, St n f a → (execOp a.eval o).run P w' = .ok (.value v) w') (h : GQ P n Q ops rest ((d, v) :: f) w) : GQ P n Q ops (o :: rest) f w := fun a ha => by
  unfold wpQuiet
  rw [if_pos (wanted_of ha hw)]
  refine ⟨v, fun w' he => ?_, ?_⟩
  · unfold Oper.quietAt
    rw [hr w' he a ha]
    exact ⟨rfl, rfl⟩
  · rw [hd]
    exact h _ (ha.put hlt _)
variable {d : Nat} {ty : TypeId} {pos : String} {aft : Array Edge} {g : Option (Nat × Bool)}
theorem GQ.call {gf : FuncId} {args : Array Operand} {tys : Array TypeId} {vs : List Value} {v : Value} (hw : want ops f g = some true) (hlt : Nat.blt d n.size = true) (hxs : evs f args.toList = some vs)
    (hc : ∀ w', Ext w w' → Does P gf vs.toArray w' fun u w'' => u = v ∧ Ext w' w'')
    (h : GQ P n Q ops rest ((d, v) :: f) w) : GQ P n Q ops (⟨some d, .call { callee := .value (.func gf), args := args, argTypes := tys }, ty, pos, aft, g⟩ :: rest) f w := fun a ha => by
  unfold wpQuiet
  rw [if_pos (wanted_of ha hw)]
  refine ⟨v, fun w' he => ?_, h _ (ha.put hlt _)⟩
  obtain ⟨⟨fn', hen⟩, hcalls⟩ := hc w' he
  have e1 : args.map a.eval = vs.toArray := by
    apply Array.ext'
    simp only [Array.toList_map]
    exact evs_map ha _ _ hxs
  have hrun : (execOp a.eval ⟨some d, .call { callee := .value (.func gf), args := args, argTypes := tys }, ty, pos, aft, g⟩).run P w' = .ok (.enter gf vs.toArray) w' := by
    simp [execOp, resolve, Act.eval, Deferred.ofValue, e1, invoke, run_callFunc hen]
  unfold Oper.quietAt
  rw [hrun]
  refine ⟨rfl, hcalls.mono fun e w'' hR => ?_⟩
  obtain ⟨u, rfl, rfl, he'⟩ := hR
  exact ⟨rfl, he.trans he'⟩
end
end Go.Bd
