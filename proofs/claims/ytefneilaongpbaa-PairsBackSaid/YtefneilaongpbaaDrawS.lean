/-
  REGIONS THAT DRAW THEIR ORDER AND MAKE MEMORY: one walk in one order of one's choosing.
-/
import Derived.Test.YtefneilaongpbaaDrawQ
set_option linter.unusedVariables false
set_option linter.unusedSimpArgs false
namespace Go.Bd
open Go.RowKit

section
variable (P : Program) (ops : Array Oper) (Q : Act → World → Prop)
/-- What an operation yields in every later world. -/
def qX (o : Oper) (a : Act) (w : World) (v : Value) : Prop := ∀ w', Ext w w' → opX P o a w' fun u w'' => u = v ∧ Ext w' w''
/-- The operations in the order of the walk; those that are marked may make memory that is handed on. -/
def wpS : List (Oper × Bool) → Act → World → Prop
  | [], a, w => ∀ w', Ext w w' → Q a w'
  | (o, b) :: rest, a, w => if Region.wanted o (yielded ops a.tmps) then
      (match b with
        | true => ∀ w', Ext w w' → opX P o a w' fun v w'' => Ext w' w'' ∧ wpS rest (a.put o.dst v) w''
        | false => ∃ v, qX P o a w v ∧ wpS rest (a.put o.dst v) w)
    else wpS rest (a.put o.dst undef) w
end
section
variable {P : Program} {ops : Array Oper} {Q : Act → World → Prop}
theorem opX_congr {o : Oper} {a b : Act} {w : World} {K : Value → World → Prop} (h : execOp a.eval o = execOp b.eval o) : opX P o a w K = opX P o b w K := by
  unfold opX; rw [h]
theorem wanted_congr {o : Oper} {a b : Act} (h : ∀ t ∈ o.looksAt ops, a.tmps[t]? = b.tmps[t]?) : Region.wanted o (yielded ops a.tmps) = Region.wanted o (yielded ops b.tmps) := by
  unfold Region.wanted
  cases hg : o.guard with
  | none => rfl
  | some g =>
    simp only
    rw [yielded_congr fun d hd => h d (by
      unfold Oper.looksAt
      refine List.mem_append.2 (.inr ?_)
      rw [hg]
      simpa using hd)]
theorem exec_congr {o : Oper} {a b : Act} (hs : ∀ cs b, o.op ≠ .select cs b) (h : ∀ t ∈ o.looksAt ops, a.tmps[t]? = b.tmps[t]?) : execOp a.eval o = execOp b.eval o :=
  execOp_congr o hs fun x hx => by
    cases x with
    | tmp t =>
      have : t ∈ o.looksAt ops := by
        unfold Oper.looksAt
        refine List.mem_append.2 (.inl ?_)
        exact List.mem_filterMap.2 ⟨.tmp t, by simpa using hx, rfl⟩
      simp only [Act.eval, Array.getD_eq_getD_getElem?, h t this]
    | _ => rfl
/-- What is settled of an operation that is not yet run. -/
def Yq (P : Program) (ops : Array Oper) (o : Oper) (V : Act) (w : World) (v : Value) : Prop :=
  (Region.wanted o (yielded ops V.tmps) = true ∧ qX P o V w v) ∨ (Region.wanted o (yielded ops V.tmps) = false ∧ v = undef)
theorem Yq.congr {o : Oper} {V V' : Act} {w w' : World} {v : Value} (hs : ∀ cs b, o.op ≠ .select cs b) (h : ∀ t ∈ o.looksAt ops, V'.tmps[t]? = V.tmps[t]?) (he : Ext w w') (hy : Yq P ops o V w v) : Yq P ops o V' w' v := by
  have e1 := wanted_congr (ops := ops) h
  rcases hy with ⟨h1, h2⟩ | ⟨h1, h2⟩
  · refine .inl ⟨e1.trans h1, fun w'' he' => ?_⟩
    rw [opX_congr (exec_congr (ops := ops) hs h)]
    exact h2 w'' (he.trans he')
  · exact .inr ⟨e1.trans h1, h2⟩
end

def o0 : Oper := ⟨none, .move (.const undef), 0, "", #[], none⟩
abbrev opAt (l : List Oper) (i : Nat) : Oper := l.getD i o0
/-- The order of the walk, with its marks. -/
def flags (l : List Oper) (A : List Nat) (π : List Nat) : List (Oper × Bool) := π.map fun i => (l.getD i o0, A.contains i)
/-- What the order must keep. -/
def Good (l : List Oper) (A : List Nat) (m : Nat) : List Nat → Prop
  | [] => True
  | i :: rest => i < m ∧ (∀ cs b, (opAt l i).op ≠ .select cs b) ∧ (∀ j ∈ i :: rest, dstAt l j ∉ (opAt l i).looksAt l.toArray) ∧ (∀ j ∈ rest, j ≠ i) ∧ (A.contains i = true → ∀ j ∈ rest, Reach l.toArray i j) ∧ Good l A m rest
def goodB (l : List Oper) (A : List Nat) (m : Nat) (K : List Nat) : List Nat → Bool
  | [] => true
  | i :: rest => Nat.blt i m && (match (opAt l i).op with | .select _ _ => false | _ => true) && ((i :: rest).all fun j => ((opAt l i).looksAt l.toArray).all fun t => !Nat.beq (dstAt l j) t) && (rest.all fun j => !Nat.beq j i) && (!A.contains i || rest.all fun j => (K.getD j 0).testBit i) && goodB l A m K rest
theorem good_of {l : List Oper} {A : List Nat} {m : Nat} : ∀ (π : List Nat), goodB l A m (masks l []) π = true → Good l A m π
  | [], _ => trivial
  | i :: rest, h => by
    simp only [goodB, Bool.and_eq_true] at h
    obtain ⟨⟨⟨⟨⟨h1, h2⟩, h3⟩, h4⟩, h5⟩, h6⟩ := h
    refine ⟨by simpa [Nat.blt_eq] using h1, fun cs b e => (by rw [e] at h2; simp at h2), fun j hj ht => ?_, fun j hj e => ?_, fun hA j hj => ?_, good_of rest h6⟩
    · have := List.all_eq_true.1 (List.all_eq_true.1 h3 j hj) _ ht
      simp only [Bool.not_eq_true'] at this
      exact Nat.ne_of_beq_eq_false this rfl
    · have := List.all_eq_true.1 h4 j hj
      simp only [Bool.not_eq_true'] at this
      exact Nat.ne_of_beq_eq_false this e
    · simp only [hA, Bool.not_true, Bool.false_or] at h5
      have h7 := List.all_eq_true.1 h5 j hj
      cases hk : (masks l [])[j]? with
      | none => simp [List.getD, hk] at h7
      | some k =>
        simp only [List.getD, hk, Option.getD_some] at h7
        exact masks_ok (ops := l.toArray) l [] (fun i => by simp) (fun i m hi => by simp at hi) j k hk i h7

section
variable {P : Program} {l : List Oper} {A : List Nat} {m : Nat} {Q : Act → World → Prop}
/-- The quiet ones at the front are settled. -/
theorem settle (hdst : ∀ i, i < m → (opAt l i).dst = some (dstAt l i)) (hne : ∀ i j, i < m → j < m → i ≠ j → dstAt l i ≠ dstAt l j) : ∀ (π : List Nat) (V : Act) (wb : World), Good l A m π → (∀ i ∈ π, dstAt l i < V.tmps.size) → wpS P l.toArray Q (flags l A π) V wb →
    ∃ (d t : List Nat) (V' : Act) (val : Nat → Value), π = d ++ t ∧ (∀ h r, t = h :: r → A.contains h = true) ∧ wpS P l.toArray Q (flags l A t) V' wb ∧ V'.defers = V.defers ∧ V'.tmps.size = V.tmps.size ∧
      (∀ i ∈ d, V'.tmps[dstAt l i]? = some (val i)) ∧ (∀ t, (∀ i ∈ d, dstAt l i ≠ t) → V'.tmps[t]? = V.tmps[t]?) ∧ (∀ i ∈ d, Yq P l.toArray (opAt l i) V' wb (val i))
  | [], V, wb, _, _, h => ⟨[], [], V, fun _ => undef, rfl, (fun h r e => nomatch e), h, rfl, rfl, (fun i hi => nomatch hi), (fun _ _ => rfl), (fun i hi => nomatch hi)⟩
  | i :: rest, V, wb, hg, hsz, h => by
    obtain ⟨him, hsel, hlook, hnd, hreach, hgr⟩ := hg
    cases hA : A.contains i with
    | true => exact ⟨[], i :: rest, V, fun _ => undef, rfl, (fun h r e => by cases e; exact hA), h, rfl, rfl, (fun i hi => nomatch hi), (fun _ _ => rfl), (fun i hi => nomatch hi)⟩
    | false =>
      have hlen : ∀ (rest : List Nat), Good l A m rest → ∀ j ∈ rest, j < m := by
        intro rest
        induction rest with
        | nil => intro _ j hj; cases hj
        | cons k r ih =>
          intro hg j hj
          rcases List.mem_cons.1 hj with e | e
          · subst e; exact hg.1
          · exact ih hg.2.2.2.2.2 j e
      have key : ∃ v, wpS P l.toArray Q (flags l A rest) (V.put (opAt l i).dst v) wb ∧ Yq P l.toArray (opAt l i) V wb v := by
        simp only [flags, List.map_cons, wpS, hA] at h
        by_cases hw : Region.wanted (opAt l i) (yielded l.toArray V.tmps) = true
        · rw [if_pos hw] at h
          obtain ⟨v, h1, h2⟩ := h
          exact ⟨v, h2, .inl ⟨hw, h1⟩⟩
        · rw [if_neg hw] at h
          exact ⟨undef, h, .inr ⟨by simpa using hw, rfl⟩⟩
      obtain ⟨v, hk, hy⟩ := key
      have hd := hdst i him
      rw [hd] at hk
      have hdl := hsz i (by simp)
      obtain ⟨d, t, V', val, e1, e2, e3, e4, e5, e6, e7, e8⟩ := settle hdst hne rest (V.put (some (dstAt l i)) v) wb hgr (fun j hj => by simpa [Act.put] using hsz j (by simp [hj])) hk
      have hdm : ∀ j ∈ d, j < m := fun j hj => hlen rest hgr j (by rw [e1]; simp [hj])
      have hdi : ∀ j ∈ d, j ≠ i := fun j hj => hnd j (by rw [e1]; simp [hj])
      refine ⟨i :: d, t, V', fun j => if j = i then v else val j, by rw [e1]; rfl, e2, e3, by rw [e4]; rfl, by rw [e5]; simp [Act.put], fun j hj => ?_, fun s hs => ?_, fun j hj => ?_⟩
      · rcases List.mem_cons.1 hj with e | e
        · subst e
          simp only [if_true]
          rw [e7 _ fun q hq => hne q j (hdm q hq) him (hdi q hq)]
          simp [Act.put, hdl]
        · simp only [if_neg (hdi j e)]
          exact e6 j e
      · rw [e7 s fun q hq => hs q (by simp [hq])]
        simp only [Act.put]
        rw [Array.getElem?_setIfInBounds_ne (hs i (by simp))]
      · rcases List.mem_cons.1 hj with e | e
        · subst e
          simp only [if_true]
          refine hy.congr hsel (fun s hs => ?_) (Ext.refl _)
          rw [e7 s fun q hq e => hlook q (by rw [e1]; simp [hq]) (by rw [e]; exact hs)]
          simp only [Act.put]
          rw [Array.getElem?_setIfInBounds_ne (fun e => hlook j (by simp) (by rw [e]; exact hs))]
        · simp only [if_neg (hdi j e)]
          exact e8 j e
end
end Go.Bd
