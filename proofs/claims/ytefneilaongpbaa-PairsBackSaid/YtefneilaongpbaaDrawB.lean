/-
  REGIONS THAT DRAW THEIR ORDER: THE RULE BY FACTS: of each operation alone, what it leaves in its slot, out of what those that it waits for have left.
-/
import Derived.Test.YtefneilaongpbaaDrawT
set_option linter.unusedVariables false
set_option linter.unusedSimpArgs false
namespace Go.Bd
open Go.RowKit

def dstAt (l : List Oper) (i : Nat) : Nat := ((l[i]?).bind (·.dst)).getD 0
def keysB (f : Fr) (d : Nat) : Bool := f.all fun x => !Nat.beq x.1 d
/-- The first m operations write slots of their own, that the frame says nothing of. -/
def slotsB (l : List Oper) (m N : Nat) : Bool := (List.range m).all fun i => (match (l[i]?).bind (·.dst) with | some d => Nat.blt d N | none => false) && (List.range i).all fun j => !Nat.beq (dstAt l j) (dstAt l i)
def freshB (l : List Oper) (m : Nat) (f : Fr) : Bool := (List.range m).all fun i => keysB f (dstAt l i)
def depsL (l : List Oper) (i : Nat) : List Nat := match l[i]? with
  | none => []
  | some o => ((o.after.toList.filter fun e => match e.ground with | .data | .guard => true | _ => false).map (·.on)).eraseDups
theorem depsL_dep {l : List Oper} {i j : Nat} (h : j ∈ depsL l i) : depOn l.toArray i j := by
  unfold depsL at h
  cases ho : l[i]? with
  | none => simp [ho] at h
  | some o =>
    simp only [ho, List.mem_eraseDups, List.mem_map, List.mem_filter] at h
    obtain ⟨e, ⟨he, hg⟩, rfl⟩ := h
    refine ⟨o, by simpa using ho, e, he, ?_, rfl⟩
    unfold Region.binds
    cases hgr : e.ground <;> simp_all
theorem slots_spec {l : List Oper} {m N : Nat} (h : slotsB l m N = true) : (∀ i, i < m → ∃ o, l[i]? = some o ∧ o.dst = some (dstAt l i) ∧ Nat.blt (dstAt l i) N = true) ∧ (∀ i j, i < m → j < m → i ≠ j → dstAt l i ≠ dstAt l j) := by
  have h1 : ∀ i, i < m → (match (l[i]?).bind (·.dst) with | some d => Nat.blt d N | none => false) = true ∧ ∀ j, j < i → dstAt l j ≠ dstAt l i := fun i hi => by
    have := List.all_eq_true.1 h i (by simpa using hi)
    simp only [Bool.and_eq_true] at this
    refine ⟨this.1, fun j hj => ?_⟩
    have := List.all_eq_true.1 this.2 j (by simpa using hj)
    simp only [Bool.not_eq_true'] at this
    exact Nat.ne_of_beq_eq_false this
  refine ⟨fun i hi => ?_, fun i j hi hj hne => ?_⟩
  · have h2 := (h1 i hi).1
    cases ho : l[i]? with
    | none => simp [ho] at h2
    | some o =>
      cases hd : o.dst with
      | none => simp [ho, hd] at h2
      | some d => exact ⟨o, rfl, by simp [dstAt, ho, hd], by simpa [dstAt, ho, hd] using h2⟩
  · rcases Nat.lt_or_gt_of_ne hne with h3 | h3
    · exact (h1 j hj).2 i h3
    · exact fun e => (h1 i hi).2 j h3 e.symm
theorem fresh_spec {l : List Oper} {m : Nat} {f : Fr} (h : freshB l m f = true) : ∀ i, i < m → Fr.get f (dstAt l i) = none := fun i hi => by
  have h1 := List.all_eq_true.1 h i (by simpa using hi)
  unfold keysB at h1
  induction f with
  | nil => rfl
  | cons x f ih =>
    simp only [List.all_cons, Bool.and_eq_true, Bool.not_eq_true'] at h1
    rw [Fr.get_cons, if_neg (Nat.ne_of_beq_eq_false h1.1)]
    refine ih ?_ h1.2
    rw [freshB] at h ⊢
    rw [List.all_eq_true] at h ⊢
    intro j hj
    have := h j hj
    unfold keysB at this ⊢
    simp only [List.all_cons, Bool.and_eq_true] at this
    exact this.2

section
variable (P : Program) (n : Sz) (l : List Oper) (V : Nat → Value → World → Prop) (w w' : World)
def ObD (Q : Act → World → Prop) (o : Oper) : List Nat → Fr → Prop
  | [], f => GL P n Q l.toArray [o] f w'
  | j :: js, f => ∀ v, V j v w' → ObD Q o js ((dstAt l j, v) :: f)
def ObI (f0 : Fr) (i : Nat) : Prop := ∀ w', Ext w w' → match l[i]? with
  | none => False
  | some o => ObD P n l V w' (fun a w'' => ∃ v, a.tmps[dstAt l i]? = some v ∧ Ext w' w'' ∧ V i v w'') o (depsL l i) f0
def Obs (f0 : Fr) : Nat → Nat → Prop
  | _, 0 => True
  | i, k + 1 => ObI P n l V w f0 i ∧ Obs f0 (i + 1) k
def FinD (Q : Act → World → Prop) (m : Nat) : Nat → Nat → Fr → Prop
  | _, 0, f => GL P n Q l.toArray (l.drop m) f w'
  | i, k + 1, f => ∀ v, V i v w' → FinD Q m (i + 1) k ((dstAt l i, v) :: f)
end
section
variable {P : Program} {fn : Func} {E : Fin} {n : Sz} {k : List Item} {f : Fr} {w : World}
theorem Obs.at {l : List Oper} {V : Nat → Value → World → Prop} {f0 : Fr} : ∀ (k i : Nat), Obs P n l V w f0 i k → ∀ j, i ≤ j → j < i + k → ObI P n l V w f0 j
  | 0, i, _, j, h1, h2 => by omega
  | k + 1, i, h, j, h1, h2 => by
    rcases Nat.eq_or_lt_of_le h1 with e | e
    · subst e; exact h.1
    · exact Obs.at k (i + 1) h.2 j (by omega) (by omega)
theorem ObD.use {l : List Oper} {V : Nat → Value → World → Prop} {w' : World} {Q : Act → World → Prop} {o : Oper} {a : Act} : ∀ (js : List Nat) (f : Fr), ObD P n l V w' Q o js f → St n f a → (∀ j ∈ js, ∃ v, a.tmps[dstAt l j]? = some v ∧ V j v w') → wpX P l.toArray Q [o] a w'
  | [], f, h, ha, _ => h a ha
  | j :: js, f, h, ha, hj => by
    obtain ⟨v, hv, hV⟩ := hj j (by simp)
    refine ObD.use js _ (h v hV) ⟨ha.size, ha.defers, fun t u ht => ?_⟩ (fun q hq => hj q (by simp [hq]))
    rw [Fr.get_cons] at ht
    by_cases e : dstAt l j = t
    · subst e; rw [if_pos rfl] at ht; cases ht; exact hv
    · rw [if_neg e] at ht; exact ha.at_ t u ht
theorem FinD.use {l : List Oper} {V : Nat → Value → World → Prop} {w' : World} {Q : Act → World → Prop} {m : Nat} {a : Act} : ∀ (k i : Nat) (f : Fr), FinD P n l V w' Q m i k f → St n f a → (∀ j, i ≤ j → j < i + k → ∃ v, a.tmps[dstAt l j]? = some v ∧ V j v w') → wpX P l.toArray Q (l.drop m) a w'
  | 0, i, f, h, ha, _ => h a ha
  | k + 1, i, f, h, ha, hj => by
    obtain ⟨v, hv, hV⟩ := hj i (Nat.le_refl _) (by omega)
    refine FinD.use k (i + 1) _ (h v hV) ⟨ha.size, ha.defers, fun t u ht => ?_⟩ (fun q h1 h2 => hj q (by omega) (by omega))
    rw [Fr.get_cons] at ht
    by_cases e : dstAt l i = t
    · subst e; rw [if_pos rfl] at ht; cases ht; exact hv
    · rw [if_neg e] at ht; exact ha.at_ t u ht

theorem G.draw {id : Nat} {l : List Oper} (m : Nat) (f0 : Fr) (V : Nat → Value → World → Prop) (hfo : P.follows .mixedOrders = true) (hm : Nat.ble m l.length = true) (hB : tailB l m = true) (hS : slotsB l m n.size = true) (hF : freshB l m f0 = true) (hsub : Fr.sub f0 f)
    (mono : ∀ i v w1 w2, Ext w1 w2 → V i v w1 → V i v w2)
    (obs : ∀ w0, Ext w w0 → Obs P n l V w0 f0 0 m)
    (fin : ∀ w', Ext w w' → FinD P n l V w' (GoA P fn E n k) m 0 m f0) : G P fn E n (.code (.region id l.toArray true) :: k) f w := by
  refine G.anyOrder hfo fun a ha => ?_
  have hm' : m ≤ l.length := by simpa [Nat.ble_eq] using hm
  obtain ⟨hs1, hs2⟩ := slots_spec hS
  have hfr := fresh_spec hF
  have hw0 : Ext w { w with drawn := w.drawn + 1 } := ext_draw w
  generalize hgw : ({ w with drawn := w.drawn + 1 } : World) = w0 at hw0
  refine xAny_start (m := m) hm' hB (fun listed a' w' => Ext w0 w' ∧ St n f0 a' ∧ ∀ i, i < m → listed.getD i false = true → ∃ v, a'.tmps[dstAt l i]? = some v ∧ V i v w') ?_ ?_ ?_
  · exact ⟨Below.refl _ _, ha.sub hsub, fun i hi h => by simp [Array.getD_eq_getD_getElem?, Array.getElem?_replicate] at h; split at h <;> simp at h⟩
  · rintro listed a' w' i o ho hi hls hun hdep ⟨he, hst, hfacts⟩
    have hob := Obs.at m 0 (obs w0 hw0) i (by omega) (by omega) w' he
    rw [ho] at hob
    simp only at hob
    obtain ⟨o', ho', hd, hlt⟩ := hs1 i hi
    rw [ho] at ho'
    cases ho'
    have hback := (tailB_spec hB).1
    have huse := ObD.use (a := a') (depsL l i) f0 hob hst (fun j hj => by
      have hdj := depsL_dep hj
      exact hfacts j (Nat.lt_trans (hback i j hdj) hi) (hdep j hdj))
    have hdlt : dstAt l i < a'.tmps.size := by rw [hst.size]; simpa [Nat.blt_eq] using hlt
    have hnext : ∀ v w'', (∃ u, (a'.put o.dst v).tmps[dstAt l i]? = some u ∧ Ext w' w'' ∧ V i u w'') → Ext w0 w'' ∧ St n f0 (a'.put o.dst v) ∧ ∀ j, j < m → (listed.setIfInBounds i true).getD j false = true → ∃ u, (a'.put o.dst v).tmps[dstAt l j]? = some u ∧ V j u w'' := by
      rintro v w'' ⟨u, hu, he', hV⟩
      refine ⟨he.trans he', ?_, fun j hj hlj => ?_⟩
      · rw [hd]
        exact (hst.put hlt v).sub fun t x ht => by
          rw [Fr.get_cons]
          by_cases e : dstAt l i = t
          · subst e; rw [hfr i hi] at ht; cases ht
          · rw [if_neg e]; exact ht
      · by_cases e : i = j
        · subst e; exact ⟨u, hu, hV⟩
        · rw [getD_set _ _ _ (by omega), if_neg e] at hlj
          obtain ⟨x, hx, hVx⟩ := hfacts j hj hlj
          refine ⟨x, ?_, mono j x _ _ he' hVx⟩
          rw [hd]
          simp only [Act.put]
          rw [Array.getElem?_setIfInBounds_ne (hs2 i j hi hj e)]
          exact hx
    unfold xOp
    rw [show l.toArray[i]? = some o by simpa using ho]
    simp only
    unfold wpX at huse
    split at huse
    · rename_i hw
      rw [if_pos hw]
      refine upx_mono (fun v w'' h => ?_) huse
      exact hnext v w'' (by simpa [wpX] using h)
    · rename_i hw
      rw [if_neg hw]
      exact hnext undef w' (by simpa [wpX] using huse)
  · rintro listed a' w' hall ⟨he, hst, hfacts⟩
    exact FinD.use m 0 f0 (fin w' (hw0.trans he)) hst fun j _ hj => hfacts j (by omega) (hall j (by omega))
end
end Go.Bd
