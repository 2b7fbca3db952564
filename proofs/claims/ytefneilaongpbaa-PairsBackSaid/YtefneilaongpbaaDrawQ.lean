/-
  REGIONS THAT DRAW THEIR ORDER: quiet operations ahead of a tail: one walk in the text's order.
-/
import Derived.Test.YtefneilaongpbaaDrawB
set_option linter.unusedVariables false
set_option linter.unusedSimpArgs false
namespace Go.Bd
open Go.RowKit

def runv : List Oper → List Value → Act → Act
  | o :: os, v :: vs, a => runv os vs (a.put o.dst v)
  | _, _, a => a
theorem runv_nil (vs : List Value) (a : Act) : runv [] vs a = a := by cases vs <;> rfl
section
variable {P : Program} {ops : Array Oper} {C : World → Prop}
theorem quiet_vals {Q : Act → Prop} : ∀ (M : List Oper) (a : Act), wpQuiet P ops C Q M a → ∃ vs : List Value, vs.length = M.length ∧ (∀ i o, M[i]? = some o → YieldsIn P ops C o (vs.getD i undef) (runv (M.take i) (vs.take i) a)) ∧ Q (runv M vs a)
  | [], a, h => ⟨[], rfl, fun i o hi => by simp at hi, h⟩
  | o :: M, a, h => by
    unfold wpQuiet at h
    by_cases hw : Region.wanted o (yielded ops a.tmps) = true
    · rw [if_pos hw] at h
      obtain ⟨v, hv, hn⟩ := h
      obtain ⟨vs, h1, h2, h3⟩ := quiet_vals M _ hn
      refine ⟨v :: vs, by simp [h1], fun i o' hi => ?_, h3⟩
      cases i with
      | zero => simp at hi; subst hi; exact .inl ⟨by simpa [runv_nil] using hw, by simpa [runv_nil] using hv⟩
      | succ i => simp at hi; simpa [runv] using h2 i o' hi
    · rw [if_neg hw] at h
      obtain ⟨vs, h1, h2, h3⟩ := quiet_vals M _ h
      refine ⟨undef :: vs, by simp [h1], fun i o' hi => ?_, h3⟩
      cases i with
      | zero => simp at hi; subst hi; exact .inr ⟨by simpa [runv_nil] using hw, rfl⟩
      | succ i => simp at hi; simpa [runv] using h2 i o' hi
theorem runv_defers : ∀ (M : List Oper) (vs : List Value) (a : Act), (runv M vs a).defers = a.defers
  | [], vs, a => by rw [runv_nil]
  | o :: M, [], a => rfl
  | o :: M, v :: vs, a => by rw [runv, runv_defers M vs]; cases o.dst <;> rfl
theorem runv_size : ∀ (M : List Oper) (vs : List Value) (a : Act), (runv M vs a).tmps.size = a.tmps.size
  | [], vs, a => by rw [runv_nil]
  | o :: M, [], a => rfl
  | o :: M, v :: vs, a => by rw [runv, runv_size M vs]; cases o.dst <;> simp [Act.put]
theorem put_other {o : Oper} {a : Act} {v : Value} {t : Nat} (h : o.dst ≠ some t) : (a.put o.dst v).tmps[t]? = a.tmps[t]? := by
  cases hd : o.dst with
  | none => rfl
  | some d => simp only [Act.put]; rw [Array.getElem?_setIfInBounds_ne (fun e => h (by rw [hd, e]))]
theorem runv_other : ∀ (M : List Oper) (vs : List Value) (a : Act) (t : Nat), (∀ o ∈ M, o.dst ≠ some t) → (runv M vs a).tmps[t]? = a.tmps[t]?
  | [], vs, a, t, _ => by rw [runv_nil]
  | o :: M, [], a, t, _ => rfl
  | o :: M, v :: vs, a, t, h => by rw [runv, runv_other M vs _ t (fun o' ho' => h o' (by simp [ho'])), put_other (h o (by simp))]
theorem runv_at : ∀ (M : List Oper) (vs : List Value) (a : Act) (j d : Nat) (o : Oper), vs.length = M.length → M[j]? = some o → o.dst = some d → d < a.tmps.size → (∀ i o', M[i]? = some o' → i ≠ j → o'.dst ≠ some d) → (runv M vs a).tmps[d]? = some (vs.getD j undef)
  | [], vs, a, j, d, o, _, h, _, _, _ => by simp at h
  | o :: M, [], a, j, d, o1, hl, _, _, _, _ => by simp at hl
  | o :: M, v :: vs, a, j, d, o1, hl, h, hd, hlt, hne => by
    rw [runv]
    cases j with
    | zero =>
      simp at h
      subst h
      rw [runv_other M vs _ d (fun o' ho' => by
        obtain ⟨i, hi⟩ := List.mem_iff_getElem?.1 ho'
        exact hne (i + 1) o' (by simpa using hi) (by omega))]
      rw [hd]
      simp [Act.put, hlt]
    | succ j =>
      simp at h
      rw [runv_at M vs (a.put o.dst v) j d o1 (by simpa using hl) h hd (by cases o.dst <;> simpa [Act.put] using hlt) (fun i o' hi hij => hne (i + 1) o' (by simpa using hi) (by omega))]
      simp
end

/-- Each of the first m operations waits for those whose slots it looks at. -/
def operB (l : List Oper) (m : Nat) : Bool := (List.range m).all fun i => match l[i]? with
  | none => false
  | some o => (match o.op with | .select _ _ => false | _ => true) && (o.looksAt l.toArray).all fun t => (List.range m).all fun j => !Nat.beq (dstAt l j) t || (o.after.toList.any fun e => Region.binds .any e && Nat.beq e.on j)
theorem operB_spec {l : List Oper} {m : Nat} (h : operB l m = true) : ∀ i o, i < m → l[i]? = some o → (∀ cs b, o.op ≠ .select cs b) ∧ ∀ t ∈ o.looksAt l.toArray, ∀ j, j < m → dstAt l j = t → depOn l.toArray i j := by
  intro i o hi ho
  have h1 := List.all_eq_true.1 h i (by simpa using hi)
  rw [ho] at h1
  simp only [Bool.and_eq_true] at h1
  refine ⟨fun cs b e => by rw [e] at h1; simp at h1, fun t ht j hj hd => ?_⟩
  have h2 := List.all_eq_true.1 h1.2 t ht
  have h3 := List.all_eq_true.1 h2 j (by simpa using hj)
  simp only [Bool.or_eq_true, Bool.not_eq_true'] at h3
  rcases h3 with h3 | h3
  · exact absurd hd (Nat.ne_of_beq_eq_false h3)
  · obtain ⟨e, he, hb⟩ := List.any_eq_true.1 h3
    simp only [Bool.and_eq_true] at hb
    exact ⟨o, by simpa using ho, e, he, hb.1, Nat.eq_of_beq_eq_true hb.2⟩
theorem yielded_congr {ops : Array Oper} {s t : Array Value} {g : Nat} (h : ∀ d, (ops[g]?).bind (·.dst) = some d → s[d]? = t[d]?) : yielded ops s g = yielded ops t g := by
  unfold yielded
  cases hd : (ops[g]?).bind (·.dst) with
  | none => rfl
  | some d => simp only [Option.bind_some]; rw [h d hd]

section
variable {P : Program} {fn : Func} {E : Fin} {n : Sz} {Q : Act → World → Prop} {k : List Item} {f : Fr} {w : World} {ops : Array Oper} {rest : List Oper}
theorem GQ.tail (h : ∀ w', Ext w w' → GL P n Q ops rest f w') : GQ P n (fun a w' => wpX P ops Q rest a w') ops [] f w := fun a ha w' he => h w' he a ha
def InvQ (l : List Oper) (m : Nat) (vs : List Value) (w : World) (a : Act) (listed : Array Bool) (a' : Act) (w' : World) : Prop :=
  Ext w w' ∧ a'.defers = a.defers ∧ a'.tmps.size = a.tmps.size ∧ (∀ t, (∀ j, j < m → dstAt l j ≠ t) → a'.tmps[t]? = a.tmps[t]?) ∧ (∀ j, j < m → listed.getD j false = true → a'.tmps[dstAt l j]? = some (vs.getD j undef)) ∧
      (∀ j, j < m → listed.getD j false = false → a'.tmps[dstAt l j]? = a.tmps[dstAt l j]?)
theorem G.quietTail {id : Nat} {l : List Oper} (m : Nat) (hfo : P.follows .mixedOrders = true) (hm : Nat.ble m l.length = true) (hB : tailB l m = true) (hS : slotsB l m n.size = true) (hO : operB l m = true)
    (h : GQ P n (fun a w' => wpX P l.toArray (GoA P fn E n k) (l.drop m) a w') l.toArray (l.take m) f w) : G P fn E n (.code (.region id l.toArray true) :: k) f w := by
  refine G.anyOrder hfo fun a ha => ?_
  have hm' : m ≤ l.length := by simpa [Nat.ble_eq] using hm
  obtain ⟨hs1, hs2⟩ := slots_spec hS
  have hop := operB_spec hO
  obtain ⟨hback, _⟩ := tailB_spec hB
  obtain ⟨vs, hvl, hvy, hvq⟩ := quiet_vals (C := fun w' => Ext w w') _ a (h a ha)
  have htl : (l.take m).length = m := by simp; omega
  rw [htl] at hvl
  have hdst : ∀ i, i < m → ∃ o, l[i]? = some o ∧ (l.take m)[i]? = some o ∧ o.dst = some (dstAt l i) ∧ dstAt l i < a.tmps.size := fun i hi => by
    obtain ⟨o, h1, h2, h3⟩ := hs1 i hi
    exact ⟨o, h1, by rw [List.getElem?_take, if_pos hi]; exact h1, h2, by rw [ha.size]; simpa [Nat.blt_eq] using h3⟩
  have hmem : ∀ (q : Nat) (o : Oper), q ≤ m → ∀ i, ((l.take m).take q)[i]? = some o → i < q ∧ l[i]? = some o ∧ o.dst = some (dstAt l i) := fun q o hq i hi => by
    rw [List.getElem?_take] at hi
    split at hi
    · rename_i h1
      obtain ⟨o', h2, h3, h4, _⟩ := hdst i (by omega)
      rw [h3] at hi; cases hi
      exact ⟨h1, h2, h4⟩
    · cases hi
  have hAat : ∀ q, q ≤ m → ∀ j, j < q → (runv ((l.take m).take q) (vs.take q) a).tmps[dstAt l j]? = some (vs.getD j undef) := fun q hq j hj => by
    obtain ⟨o, h1, h2, h3, h4⟩ := hdst j (by omega)
    have := runv_at ((l.take m).take q) (vs.take q) a j (dstAt l j) o (by simp; omega) (by rw [List.getElem?_take, if_pos hj]; exact h2) h3 h4 (fun i o' hi hij => by
      obtain ⟨h5, h6, h7⟩ := hmem q o' hq i hi
      rw [h7]
      exact fun e => hs2 i j (by omega) (by omega) hij (by simpa using e))
    rw [this]
    simp [List.getD, List.getElem?_take, hj]
  have hAother : ∀ q, q ≤ m → ∀ t, (∀ j, j < q → dstAt l j ≠ t) → (runv ((l.take m).take q) (vs.take q) a).tmps[t]? = a.tmps[t]? := fun q hq t ht => by
    refine runv_other _ _ _ t fun o ho => ?_
    obtain ⟨i, hi⟩ := List.mem_iff_getElem?.1 ho
    obtain ⟨h5, h6, h7⟩ := hmem q o hq i hi
    rw [h7]
    exact fun e => ht i h5 (by simpa using e)
  refine xAny_start (m := m) hm' hB (InvQ l m vs w a) ?_ ?_ ?_
  · exact ⟨ext_draw w, rfl, rfl, fun _ _ => rfl, fun i hi h => by simp [Array.getD_eq_getD_getElem?, Array.getElem?_replicate] at h; split at h <;> simp at h, fun _ _ _ => rfl⟩
  · rintro listed a' w' i o ho hi hls hun hdep ⟨he, hde, hsz, hoth, hli, hnl⟩
    obtain ⟨o', ho', ht', hd, hlt⟩ := hdst i hi
    rw [ho] at ho'
    cases ho'
    have hy := hvy i o ht'
    obtain ⟨hsel, hlook⟩ := hop i o hi ho
    have hslot : ∀ t ∈ o.looksAt l.toArray, a'.tmps[t]? = (runv ((l.take m).take i) (vs.take i) a).tmps[t]? := fun t ht => by
      by_cases hex : ∃ j, j < m ∧ dstAt l j = t
      · obtain ⟨j, hj, rfl⟩ := hex
        have hdj := hlook _ ht j hj rfl
        rw [hli j hj (hdep j hdj), hAat i (by omega) j (hback i j hdj)]
      · have hno : ∀ j, j < m → dstAt l j ≠ t := fun j hj e => hex ⟨j, hj, e⟩
        rw [hoth t hno, hAother i (by omega) t (fun j hj => hno j (by omega))]
    have hex : execOp a'.eval o = execOp (runv ((l.take m).take i) (vs.take i) a).eval o := execOp_congr o hsel fun x hx => by
      cases x with
      | tmp t =>
        have : t ∈ o.looksAt l.toArray := by
          unfold Oper.looksAt
          refine List.mem_append.2 (.inl ?_)
          exact List.mem_filterMap.2 ⟨.tmp t, by simpa using hx, rfl⟩
        simp only [Act.eval, Array.getD_eq_getD_getElem?, hslot t this]
      | _ => rfl
    have hwant : Region.wanted o (yielded l.toArray a'.tmps) = Region.wanted o (yielded l.toArray (runv ((l.take m).take i) (vs.take i) a).tmps) := by
      unfold Region.wanted
      cases hg : o.guard with
      | none => rfl
      | some g =>
        simp only
        rw [yielded_congr fun d hd' => hslot d (by
          unfold Oper.looksAt
          refine List.mem_append.2 (.inr ?_)
          rw [hg]
          simpa using hd')]
    have hy' := hy.of_same hex hwant
    have hnext : ∀ w'', Ext w w'' → InvQ l m vs w a (listed.setIfInBounds i true) (a'.put o.dst (vs.getD i undef)) w'' := fun w'' he'' => by
      refine ⟨he'', by rw [hd]; exact hde, by rw [hd]; simpa [Act.put] using hsz, fun t ht => ?_, fun j hj hlj => ?_, fun j hj hlj => ?_⟩
      · rw [put_other (by rw [hd]; exact fun e => ht i hi (by simpa using e))]; exact hoth t ht
      · by_cases e : i = j
        · subst e; rw [hd]; simp [Act.put, hsz, hlt]
        · rw [getD_set _ _ _ (by omega), if_neg e] at hlj
          rw [put_other (by rw [hd]; exact fun e' => hs2 i j hi hj e (by simpa using e'))]
          exact hli j hj hlj
      · by_cases e : i = j
        · subst e; rw [getD_set _ _ _ (by omega), if_pos rfl] at hlj; cases hlj
        · rw [getD_set _ _ _ (by omega), if_neg e] at hlj
          rw [put_other (by rw [hd]; exact fun e' => hs2 i j hi hj e (by simpa using e'))]
          exact hnl j hj hlj
    unfold xOp
    rw [show l.toArray[i]? = some o by simpa using ho]
    simp only
    rcases hy' with ⟨hw, hq⟩ | ⟨hw, hv⟩
    · rw [if_pos hw]
      exact opX_of_quiet (C := fun w' => Ext w w') (K := fun a'' => a'' = a'.put o.dst (vs.getD i undef)) (K' := fun a'' w'' => InvQ l m vs w a (listed.setIfInBounds i true) a'' w'') he (fun a'' w'' he'' e => by subst e; exact hnext w'' he'') ⟨_, hq, rfl⟩
    · rw [if_neg (by rw [hw]; simp)]
      have := hnext w' he
      rw [hv] at this
      exact this
  · rintro listed a' w' hall ⟨he, hde, hsz, hoth, hli, hnl⟩
    have e1 : a' = runv (l.take m) vs a := by
      have et : a'.tmps = (runv (l.take m) vs a).tmps := by
        apply Array.ext_getElem?
        intro t
        have e2 : runv (l.take m) vs a = runv ((l.take m).take m) (vs.take m) a := by
          have e3 : (l.take m).take m = l.take m := by rw [List.take_take, Nat.min_self]
          have e4 : vs.take m = vs := List.take_of_length_le (by omega)
          rw [e3, e4]
        rw [e2]
        by_cases hex : ∃ j, j < m ∧ dstAt l j = t
        · obtain ⟨j, hj, rfl⟩ := hex
          rw [hli j hj (hall j hj), hAat m (Nat.le_refl _) j hj]
        · have hno : ∀ j, j < m → dstAt l j ≠ t := fun j hj e => hex ⟨j, hj, e⟩
          rw [hoth t hno, hAother m (Nat.le_refl _) t hno]
      have ed : a'.defers = (runv (l.take m) vs a).defers := by rw [runv_defers, hde]
      cases a' with
      | mk t1 d1 =>
        cases hr : runv (l.take m) vs a with
        | mk t2 d2 => rw [hr] at et ed; simp only at et ed; rw [et, ed]
    rw [e1]
    exact hvq w' he
end
end Go.Bd
