/-
  REGIONS THAT DRAW THEIR ORDER, with a tail: the first m operations come in whatever order, each of the others waits for all ahead of it.
-/
import Derived.Test.YtefneilaongpbaaRange
set_option linter.unusedVariables false
set_option linter.unusedSimpArgs false
namespace Go.Bd
open Go.RowKit

def depOn (ops : Array Oper) (i j : Nat) : Prop := ∃ o, ops[i]? = some o ∧ ∃ e ∈ o.after.toList, Region.binds .any e = true ∧ e.on = j
inductive Reach (ops : Array Oper) : Nat → Nat → Prop
  | base {i j : Nat} (h : depOn ops i j) : Reach ops j i
  | step {i j l : Nat} (h : depOn ops i j) (h' : Reach ops l j) : Reach ops l i
theorem ready_iff {ops : Array Oper} {listed : Array Bool} {i : Nat} : i ∈ Region.ready .any ops listed ↔ i < ops.size ∧ listed.getD i true = false ∧ ∀ j, depOn ops i j → listed.getD j false = true := by
  unfold Region.ready depOn
  rw [List.mem_filter, List.mem_range]
  constructor
  · rintro ⟨h1, h2⟩
    simp only [Bool.and_eq_true, Bool.not_eq_true'] at h2
    obtain ⟨h2, h3⟩ := h2
    refine ⟨h1, h2, ?_⟩
    rintro j ⟨o, ho, e, he, hb, rfl⟩
    rw [ho] at h3
    simp only [Option.map_some, Option.getD_some] at h3
    rw [Array.all_eq_true'] at h3
    have := h3 e (Array.mem_toList_iff.1 he)
    simpa [hb] using this
  · rintro ⟨h1, h2, h3⟩
    refine ⟨h1, ?_⟩
    simp only [Bool.and_eq_true, Bool.not_eq_true']
    refine ⟨h2, ?_⟩
    rw [Array.getElem?_eq_getElem h1]
    simp only [Option.map_some, Option.getD_some]
    rw [Array.all_eq_true']
    intro e he
    cases hb : Region.binds .any e with
    | false => simp
    | true => simpa using h3 e.on ⟨_, Array.getElem?_eq_getElem h1, e, Array.mem_toList_iff.2 he, hb, rfl⟩
/-- What is listed is closed. -/
def Closed (ops : Array Oper) (listed : Array Bool) : Prop := ∀ i j, listed.getD i false = true → depOn ops i j → listed.getD j false = true
theorem reach_listed {ops : Array Oper} {listed : Array Bool} (hc : Closed ops listed) {l i : Nat} (hr : Reach ops l i) : (∀ j, depOn ops i j → listed.getD j false = true) → listed.getD l false = true := by
  induction hr with
  | base h => intro hd; exact hd _ h
  | step h h' ih => intro hd; exact ih fun j hj => hc _ _ (hd _ h) hj

/-! the masks -/
def maskOf (prev : List Nat) (o : Oper) : Nat := o.after.toList.foldl (fun acc e => if Region.binds .any e then acc ||| prev.getD e.on 0 ||| 2 ^ e.on else acc) 0
def masks : List Oper → List Nat → List Nat
  | [], prev => prev
  | o :: os, prev => masks os (prev ++ [maskOf prev o])
theorem mask_fold {prev : List Nat} {j : Nat} (es : List Edge) : ∀ acc, (es.foldl (fun acc e => if Region.binds .any e then acc ||| prev.getD e.on 0 ||| 2 ^ e.on else acc) acc).testBit j = true →
    acc.testBit j = true ∨ ∃ e ∈ es, Region.binds .any e = true ∧ ((prev.getD e.on 0).testBit j = true ∨ e.on = j) := by
  induction es with
  | nil => intro acc h; exact .inl (by simpa using h)
  | cons e es ih =>
    intro acc h
    simp only [List.foldl_cons] at h
    rcases ih _ h with h1 | ⟨e', he', hb, hr⟩
    · cases hb : Region.binds .any e with
      | false => rw [hb] at h1; exact .inl (by simpa using h1)
      | true =>
        rw [hb] at h1
        simp only [if_true, Nat.testBit_or, Bool.or_eq_true] at h1
        rcases h1 with (h1 | h1) | h1
        · exact .inl h1
        · exact .inr ⟨e, by simp, hb, .inl h1⟩
        · refine .inr ⟨e, by simp, hb, .inr ?_⟩
          rw [Nat.testBit_two_pow] at h1
          simpa using h1
    · exact .inr ⟨e', by simp [he'], hb, hr⟩
theorem masks_ok {ops : Array Oper} : ∀ (l : List Oper) (prev : List Nat), (∀ i, l[i]? = ops[prev.length + i]?) → (∀ i m, prev[i]? = some m → ∀ j, m.testBit j = true → Reach ops j i) →
    ∀ i m, (masks l prev)[i]? = some m → ∀ j, m.testBit j = true → Reach ops j i
  | [], prev, _, h => h
  | o :: os, prev, hl, h => by
    refine masks_ok os (prev ++ [maskOf prev o]) (fun i => by have := hl (i + 1); simp only [List.getElem?_cons_succ] at this; rw [this]; simp; congr 1; omega) ?_
    intro i m hi j hj
    rcases Nat.lt_or_ge i prev.length with h1 | h1
    · rw [List.getElem?_append_left h1] at hi
      exact h i m hi j hj
    · rw [List.getElem?_append_right h1] at hi
      have hz : i - prev.length = 0 := by
        rcases Nat.eq_zero_or_pos (i - prev.length) with hz | hz
        · exact hz
        · rw [List.getElem?_eq_none (by simp; omega)] at hi; cases hi
      rw [hz] at hi
      simp only [List.getElem?_cons_zero, Option.some.injEq] at hi
      subst hi
      have hio : ops[i]? = some o := by have := hl 0; simp only [List.getElem?_cons_zero] at this; rw [this]; congr 1; omega
      unfold maskOf at hj
      rcases mask_fold _ _ hj with h2 | ⟨e, he, hb, h2 | h2⟩
      · simp at h2
      · cases hp : prev[e.on]? with
        | none => simp [List.getD, hp] at h2
        | some q => simp [List.getD, hp] at h2; exact .step ⟨o, hio, e, he, hb, rfl⟩ (h _ q hp j h2)
      · subst h2; exact .base ⟨o, hio, e, he, hb, rfl⟩
/-- All edges lead back; from m on each waits for all ahead of it. -/
def tailB (l : List Oper) (m : Nat) : Bool :=
  (l.zipIdx.all fun (o, i) => o.after.toList.all fun e => !Region.binds .any e || Nat.blt e.on i) &&
  ((masks l []).zipIdx.all fun (k, i) => Nat.blt i m || Nat.beq k (2 ^ i - 1)) && Nat.beq (masks l []).length l.length
theorem tailB_spec {l : List Oper} {m : Nat} (h : tailB l m = true) : (∀ i j, depOn l.toArray i j → j < i) ∧ (∀ i j, m ≤ i → i < l.length → j < i → Reach l.toArray j i) := by
  simp only [tailB, Bool.and_eq_true] at h
  obtain ⟨⟨h1, h2⟩, h3⟩ := h
  refine ⟨?_, ?_⟩
  · rintro i j ⟨o, ho, e, he, hb, rfl⟩
    have ho' : l[i]? = some o := by simpa using ho
    have := List.all_eq_true.1 h1 (o, i) (List.mk_mem_zipIdx_iff_getElem?.2 ho')
    have := List.all_eq_true.1 this e he
    simpa [hb, Nat.blt_eq] using this
  · intro i j hm hi hj
    have hlen : (masks l []).length = l.length := Nat.eq_of_beq_eq_true h3
    have hk : (masks l [])[i]? = some ((masks l [])[i]'(by omega)) := List.getElem?_eq_getElem (by omega)
    have := List.all_eq_true.1 h2 (_, i) (List.mk_mem_zipIdx_iff_getElem?.2 hk)
    simp only [Bool.or_eq_true, Nat.blt_eq] at this
    rcases this with h4 | h4
    · omega
    · have e := Nat.eq_of_beq_eq_true h4
      refine masks_ok (ops := l.toArray) l [] (fun i => by simp) (fun i m hi => by simp at hi) i _ hk j ?_
      rw [e, Nat.testBit_two_pow_sub_one]
      simpa using hj

section
variable {P : Program} {Q : Act → World → Prop}
theorem getD_set (listed : Array Bool) (i j : Nat) (hi : i < listed.size) (d : Bool) : (listed.setIfInBounds i true).getD j d = if i = j then true else listed.getD j d := by
  simp only [Array.getD_eq_getD_getElem?]
  by_cases e : i = j
  · subst e; simp [hi]
  · rw [Array.getElem?_setIfInBounds_ne e, if_neg e]
theorem closed_set {ops : Array Oper} {listed : Array Bool} {i : Nat} (hs : i < listed.size) (hc : Closed ops listed) (hr : ∀ j, depOn ops i j → listed.getD j false = true) : Closed ops (listed.setIfInBounds i true) := by
  intro a b ha hd
  rw [getD_set _ _ _ hs] at ha ⊢
  by_cases e : i = b
  · rw [if_pos e]
  · rw [if_neg e]
    by_cases e' : i = a
    · subst e'; exact hr b hd
    · rw [if_neg e'] at ha; exact hc a b ha hd
/-- So many are left at most. -/
def Left (l : List Oper) (listed : Array Bool) (fuel : Nat) : Prop := ∃ s : List Nat, s.length ≤ fuel ∧ ∀ i, i < l.length → listed.getD i false = false → i ∈ s
theorem Left.zero {l : List Oper} {listed : Array Bool} (h : Left l listed 0) : ∀ i, i < l.length → listed.getD i false = true := fun i hi => by
  obtain ⟨s, hs, h⟩ := h
  cases hq : listed.getD i false with
  | true => rfl
  | false =>
    have h1 := h i hi hq
    obtain rfl : s = [] := List.eq_nil_of_length_eq_zero (by omega)
    cases h1
theorem Left.set {l : List Oper} {listed : Array Bool} {fuel i : Nat} (hs : i < listed.size) (hi : i < l.length) (hu : listed.getD i false = false) (h : Left l listed (fuel + 1)) : Left l (listed.setIfInBounds i true) fuel := by
  obtain ⟨s, hsl, h⟩ := h
  refine ⟨s.erase i, by rw [List.length_erase_of_mem (h i hi hu)]; omega, fun j hj hju => ?_⟩
  rw [getD_set _ _ _ hs] at hju
  by_cases e : i = j
  · rw [if_pos e] at hju; cases hju
  · rw [if_neg e] at hju
    exact (List.mem_erase_of_ne (fun e' => e e'.symm)).2 (h j hj hju)
theorem getD_swap {listed : Array Bool} {i : Nat} (h : i < listed.size) (d d' : Bool) : listed.getD i d = listed.getD i d' := by
  simp [h]
/-- The tail comes in its order. -/
theorem tail_lex {l : List Oper} {m : Nat} (hB : tailB l m = true) : ∀ (fuel : Nat) (i : Nat) (listed : Array Bool) (a : Act) (w : World), m ≤ i → i ≤ l.length → listed.size = l.length → (∀ j, listed.getD j false = true ↔ j < i) → Left l listed fuel →
    wpX P l.toArray Q (l.drop i) a w → xAny P .any l.toArray Q fuel listed a w := by
  obtain ⟨hback, hall⟩ := tailB_spec hB
  intro fuel
  have hunl : ∀ (i : Nat) (listed : Array Bool), listed.size = l.length → (∀ j, listed.getD j false = true ↔ j < i) → ∀ x, x < l.length → (listed.getD x true = false → i ≤ x) ∧ (i ≤ x → listed.getD x true = false) := fun i listed hs hl x hx => by
    have h1 := hl x
    rw [getD_swap (by omega) false true] at h1
    cases hq : listed.getD x true with
    | true => rw [hq] at h1; exact ⟨(by simp), fun h => by have := h1.1 rfl; omega⟩
    | false => rw [hq] at h1; exact ⟨fun _ => by rcases Nat.lt_or_ge x i with h2 | h2; · have := h1.2 h2; cases this
                                                 · exact h2, fun _ => rfl⟩
  induction fuel with
  | zero =>
    intro i listed a w hm hi hs hl hf h
    have e : i = l.length := by
      rcases Nat.lt_or_ge i l.length with h1 | h1
      · have := (hl i).1 (hf.zero i h1); omega
      · omega
    subst e
    rw [List.drop_length] at h
    refine ⟨?_, h⟩
    rw [List.eq_nil_iff_forall_not_mem]
    intro x hx
    obtain ⟨h1, h2, _⟩ := ready_iff.1 hx
    have hx1 : x < l.length := by simpa using h1
    have := (hunl _ listed hs hl x hx1).1 h2
    omega
  | succ fuel ih =>
    intro i listed a w hm hi hs hl hf h
    by_cases hlt : i < l.length
    · have hri : i ∈ Region.ready .any l.toArray listed := ready_iff.2 ⟨by simpa using hlt, (hunl i listed hs hl i hlt).2 (Nat.le_refl _), fun j hj => (hl j).2 (hback i j hj)⟩
      refine ⟨fun h0 => (by rw [h0] at hri; cases hri), fun x hx => ?_⟩
      obtain ⟨h1, h2, h3⟩ := ready_iff.1 hx
      have hx1 : x < l.length := by simpa using h1
      have hix : i ≤ x := (hunl i listed hs hl x hx1).1 h2
      have hxi : x = i := by
        rcases Nat.lt_or_ge i x with h4 | h4
        · have hc : Closed l.toArray listed := fun p q hp hd => (hl q).2 (Nat.lt_trans (hback p q hd) ((hl p).1 hp))
          have := reach_listed hc (hall x i (by omega) hx1 h4) h3
          have := (hl i).1 this
          omega
        · omega
      subst hxi
      rw [List.drop_eq_getElem_cons hlt] at h
      unfold xOp
      rw [show l.toArray[x]? = some l[x] by simp [hlt]]
      simp only
      unfold wpX at h
      have hnext : ∀ a' w', wpX P l.toArray Q (l.drop (x + 1)) a' w' → xAny P .any l.toArray Q fuel (listed.setIfInBounds x true) a' w' := fun a' w' h' =>
        ih (x + 1) _ a' w' (by omega) (by omega) (by simpa using hs) (fun j => by
          rw [getD_set _ _ _ (by omega)]
          by_cases e : x = j
          · subst e; simp
          · rw [if_neg e, hl j]; omega) (hf.set (by omega) hx1 (by rw [getD_swap (by omega) false true]; exact h2)) h'
      split at h
      · rename_i hw; rw [if_pos hw]; exact upx_mono (fun v w' h' => hnext _ _ h') h
      · rename_i hw; rw [if_neg hw]; exact hnext _ _ h
    · have e : i = l.length := by omega
      subst e
      rw [List.drop_length] at h
      have hno : ∀ x, x ∉ Region.ready .any l.toArray listed := fun x hx => by
        obtain ⟨h1, h2, _⟩ := ready_iff.1 hx
        have hx1 : x < l.length := by simpa using h1
        have := (hunl _ listed hs hl x hx1).1 h2
        omega
      exact ⟨fun _ => h, fun x hx => (hno x hx).elim⟩

/-- **THE PHASES:** a relation that the first m operations keep, in whatever order; behind them the tail. -/
theorem xAny_phases {l : List Oper} {m : Nat} (hm : m ≤ l.length) (hB : tailB l m = true) (Inv : Array Bool → Act → World → Prop)
    (step : ∀ (listed : Array Bool) (a : Act) (w : World) (i : Nat) (o : Oper), l[i]? = some o → i < m → listed.size = l.length → listed.getD i true = false → (∀ j, depOn l.toArray i j → listed.getD j false = true) → Inv listed a w →
      xOp P l.toArray i (fun a' w' => Inv (listed.setIfInBounds i true) a' w') a w)
    (fin : ∀ (listed : Array Bool) (a : Act) (w : World), (∀ i, i < m → listed.getD i false = true) → Inv listed a w → wpX P l.toArray Q (l.drop m) a w) :
    ∀ (fuel : Nat) (listed : Array Bool) (a : Act) (w : World), listed.size = l.length → Closed l.toArray listed → (∀ j, m ≤ j → listed.getD j false = false) → Left l listed fuel → Inv listed a w →
      xAny P .any l.toArray Q fuel listed a w := by
  obtain ⟨hback, hall⟩ := tailB_spec hB
  intro fuel
  induction fuel with
  | zero =>
    intro listed a w hs hc hn hf hI
    have hallT := hf.zero
    have hfin := fin listed a w (fun i hi => hallT i (by omega)) hI
    refine tail_lex (m := m) hB 0 m listed a w (Nat.le_refl _) hm hs (fun j => ⟨fun h => ?_, fun h => hallT j (by omega)⟩) hf hfin
    rcases Nat.lt_or_ge j m with h1 | h1
    · exact h1
    · rw [hn j h1] at h; cases h
  | succ fuel ih =>
    intro listed a w hs hc hn hf hI
    by_cases hdone : ∀ i, i < m → listed.getD i false = true
    · refine tail_lex (m := m) hB (fuel + 1) m listed a w (Nat.le_refl _) hm hs (fun j => ⟨fun h => ?_, fun h => hdone j h⟩) hf (fin listed a w hdone hI)
      rcases Nat.lt_or_ge j m with h1 | h1
      · exact h1
      · rw [hn j h1] at h; cases h
    · have hex : ∃ i, i < m ∧ listed.getD i false = false := by
        rcases Classical.not_forall.1 hdone with ⟨i, hi⟩
        rcases Classical.not_imp.1 hi with ⟨h1, h2⟩
        exact ⟨i, h1, by simpa using h2⟩
      have hleast : ∃ i, i < m ∧ listed.getD i false = false ∧ ∀ j, j < i → listed.getD j false = true := by
        obtain ⟨i, h1, h2⟩ := hex
        induction i using Nat.strongRecOn with
        | _ i ihh =>
          by_cases hq : ∀ j, j < i → listed.getD j false = true
          · exact ⟨i, h1, h2, hq⟩
          · rcases Classical.not_forall.1 hq with ⟨j, hj⟩
            rcases Classical.not_imp.1 hj with ⟨h3, h4⟩
            exact ihh j h3 (by omega) (by simpa using h4)
      obtain ⟨i0, hi0, hu0, hb0⟩ := hleast
      have hr0 : i0 ∈ Region.ready .any l.toArray listed := ready_iff.2 ⟨by simp; omega, by rw [getD_swap (by omega) true false]; exact hu0, fun j hj => hb0 j (hback _ _ hj)⟩
      refine ⟨fun h => (by rw [h] at hr0; cases hr0), fun i hi => ?_⟩
      obtain ⟨h1, h2, h3⟩ := ready_iff.1 hi
      have hil : i < l.length := by simpa using h1
      have him : i < m := by
        rcases Nat.lt_or_ge i m with h4 | h4
        · exact h4
        · have := reach_listed hc (hall i i0 h4 hil (by omega)) h3
          rw [hu0] at this; cases this
      refine xOp_mono (fun a' w' hI' => ?_) (step listed a w i l[i] (List.getElem?_eq_getElem hil) him hs h2 h3 hI)
      exact ih _ a' w' (by simpa using hs) (closed_set (by omega) hc h3) (fun j hj => by rw [getD_set _ _ _ (by omega), if_neg (by omega)]; exact hn j hj) (hf.set (by omega) hil (by rw [getD_swap (by omega) false true]; exact h2)) hI'
theorem xAny_start {l : List Oper} {m : Nat} (hm : m ≤ l.length) (hB : tailB l m = true) (Inv : Array Bool → Act → World → Prop) {a : Act} {w : World} (h0 : Inv (Array.replicate l.length false) a w)
    (step : ∀ (listed : Array Bool) (a : Act) (w : World) (i : Nat) (o : Oper), l[i]? = some o → i < m → listed.size = l.length → listed.getD i true = false → (∀ j, depOn l.toArray i j → listed.getD j false = true) → Inv listed a w →
      xOp P l.toArray i (fun a' w' => Inv (listed.setIfInBounds i true) a' w') a w)
    (fin : ∀ (listed : Array Bool) (a : Act) (w : World), (∀ i, i < m → listed.getD i false = true) → Inv listed a w → wpX P l.toArray Q (l.drop m) a w) :
    xAny P .any l.toArray Q l.toArray.size (Array.replicate l.toArray.size false) a w := by
  have hrep : ∀ (N j : Nat), (Array.replicate N false).getD j false = false := fun N j => by
    rw [Array.getD_eq_getD_getElem?, Array.getElem?_replicate]; split <;> rfl
  refine xAny_phases hm hB Inv step fin _ _ a w (by simp) (fun i j h => by rw [hrep] at h; cases h) (fun j _ => hrep _ j) ⟨List.range l.length, by simp, fun i hi _ => by simpa using hi⟩ (by simpa using h0)
end
end Go.Bd
