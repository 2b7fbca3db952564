import Derived.Test.YtefneilaongpbaaDoorRange
/-
  REGIONS THAT DRAW THEIR ORDER, with a tail: the first m operations come in whatever order, each of the others waits for all ahead of it.
-/
set_option linter.unusedVariables false
set_option linter.unusedSimpArgs false
namespace Go.Bd
open Go.RowKit

def depOn (ops : Array Oper) (i j : Nat) : Prop := ∃ o, ops[i]? = some o ∧ ∃ e ∈ o.after.toList, Region.binds .any e = true ∧ e.on = j
inductive Reach (ops : Array Oper) : Nat → Nat → Prop
  | base {i j : Nat} (h : depOn ops i j) : Reach ops j i
  | step {i j l : Nat} (h : depOn ops i j) (h' : Reach ops l j) : Reach ops l i
theorem ready_iff {ops : Array Oper} {listed : Array Bool} {i : Nat} : i ∈ Region.ready .any ops listed ↔ i < ops.size ∧ listed.getD i true = false ∧ ∀ j, depOn ops i j → listed.getD j false = true := by
  unfold Region.ready depOn
  rw [List.mem_filter, List.mem_range]
  constructor
  · rintro ⟨h1, h2⟩
    simp only [Bool.and_eq_true, Bool.not_eq_true'] at h2
    obtain ⟨h2, h3⟩ := h2
    refine ⟨h1, h2, ?_⟩
    rintro j ⟨o, ho, e, he, hb, rfl⟩
    rw [ho] at h3
    simp only [Option.map_some, Option.getD_some] at h3
    rw [Array.all_eq_true'] at h3
    have := h3 e (Array.mem_toList_iff.1 he)
    simpa [hb] using this
  · rintro ⟨h1, h2, h3⟩
    refine ⟨h1, ?_⟩
    simp only [Bool.and_eq_true, Bool.not_eq_true']
    refine ⟨h2, ?_⟩
    rw [Array.getElem?_eq_getElem h1]
    simp only [Option.map_some, Option.getD_some]
    rw [Array.all_eq_true']
    intro e he
    cases hb : Region.binds .any e with
    | false => simp
    | true => simpa using h3 e.on ⟨_, Array.getElem?_eq_getElem h1, e, Array.mem_toList_iff.2 he, hb, rfl⟩
/-- What is listed is closed. -/
def Closed (ops : Array Oper) (listed : Array Bool) : Prop := ∀ i j, listed.getD i false = true → depOn ops i j → listed.getD j false = true
theorem reach_listed {ops : Array Oper} {listed : Array Bool} (hc : Closed ops listed) {l i : Nat} (hr : Reach ops l i) : (∀ j, depOn ops i j → listed.getD j false = true) → listed.getD l false = true := by
  induction hr with
  | base h => intro hd; exact hd _ h
  | step h h' ih => intro hd; exact ih fun j hj => hc _ _ (hd _ h) hj

/-! the masks -/
def maskOf (prev : List Nat) (o : Oper) : Nat := o.after.toList.foldl (fun acc e => if Region.binds .any e then acc ||| prev.getD e.on 0 ||| 2 ^ e.on else acc) 0
def masks : List Oper → List Nat → List Nat
  | [], prev => prev
  | o :: os, prev => masks os (prev ++ [maskOf prev o])
theorem mask_fold {prev : List Nat} {j : Nat} (es : List Edge) : ∀ acc, (es.foldl (fun acc e => if Region.binds .any e then acc ||| prev.getD e.on 0 ||| 2 ^ e.on else acc) acc).testBit j = true →
    acc.testBit j = true ∨ ∃ e ∈ es, Region.binds .any e = true ∧ ((prev.getD e.on 0).testBit j = true ∨ e.on = j) := by
  induction es with
  | nil => intro acc h; exact .inl (by simpa using h)
  | cons e es ih =>
    intro acc h
    simp only [List.foldl_cons] at h
    rcases ih _ h with h1 | ⟨e', he', hb, hr⟩
    · cases hb : Region.binds .any e with
      | false => rw [hb] at h1; exact .inl (by simpa using h1)
      | true =>
        rw [hb] at h1
        simp only [if_true, Nat.testBit_or, Bool.or_eq_true] at h1
        rcases h1 with (h1 | h1) | h1
        · exact .inl h1
        · exact .inr ⟨e, by simp, hb, .inl h1⟩
        · refine .inr ⟨e, by simp, hb, .inr ?_⟩
          rw [Nat.testBit_two_pow] at h1
          simpa using h1
    · exact .inr ⟨e', by simp [he'], hb, hr⟩
theorem masks_ok {ops : Array Oper} : ∀ (l : List Oper) (prev : List Nat), (∀ i, l[i]? = ops[prev.length + i]?) → (∀ i m, prev[i]? = some m → ∀ j, m.testBit j = true → Reach ops j i) →
    ∀ i m, (masks l prev)[i]? = some m → ∀ j, m.testBit j = true → Reach ops j i
  | [], prev, _, h => h
  | o :: os, prev, hl, h => by
    refine masks_ok os (prev ++ [maskOf prev o]) (fun i => by have := hl (i + 1); simp only [List.getElem?_cons_succ] at this; rw [this]; simp; congr 1; omega) ?_
    intro i m hi j hj
    rcases Nat.lt_or_ge i prev.length with h1 | h1
    · rw [List.getElem?_append_left h1] at hi
      exact h i m hi j hj
    · rw [List.getElem?_append_right h1] at hi
      have hz : i - prev.length = 0 := by
        rcases Nat.eq_zero_or_pos (i - prev.length) with hz | hz
        · exact hz
        · rw [List.getElem?_eq_none (by simp; omega)] at hi; cases hi
      rw [hz] at hi
      simp only [List.getElem?_cons_zero, Option.some.injEq] at hi
      subst hi
      have hio : ops[i]? = some o := by have := hl 0; simp only [List.getElem?_cons_zero] at this; rw [this]; congr 1; omega
      unfold maskOf at hj
      rcases mask_fold _ _ hj with h2 | ⟨e, he, hb, h2 | h2⟩
      · simp at h2
      · cases hp : prev[e.on]? with
        | none => simp [List.getD, hp] at h2
        | some q => simp [List.getD, hp] at h2; exact .step ⟨o, hio, e, he, hb, rfl⟩ (h _ q hp j h2)
      · subst h2; exact .base ⟨o, hio, e, he, hb, rfl⟩
/-- All edges lead back; from m on each waits for all ahead of it. -/
def tailB (l : List Oper) (m : Nat) : Bool :=
  (l.zipIdx.all fun (o, i) => o.after.toList.all fun e => !Region.binds .any e || Nat.blt e.on i) &&
  ((masks l []).zipIdx.all fun (k, i) => Nat.blt i m || Nat.beq k (2 ^ i - 1)) && Nat.beq (masks l []).length l.length
theorem tailB_spec {l : List Oper} {m : Nat} (h : tailB l m = true) : (∀ i j, depOn l.toArray i j → j < i) ∧ (∀ i j, m ≤ i → i < l.length → j < i → Reach l.toArray j i) := by
  simp only [tailB, Bool.and_eq_true] at h
  obtain ⟨⟨h1, h2⟩, h3⟩ := h
  refine ⟨?_, ?_⟩
  · rintro i j ⟨o, ho, e, he, hb, rfl⟩
    have ho' : l[i]? = some o := by simpa using ho
    have := List.all_eq_true.1 h1 (o, i) (List.mk_mem_zipIdx_iff_getElem?.2 ho')
    have := List.all_eq_true.1 this e he
    simpa [hb, Nat.blt_eq] using this
  · intro i j hm hi hj
    have hlen : (masks l []).length = l.length := Nat.eq_of_beq_eq_true h3
    have hk : (masks l [])[i]? = some ((masks l [])[i]'(by omega)) := List.getElem?_eq_getElem (by omega)
    have := List.all_eq_true.1 h2 (_, i) (List.mk_mem_zipIdx_iff_getElem?.2 hk)
    simp only [Bool.or_eq_true, Nat.blt_eq] at this
    rcases this with h4 | h4
    · omega
    · have e := Nat.eq_of_beq_eq_true h4
      refine masks_ok (ops := l.toArray) l [] (fun i => by simp) (fun i m hi => by simp at hi) i _ hk j ?_
      rw [e, Nat.testBit_two_pow_sub_one]
      simpa using hj

section
variable {P : Program} {Q : Act → World → Prop}
theorem getD_set (listed : Array Bool) (i j : Nat) (hi : i < listed.size) (d : Bool) : (listed.setIfInBounds i true).getD j d = if i = j then true else listed.getD j d := by
  simp only [Array.getD_eq_getD_getElem?]
  by_cases e : i = j
  · subst e; simp [hi]
  · rw [Array.getElem?_setIfInBounds_ne e, if_neg e]
theorem closed_set {ops : Array Oper} {listed : Array Bool} {i : Nat} (hs : i < listed.size) (hc : Closed ops listed) (hr : ∀ j, depOn ops i j → listed.getD j false = true) : Closed ops (listed.setIfInBounds i true) := by
  intro a b ha hd
  rw [getD_set _ _ _ hs] at ha ⊢
  by_cases e : i = b
  · rw [if_pos e]
  · rw [if_neg e]
    by_cases e' : i = a
    · subst e'; exact hr b hd
    · rw [if_neg e'] at ha; exact hc a b ha hd
/-- So many are left at most. -/
def Left (l : List Oper) (listed : Array Bool) (fuel : Nat) : Prop := ∃ s : List Nat, s.length ≤ fuel ∧ ∀ i, i < l.length → listed.getD i false = false → i ∈ s
theorem Left.zero {l : List Oper} {listed : Array Bool} (h : Left l listed 0) : ∀ i, i < l.length → listed.getD i false = true := fun i hi => by
  obtain ⟨s, hs, h⟩ := h
  cases hq : listed.getD i false with
  | true => rfl
  | false =>
    have h1 := h i hi hq
    obtain rfl : s = [] := List.eq_nil_of_length_eq_zero (by omega)
    cases h1
theorem Left.set {l : List Oper} {listed : Array Bool} {fuel i : Nat} (hs : i < listed.size) (hi : i < l.length) (hu : listed.getD i false = false) (h : Left l listed (fuel + 1)) : Left l (listed.setIfInBounds i true) fuel := by
  obtain ⟨s, hsl, h⟩ := h
  refine ⟨s.erase i, by rw [List.length_erase_of_mem (h i hi hu)]; omega, fun j hj hju => ?_⟩
  rw [getD_set _ _ _ hs] at hju
  by_cases e : i = j
  · rw [if_pos e] at hju; cases hju
  · rw [if_neg e] at hju
    exact (List.mem_erase_of_ne (fun e' => e e'.symm)).2 (h j hj hju)
theorem getD_swap {listed : Array Bool} {i : Nat} (h : i < listed.size) (d d' : Bool) : listed.getD i d = listed.getD i d' := by
  simp [h]
/-- The tail comes in its order. -/
theorem tail_lex {l : List Oper} {m : Nat} (hB : tailB l m = true) : ∀ (fuel : Nat) (i : Nat) (listed : Array Bool) (a : Act) (w : World), m ≤ i → i ≤ l.length → listed.size = l.length → (∀ j, listed.getD j false = true ↔ j < i) → Left l listed fuel →
    wpX P l.toArray Q (l.drop i) a w → xAny P .any l.toArray Q fuel listed a w := by
  obtain ⟨hback, hall⟩ := tailB_spec hB
  intro fuel
  have hunl : ∀ (i : Nat) (listed : Array Bool), listed.size = l.length → (∀ j, listed.getD j false = true ↔ j < i) → ∀ x, x < l.length → (listed.getD x true = false → i ≤ x) ∧ (i ≤ x → listed.getD x true = false) := fun i listed hs hl x hx => by
    have h1 := hl x
    rw [getD_swap (by omega) false true] at h1
    cases hq : listed.getD x true with
    | true => rw [hq] at h1; exact ⟨(by simp), fun h => by have := h1.1 rfl; omega⟩
    | false => rw [hq] at h1; exact ⟨fun _ => by rcases Nat.lt_or_ge x i with h2 | h2; · have := h1.2 h2; cases this
                                                 · exact h2, fun _ => rfl⟩
  induction fuel with
  | zero =>
    intro i listed a w hm hi hs hl hf h
    have e : i = l.length := by
      rcases Nat.lt_or_ge i l.length with h1 | h1
      · have := (hl i).1 (hf.zero i h1); omega
      · omega
    subst e
    rw [List.drop_length] at h
    refine ⟨?_, h⟩
    rw [List.eq_nil_iff_forall_not_mem]
    intro x hx
    obtain ⟨h1, h2, _⟩ := ready_iff.1 hx
    have hx1 : x < l.length := by simpa using h1
    have := (hunl _ listed hs hl x hx1).1 h2
    omega
  | succ fuel ih =>
    intro i listed a w hm hi hs hl hf h
    by_cases hlt : i < l.length
    · have hri : i ∈ Region.ready .any l.toArray listed := ready_iff.2 ⟨by simpa using hlt, (hunl i listed hs hl i hlt).2 (Nat.le_refl _), fun j hj => (hl j).2 (hback i j hj)⟩
      refine ⟨fun h0 => (by rw [h0] at hri; cases hri), fun x hx => ?_⟩
      obtain ⟨h1, h2, h3⟩ := ready_iff.1 hx
      have hx1 : x < l.length := by simpa using h1
      have hix : i ≤ x := (hunl i listed hs hl x hx1).1 h2
      have hxi : x = i := by
        rcases Nat.lt_or_ge i x with h4 | h4
        · have hc : Closed l.toArray listed := fun p q hp hd => (hl q).2 (Nat.lt_trans (hback p q hd) ((hl p).1 hp))
          have := reach_listed hc (hall x i (by omega) hx1 h4) h3
          have := (hl i).1 this
          omega
        · omega
      subst hxi
      rw [List.drop_eq_getElem_cons hlt] at h
      unfold xOp
      rw [show l.toArray[x]? = some l[x] by simp [hlt]]
      simp only
      unfold wpX at h
      have hnext : ∀ a' w', wpX P l.toArray Q (l.drop (x + 1)) a' w' → xAny P .any l.toArray Q fuel (listed.setIfInBounds x true) a' w' := fun a' w' h' =>
        ih (x + 1) _ a' w' (by omega) (by omega) (by simpa using hs) (fun j => by
          rw [getD_set _ _ _ (by omega)]
          by_cases e : x = j
          · subst e; simp
          · rw [if_neg e, hl j]; omega) (hf.set (by omega) hx1 (by rw [getD_swap (by omega) false true]; exact h2)) h'
      split at h
      · rename_i hw; rw [if_pos hw]; exact upx_mono (fun v w' h' => hnext _ _ h') h
      · rename_i hw; rw [if_neg hw]; exact hnext _ _ h
    · have e : i = l.length := by omega
      subst e
      rw [List.drop_length] at h
      have hno : ∀ x, x ∉ Region.ready .any l.toArray listed := fun x hx => by
        obtain ⟨h1, h2, _⟩ := ready_iff.1 hx
        have hx1 : x < l.length := by simpa using h1
        have := (hunl _ listed hs hl x hx1).1 h2
        omega
      exact ⟨fun _ => h, fun x hx => (hno x hx).elim⟩

/-- **THE PHASES:** a relation that the first m operations keep, in whatever order; behind them the tail. -/
theorem xAny_phases {l : List Oper} {m : Nat} (hm : m ≤ l.length) (hB : tailB l m = true) (Inv : Array Bool → Act → World → Prop)
    (step : ∀ (listed : Array Bool) (a : Act) (w : World) (i : Nat) (o : Oper), l[i]? = some o → i < m → listed.size = l.length → listed.getD i true = false → (∀ j, depOn l.toArray i j → listed.getD j false = true) → Inv listed a w →
      xOp P l.toArray i (fun a' w' => Inv (listed.setIfInBounds i true) a' w') a w)
    (fin : ∀ (listed : Array Bool) (a : Act) (w : World), (∀ i, i < m → listed.getD i false = true) → Inv listed a w → wpX P l.toArray Q (l.drop m) a w) :
    ∀ (fuel : Nat) (listed : Array Bool) (a : Act) (w : World), listed.size = l.length → Closed l.toArray listed → (∀ j, m ≤ j → listed.getD j false = false) → Left l listed fuel → Inv listed a w →
      xAny P .any l.toArray Q fuel listed a w := by
  obtain ⟨hback, hall⟩ := tailB_spec hB
  intro fuel
  induction fuel with
  | zero =>
    intro listed a w hs hc hn hf hI
    have hallT := hf.zero
    have hfin := fin listed a w (fun i hi => hallT i (by omega)) hI
    refine tail_lex (m := m) hB 0 m listed a w (Nat.le_refl _) hm hs (fun j => ⟨fun h => ?_, fun h => hallT j (by omega)⟩) hf hfin
    rcases Nat.lt_or_ge j m with h1 | h1
    · exact h1
    · rw [hn j h1] at h; cases h
  | succ fuel ih =>
    intro listed a w hs hc hn hf hI
    by_cases hdone : ∀ i, i < m → listed.getD i false = true
    · refine tail_lex (m := m) hB (fuel + 1) m listed a w (Nat.le_refl _) hm hs (fun j => ⟨fun h => ?_, fun h => hdone j h⟩) hf (fin listed a w hdone hI)
      rcases Nat.lt_or_ge j m with h1 | h1
      · exact h1
      · rw [hn j h1] at h; cases h
    · have hex : ∃ i, i < m ∧ listed.getD i false = false := by
        rcases Classical.not_forall.1 hdone with ⟨i, hi⟩
        rcases Classical.not_imp.1 hi with ⟨h1, h2⟩
        exact ⟨i, h1, by simpa using h2⟩
      have hleast : ∃ i, i < m ∧ listed.getD i false = false ∧ ∀ j, j < i → listed.getD j false = true := by
        obtain ⟨i, h1, h2⟩ := hex
        induction i using Nat.strongRecOn with
        | _ i ihh =>
          by_cases hq : ∀ j, j < i → listed.getD j false = true
          · exact ⟨i, h1, h2, hq⟩
          · rcases Classical.not_forall.1 hq with ⟨j, hj⟩
            rcases Classical.not_imp.1 hj with ⟨h3, h4⟩
            exact ihh j h3 (by omega) (by simpa using h4)
      obtain ⟨i0, hi0, hu0, hb0⟩ := hleast
      have hr0 : i0 ∈ Region.ready .any l.toArray listed := ready_iff.2 ⟨by simp; omega, by rw [getD_swap (by omega) true false]; exact hu0, fun j hj => hb0 j (hback _ _ hj)⟩
      refine ⟨fun h => (by rw [h] at hr0; cases hr0), fun i hi => ?_⟩
      obtain ⟨h1, h2, h3⟩ := ready_iff.1 hi
      have hil : i < l.length := by simpa using h1
      have him : i < m := by
        rcases Nat.lt_or_ge i m with h4 | h4
        · exact h4
        · have := reach_listed hc (hall i i0 h4 hil (by omega)) h3
          rw [hu0] at this; cases this
      refine xOp_mono (fun a' w' hI' => ?_) (step listed a w i l[i] (List.getElem?_eq_getElem hil) him hs h2 h3 hI)
      exact ih _ a' w' (by simpa using hs) (closed_set (by omega) hc h3) (fun j hj => by rw [getD_set _ _ _ (by omega), if_neg (by omega)]; exact hn j hj) (hf.set (by omega) hil (by rw [getD_swap (by omega) false true]; exact h2)) hI'
theorem xAny_start {l : List Oper} {m : Nat} (hm : m ≤ l.length) (hB : tailB l m = true) (Inv : Array Bool → Act → World → Prop) {a : Act} {w : World} (h0 : Inv (Array.replicate l.length false) a w)
    (step : ∀ (listed : Array Bool) (a : Act) (w : World) (i : Nat) (o : Oper), l[i]? = some o → i < m → listed.size = l.length → listed.getD i true = false → (∀ j, depOn l.toArray i j → listed.getD j false = true) → Inv listed a w →
      xOp P l.toArray i (fun a' w' => Inv (listed.setIfInBounds i true) a' w') a w)
    (fin : ∀ (listed : Array Bool) (a : Act) (w : World), (∀ i, i < m → listed.getD i false = true) → Inv listed a w → wpX P l.toArray Q (l.drop m) a w) :
    xAny P .any l.toArray Q l.toArray.size (Array.replicate l.toArray.size false) a w := by
  have hrep : ∀ (N j : Nat), (Array.replicate N false).getD j false = false := fun N j => by
    rw [Array.getD_eq_getD_getElem?, Array.getElem?_replicate]; split <;> rfl
  refine xAny_phases hm hB Inv step fin _ _ a w (by simp) (fun i j h => by rw [hrep] at h; cases h) (fun j _ => hrep _ j) ⟨List.range l.length, by simp, fun i hi _ => by simpa using hi⟩ (by simpa using h0)
end
end Go.Bd
/-
  REGIONS THAT DRAW THEIR ORDER: THE RULE BY FACTS: of each operation alone, what it leaves in its slot, out of what those that it waits for have left.
-/
set_option linter.unusedVariables false
set_option linter.unusedSimpArgs false
namespace Go.Bd
open Go.RowKit

def dstAt (l : List Oper) (i : Nat) : Nat := ((l[i]?).bind (·.dst)).getD 0
def keysB (f : Fr) (d : Nat) : Bool := f.all fun x => !Nat.beq x.1 d
/-- The first m operations write slots of their own, that the frame says nothing of. -/
def slotsB (l : List Oper) (m N : Nat) : Bool := (List.range m).all fun i => (match (l[i]?).bind (·.dst) with | some d => Nat.blt d N | none => false) && (List.range i).all fun j => !Nat.beq (dstAt l j) (dstAt l i)
def freshB (l : List Oper) (m : Nat) (f : Fr) : Bool := (List.range m).all fun i => keysB f (dstAt l i)
def depsL (l : List Oper) (i : Nat) : List Nat := match l[i]? with
  | none => []
  | some o => ((o.after.toList.filter fun e => match e.ground with | .data | .guard => true | _ => false).map (·.on)).eraseDups
theorem depsL_dep {l : List Oper} {i j : Nat} (h : j ∈ depsL l i) : depOn l.toArray i j := by
  unfold depsL at h
  cases ho : l[i]? with
  | none => simp [ho] at h
  | some o =>
    simp only [ho, List.mem_eraseDups, List.mem_map, List.mem_filter] at h
    obtain ⟨e, ⟨he, hg⟩, rfl⟩ := h
    refine ⟨o, by simpa using ho, e, he, ?_, rfl⟩
    unfold Region.binds
    cases hgr : e.ground <;> simp_all
theorem slots_spec {l : List Oper} {m N : Nat} (h : slotsB l m N = true) : (∀ i, i < m → ∃ o, l[i]? = some o ∧ o.dst = some (dstAt l i) ∧ Nat.blt (dstAt l i) N = true) ∧ (∀ i j, i < m → j < m → i ≠ j → dstAt l i ≠ dstAt l j) := by
  have h1 : ∀ i, i < m → (match (l[i]?).bind (·.dst) with | some d => Nat.blt d N | none => false) = true ∧ ∀ j, j < i → dstAt l j ≠ dstAt l i := fun i hi => by
    have := List.all_eq_true.1 h i (by simpa using hi)
    simp only [Bool.and_eq_true] at this
    refine ⟨this.1, fun j hj => ?_⟩
    have := List.all_eq_true.1 this.2 j (by simpa using hj)
    simp only [Bool.not_eq_true'] at this
    exact Nat.ne_of_beq_eq_false this
  refine ⟨fun i hi => ?_, fun i j hi hj hne => ?_⟩
  · have h2 := (h1 i hi).1
    cases ho : l[i]? with
    | none => simp [ho] at h2
    | some o =>
      cases hd : o.dst with
      | none => simp [ho, hd] at h2
      | some d => exact ⟨o, rfl, by simp [dstAt, ho, hd], by simpa [dstAt, ho, hd] using h2⟩
  · rcases Nat.lt_or_gt_of_ne hne with h3 | h3
    · exact (h1 j hj).2 i h3
    · exact fun e => (h1 i hi).2 j h3 e.symm
theorem fresh_spec {l : List Oper} {m : Nat} {f : Fr} (h : freshB l m f = true) : ∀ i, i < m → Fr.get f (dstAt l i) = none := fun i hi => by
  have h1 := List.all_eq_true.1 h i (by simpa using hi)
  unfold keysB at h1
  induction f with
  | nil => rfl
  | cons x f ih =>
    simp only [List.all_cons, Bool.and_eq_true, Bool.not_eq_true'] at h1
    rw [Fr.get_cons, if_neg (Nat.ne_of_beq_eq_false h1.1)]
    refine ih ?_ h1.2
    rw [freshB] at h ⊢
    rw [List.all_eq_true] at h ⊢
    intro j hj
    have := h j hj
    unfold keysB at this ⊢
    simp only [List.all_cons, Bool.and_eq_true] at this
    exact this.2

section
variable (P : Program) (n : Sz) (l : List Oper) (V : Nat → Value → World → Prop) (w w' : World)
def ObD (Q : Act → World → Prop) (o : Oper) : List Nat → Fr → Prop
  | [], f => GL P n Q l.toArray [o] f w'
  | j :: js, f => ∀ v, V j v w' → ObD Q o js ((dstAt l j, v) :: f)
def ObI (f0 : Fr) (i : Nat) : Prop := ∀ w', Ext w w' → match l[i]? with
  | none => False
  | some o => ObD P n l V w' (fun a w'' => ∃ v, a.tmps[dstAt l i]? = some v ∧ Ext w' w'' ∧ V i v w'') o (depsL l i) f0
def Obs (f0 : Fr) : Nat → Nat → Prop
  | _, 0 => True
  | i, k + 1 => ObI P n l V w f0 i ∧ Obs f0 (i + 1) k
def FinD (Q : Act → World → Prop) (m : Nat) : Nat → Nat → Fr → Prop
  | _, 0, f => GL P n Q l.toArray (l.drop m) f w'
  | i, k + 1, f => ∀ v, V i v w' → FinD Q m (i + 1) k ((dstAt l i, v) :: f)
end
section
variable {P : Program} {fn : Func} {E : Fin} {n : Sz} {k : List Item} {f : Fr} {w : World}
theorem Obs.at {l : List Oper} {V : Nat → Value → World → Prop} {f0 : Fr} : ∀ (k i : Nat), Obs P n l V w f0 i k → ∀ j, i ≤ j → j < i + k → ObI P n l V w f0 j
  | 0, i, _, j, h1, h2 => by omega
  | k + 1, i, h, j, h1, h2 => by
    rcases Nat.eq_or_lt_of_le h1 with e | e
    · subst e; exact h.1
    · exact Obs.at k (i + 1) h.2 j (by omega) (by omega)
theorem ObD.use {l : List Oper} {V : Nat → Value → World → Prop} {w' : World} {Q : Act → World → Prop} {o : Oper} {a : Act} : ∀ (js : List Nat) (f : Fr), ObD P n l V w' Q o js f → St n f a → (∀ j ∈ js, ∃ v, a.tmps[dstAt l j]? = some v ∧ V j v w') → wpX P l.toArray Q [o] a w'
  | [], f, h, ha, _ => h a ha
  | j :: js, f, h, ha, hj => by
    obtain ⟨v, hv, hV⟩ := hj j (by simp)
    refine ObD.use js _ (h v hV) ⟨ha.size, ha.defers, fun t u ht => ?_⟩ (fun q hq => hj q (by simp [hq]))
    rw [Fr.get_cons] at ht
    by_cases e : dstAt l j = t
    · subst e; rw [if_pos rfl] at ht; cases ht; exact hv
    · rw [if_neg e] at ht; exact ha.at_ t u ht
theorem FinD.use {l : List Oper} {V : Nat → Value → World → Prop} {w' : World} {Q : Act → World → Prop} {m : Nat} {a : Act} : ∀ (k i : Nat) (f : Fr), FinD P n l V w' Q m i k f → St n f a → (∀ j, i ≤ j → j < i + k → ∃ v, a.tmps[dstAt l j]? = some v ∧ V j v w') → wpX P l.toArray Q (l.drop m) a w'
  | 0, i, f, h, ha, _ => h a ha
  | k + 1, i, f, h, ha, hj => by
    obtain ⟨v, hv, hV⟩ := hj i (Nat.le_refl _) (by omega)
    refine FinD.use k (i + 1) _ (h v hV) ⟨ha.size, ha.defers, fun t u ht => ?_⟩ (fun q h1 h2 => hj q (by omega) (by omega))
    rw [Fr.get_cons] at ht
    by_cases e : dstAt l i = t
    · subst e; rw [if_pos rfl] at ht; cases ht; exact hv
    · rw [if_neg e] at ht; exact ha.at_ t u ht

theorem G.draw {id : Nat} {l : List Oper} (m : Nat) (f0 : Fr) (V : Nat → Value → World → Prop) (hfo : P.follows .mixedOrders = true) (hm : Nat.ble m l.length = true) (hB : tailB l m = true) (hS : slotsB l m n.size = true) (hF : freshB l m f0 = true) (hsub : Fr.sub f0 f)
    (mono : ∀ i v w1 w2, Ext w1 w2 → V i v w1 → V i v w2)
    (obs : ∀ w0, Ext w w0 → Obs P n l V w0 f0 0 m)
    (fin : ∀ w', Ext w w' → FinD P n l V w' (GoA P fn E n k) m 0 m f0) : G P fn E n (.code (.region id l.toArray true) :: k) f w := by
  refine G.anyOrder hfo fun a ha => ?_
  have hm' : m ≤ l.length := by simpa [Nat.ble_eq] using hm
  obtain ⟨hs1, hs2⟩ := slots_spec hS
  have hfr := fresh_spec hF
  have hw0 : Ext w { w with drawn := w.drawn + 1 } := ext_draw w
  generalize hgw : ({ w with drawn := w.drawn + 1 } : World) = w0 at hw0
  refine xAny_start (m := m) hm' hB (fun listed a' w' => Ext w0 w' ∧ St n f0 a' ∧ ∀ i, i < m → listed.getD i false = true → ∃ v, a'.tmps[dstAt l i]? = some v ∧ V i v w') ?_ ?_ ?_
  · exact ⟨Below.refl _ _, ha.sub hsub, fun i hi h => by simp [Array.getD_eq_getD_getElem?, Array.getElem?_replicate] at h; split at h <;> simp at h⟩
  · rintro listed a' w' i o ho hi hls hun hdep ⟨he, hst, hfacts⟩
    have hob := Obs.at m 0 (obs w0 hw0) i (by omega) (by omega) w' he
    rw [ho] at hob
    simp only at hob
    obtain ⟨o', ho', hd, hlt⟩ := hs1 i hi
    rw [ho] at ho'
    cases ho'
    have hback := (tailB_spec hB).1
    have huse := ObD.use (a := a') (depsL l i) f0 hob hst (fun j hj => by
      have hdj := depsL_dep hj
      exact hfacts j (Nat.lt_trans (hback i j hdj) hi) (hdep j hdj))
    have hdlt : dstAt l i < a'.tmps.size := by rw [hst.size]; simpa [Nat.blt_eq] using hlt
    have hnext : ∀ v w'', (∃ u, (a'.put o.dst v).tmps[dstAt l i]? = some u ∧ Ext w' w'' ∧ V i u w'') → Ext w0 w'' ∧ St n f0 (a'.put o.dst v) ∧ ∀ j, j < m → (listed.setIfInBounds i true).getD j false = true → ∃ u, (a'.put o.dst v).tmps[dstAt l j]? = some u ∧ V j u w'' := by
      rintro v w'' ⟨u, hu, he', hV⟩
      refine ⟨he.trans he', ?_, fun j hj hlj => ?_⟩
      · rw [hd]
        exact (hst.put hlt v).sub fun t x ht => by
          rw [Fr.get_cons]
          by_cases e : dstAt l i = t
          · subst e; rw [hfr i hi] at ht; cases ht
          · rw [if_neg e]; exact ht
      · by_cases e : i = j
        · subst e; exact ⟨u, hu, hV⟩
        · rw [getD_set _ _ _ (by omega), if_neg e] at hlj
          obtain ⟨x, hx, hVx⟩ := hfacts j hj hlj
          refine ⟨x, ?_, mono j x _ _ he' hVx⟩
          rw [hd]
          simp only [Act.put]
          rw [Array.getElem?_setIfInBounds_ne (hs2 i j hi hj e)]
          exact hx
    unfold xOp
    rw [show l.toArray[i]? = some o by simpa using ho]
    simp only
    unfold wpX at huse
    split at huse
    · rename_i hw
      rw [if_pos hw]
      refine upx_mono (fun v w'' h => ?_) huse
      exact hnext v w'' (by simpa [wpX] using h)
    · rename_i hw
      rw [if_neg hw]
      exact hnext undef w' (by simpa [wpX] using huse)
  · rintro listed a' w' hall ⟨he, hst, hfacts⟩
    exact FinD.use m 0 f0 (fin w' (hw0.trans he)) hst fun j _ hj => hfacts j (by omega) (hall j (by omega))
end
end Go.Bd
/-
  REGIONS THAT DRAW THEIR ORDER: quiet operations ahead of a tail: one walk in the text's order.
-/
set_option linter.unusedVariables false
set_option linter.unusedSimpArgs false
namespace Go.Bd
open Go.RowKit

def runv : List Oper → List Value → Act → Act
  | o :: os, v :: vs, a => runv os vs (a.put o.dst v)
  | _, _, a => a
theorem runv_nil (vs : List Value) (a : Act) : runv [] vs a = a := by cases vs <;> rfl
section
variable {P : Program} {ops : Array Oper} {C : World → Prop}
theorem quiet_vals {Q : Act → Prop} : ∀ (M : List Oper) (a : Act), wpQuiet P ops C Q M a → ∃ vs : List Value, vs.length = M.length ∧ (∀ i o, M[i]? = some o → YieldsIn P ops C o (vs.getD i undef) (runv (M.take i) (vs.take i) a)) ∧ Q (runv M vs a)
  | [], a, h => ⟨[], rfl, fun i o hi => by simp at hi, h⟩
  | o :: M, a, h => by
    unfold wpQuiet at h
    by_cases hw : Region.wanted o (yielded ops a.tmps) = true
    · rw [if_pos hw] at h
      obtain ⟨v, hv, hn⟩ := h
      obtain ⟨vs, h1, h2, h3⟩ := quiet_vals M _ hn
      refine ⟨v :: vs, by simp [h1], fun i o' hi => ?_, h3⟩
      cases i with
      | zero => simp at hi; subst hi; exact .inl ⟨by simpa [runv_nil] using hw, by simpa [runv_nil] using hv⟩
      | succ i => simp at hi; simpa [runv] using h2 i o' hi
    · rw [if_neg hw] at h
      obtain ⟨vs, h1, h2, h3⟩ := quiet_vals M _ h
      refine ⟨undef :: vs, by simp [h1], fun i o' hi => ?_, h3⟩
      cases i with
      | zero => simp at hi; subst hi; exact .inr ⟨by simpa [runv_nil] using hw, rfl⟩
      | succ i => simp at hi; simpa [runv] using h2 i o' hi
theorem runv_defers : ∀ (M : List Oper) (vs : List Value) (a : Act), (runv M vs a).defers = a.defers
  | [], vs, a => by rw [runv_nil]
  | o :: M, [], a => rfl
  | o :: M, v :: vs, a => by rw [runv, runv_defers M vs]; cases o.dst <;> rfl
theorem runv_size : ∀ (M : List Oper) (vs : List Value) (a : Act), (runv M vs a).tmps.size = a.tmps.size
  | [], vs, a => by rw [runv_nil]
  | o :: M, [], a => rfl
  | o :: M, v :: vs, a => by rw [runv, runv_size M vs]; cases o.dst <;> simp [Act.put]
theorem put_other {o : Oper} {a : Act} {v : Value} {t : Nat} (h : o.dst ≠ some t) : (a.put o.dst v).tmps[t]? = a.tmps[t]? := by
  cases hd : o.dst with
  | none => rfl
  | some d => simp only [Act.put]; rw [Array.getElem?_setIfInBounds_ne (fun e => h (by rw [hd, e]))]
theorem runv_other : ∀ (M : List Oper) (vs : List Value) (a : Act) (t : Nat), (∀ o ∈ M, o.dst ≠ some t) → (runv M vs a).tmps[t]? = a.tmps[t]?
  | [], vs, a, t, _ => by rw [runv_nil]
  | o :: M, [], a, t, _ => rfl
  | o :: M, v :: vs, a, t, h => by rw [runv, runv_other M vs _ t (fun o' ho' => h o' (by simp [ho'])), put_other (h o (by simp))]
theorem runv_at : ∀ (M : List Oper) (vs : List Value) (a : Act) (j d : Nat) (o : Oper), vs.length = M.length → M[j]? = some o → o.dst = some d → d < a.tmps.size → (∀ i o', M[i]? = some o' → i ≠ j → o'.dst ≠ some d) → (runv M vs a).tmps[d]? = some (vs.getD j undef)
  | [], vs, a, j, d, o, _, h, _, _, _ => by simp at h
  | o :: M, [], a, j, d, o1, hl, _, _, _, _ => by simp at hl
  | o :: M, v :: vs, a, j, d, o1, hl, h, hd, hlt, hne => by
    rw [runv]
    cases j with
    | zero =>
      simp at h
      subst h
      rw [runv_other M vs _ d (fun o' ho' => by
        obtain ⟨i, hi⟩ := List.mem_iff_getElem?.1 ho'
        exact hne (i + 1) o' (by simpa using hi) (by omega))]
      rw [hd]
      simp [Act.put, hlt]
    | succ j =>
      simp at h
      rw [runv_at M vs (a.put o.dst v) j d o1 (by simpa using hl) h hd (by cases o.dst <;> simpa [Act.put] using hlt) (fun i o' hi hij => hne (i + 1) o' (by simpa using hi) (by omega))]
      simp
end

/-- Each of the first m operations waits for those whose slots it looks at. -/
def operB (l : List Oper) (m : Nat) : Bool := (List.range m).all fun i => match l[i]? with
  | none => false
  | some o => (match o.op with | .select _ _ => false | _ => true) && (o.looksAt l.toArray).all fun t => (List.range m).all fun j => !Nat.beq (dstAt l j) t || (o.after.toList.any fun e => Region.binds .any e && Nat.beq e.on j)
theorem operB_spec {l : List Oper} {m : Nat} (h : operB l m = true) : ∀ i o, i < m → l[i]? = some o → (∀ cs b, o.op ≠ .select cs b) ∧ ∀ t ∈ o.looksAt l.toArray, ∀ j, j < m → dstAt l j = t → depOn l.toArray i j := by
  intro i o hi ho
  have h1 := List.all_eq_true.1 h i (by simpa using hi)
  rw [ho] at h1
  simp only [Bool.and_eq_true] at h1
  refine ⟨fun cs b e => by rw [e] at h1; simp at h1, fun t ht j hj hd => ?_⟩
  have h2 := List.all_eq_true.1 h1.2 t ht
  have h3 := List.all_eq_true.1 h2 j (by simpa using hj)
  simp only [Bool.or_eq_true, Bool.not_eq_true'] at h3
  rcases h3 with h3 | h3
  · exact absurd hd (Nat.ne_of_beq_eq_false h3)
  · obtain ⟨e, he, hb⟩ := List.any_eq_true.1 h3
    simp only [Bool.and_eq_true] at hb
    exact ⟨o, by simpa using ho, e, he, hb.1, Nat.eq_of_beq_eq_true hb.2⟩
theorem yielded_congr {ops : Array Oper} {s t : Array Value} {g : Nat} (h : ∀ d, (ops[g]?).bind (·.dst) = some d → s[d]? = t[d]?) : yielded ops s g = yielded ops t g := by
  unfold yielded
  cases hd : (ops[g]?).bind (·.dst) with
  | none => rfl
  | some d => simp only [Option.bind_some]; rw [h d hd]

section
variable {P : Program} {fn : Func} {E : Fin} {n : Sz} {Q : Act → World → Prop} {k : List Item} {f : Fr} {w : World} {ops : Array Oper} {rest : List Oper}
theorem GQ.tail (h : ∀ w', Ext w w' → GL P n Q ops rest f w') : GQ P n (fun a w' => wpX P ops Q rest a w') ops [] f w := fun a ha w' he => h w' he a ha
def InvQ (l : List Oper) (m : Nat) (vs : List Value) (w : World) (a : Act) (listed : Array Bool) (a' : Act) (w' : World) : Prop :=
  Ext w w' ∧ a'.defers = a.defers ∧ a'.tmps.size = a.tmps.size ∧ (∀ t, (∀ j, j < m → dstAt l j ≠ t) → a'.tmps[t]? = a.tmps[t]?) ∧ (∀ j, j < m → listed.getD j false = true → a'.tmps[dstAt l j]? = some (vs.getD j undef)) ∧
      (∀ j, j < m → listed.getD j false = false → a'.tmps[dstAt l j]? = a.tmps[dstAt l j]?)
theorem G.quietTail {id : Nat} {l : List Oper} (m : Nat) (hfo : P.follows .mixedOrders = true) (hm : Nat.ble m l.length = true) (hB : tailB l m = true) (hS : slotsB l m n.size = true) (hO : operB l m = true)
    (h : GQ P n (fun a w' => wpX P l.toArray (GoA P fn E n k) (l.drop m) a w') l.toArray (l.take m) f w) : G P fn E n (.code (.region id l.toArray true) :: k) f w := by
  refine G.anyOrder hfo fun a ha => ?_
  have hm' : m ≤ l.length := by simpa [Nat.ble_eq] using hm
  obtain ⟨hs1, hs2⟩ := slots_spec hS
  have hop := operB_spec hO
  obtain ⟨hback, _⟩ := tailB_spec hB
  obtain ⟨vs, hvl, hvy, hvq⟩ := quiet_vals (C := fun w' => Ext w w') _ a (h a ha)
  have htl : (l.take m).length = m := by simp; omega
  rw [htl] at hvl
  have hdst : ∀ i, i < m → ∃ o, l[i]? = some o ∧ (l.take m)[i]? = some o ∧ o.dst = some (dstAt l i) ∧ dstAt l i < a.tmps.size := fun i hi => by
    obtain ⟨o, h1, h2, h3⟩ := hs1 i hi
    exact ⟨o, h1, by rw [List.getElem?_take, if_pos hi]; exact h1, h2, by rw [ha.size]; simpa [Nat.blt_eq] using h3⟩
  have hmem : ∀ (q : Nat) (o : Oper), q ≤ m → ∀ i, ((l.take m).take q)[i]? = some o → i < q ∧ l[i]? = some o ∧ o.dst = some (dstAt l i) := fun q o hq i hi => by
    rw [List.getElem?_take] at hi
    split at hi
    · rename_i h1
      obtain ⟨o', h2, h3, h4, _⟩ := hdst i (by omega)
      rw [h3] at hi; cases hi
      exact ⟨h1, h2, h4⟩
    · cases hi
  have hAat : ∀ q, q ≤ m → ∀ j, j < q → (runv ((l.take m).take q) (vs.take q) a).tmps[dstAt l j]? = some (vs.getD j undef) := fun q hq j hj => by
    obtain ⟨o, h1, h2, h3, h4⟩ := hdst j (by omega)
    have := runv_at ((l.take m).take q) (vs.take q) a j (dstAt l j) o (by simp; omega) (by rw [List.getElem?_take, if_pos hj]; exact h2) h3 h4 (fun i o' hi hij => by
      obtain ⟨h5, h6, h7⟩ := hmem q o' hq i hi
      rw [h7]
      exact fun e => hs2 i j (by omega) (by omega) hij (by simpa using e))
    rw [this]
    simp [List.getD, List.getElem?_take, hj]
  have hAother : ∀ q, q ≤ m → ∀ t, (∀ j, j < q → dstAt l j ≠ t) → (runv ((l.take m).take q) (vs.take q) a).tmps[t]? = a.tmps[t]? := fun q hq t ht => by
    refine runv_other _ _ _ t fun o ho => ?_
    obtain ⟨i, hi⟩ := List.mem_iff_getElem?.1 ho
    obtain ⟨h5, h6, h7⟩ := hmem q o hq i hi
    rw [h7]
    exact fun e => ht i h5 (by simpa using e)
  refine xAny_start (m := m) hm' hB (InvQ l m vs w a) ?_ ?_ ?_
  · exact ⟨ext_draw w, rfl, rfl, fun _ _ => rfl, fun i hi h => by simp [Array.getD_eq_getD_getElem?, Array.getElem?_replicate] at h; split at h <;> simp at h, fun _ _ _ => rfl⟩
  · rintro listed a' w' i o ho hi hls hun hdep ⟨he, hde, hsz, hoth, hli, hnl⟩
    obtain ⟨o', ho', ht', hd, hlt⟩ := hdst i hi
    rw [ho] at ho'
    cases ho'
    have hy := hvy i o ht'
    obtain ⟨hsel, hlook⟩ := hop i o hi ho
    have hslot : ∀ t ∈ o.looksAt l.toArray, a'.tmps[t]? = (runv ((l.take m).take i) (vs.take i) a).tmps[t]? := fun t ht => by
      by_cases hex : ∃ j, j < m ∧ dstAt l j = t
      · obtain ⟨j, hj, rfl⟩ := hex
        have hdj := hlook _ ht j hj rfl
        rw [hli j hj (hdep j hdj), hAat i (by omega) j (hback i j hdj)]
      · have hno : ∀ j, j < m → dstAt l j ≠ t := fun j hj e => hex ⟨j, hj, e⟩
        rw [hoth t hno, hAother i (by omega) t (fun j hj => hno j (by omega))]
    have hex : execOp a'.eval o = execOp (runv ((l.take m).take i) (vs.take i) a).eval o := execOp_congr o hsel fun x hx => by
      cases x with
      | tmp t =>
        have : t ∈ o.looksAt l.toArray := by
          unfold Oper.looksAt
          refine List.mem_append.2 (.inl ?_)
          exact List.mem_filterMap.2 ⟨.tmp t, by simpa using hx, rfl⟩
        simp only [Act.eval, Array.getD_eq_getD_getElem?, hslot t this]
      | _ => rfl
    have hwant : Region.wanted o (yielded l.toArray a'.tmps) = Region.wanted o (yielded l.toArray (runv ((l.take m).take i) (vs.take i) a).tmps) := by
      unfold Region.wanted
      cases hg : o.guard with
      | none => rfl
      | some g =>
        simp only
        rw [yielded_congr fun d hd' => hslot d (by
          unfold Oper.looksAt
          refine List.mem_append.2 (.inr ?_)
          rw [hg]
          simpa using hd')]
    have hy' := hy.of_same hex hwant
    have hnext : ∀ w'', Ext w w'' → InvQ l m vs w a (listed.setIfInBounds i true) (a'.put o.dst (vs.getD i undef)) w'' := fun w'' he'' => by
      refine ⟨he'', by rw [hd]; exact hde, by rw [hd]; simpa [Act.put] using hsz, fun t ht => ?_, fun j hj hlj => ?_, fun j hj hlj => ?_⟩
      · rw [put_other (by rw [hd]; exact fun e => ht i hi (by simpa using e))]; exact hoth t ht
      · by_cases e : i = j
        · subst e; rw [hd]; simp [Act.put, hsz, hlt]
        · rw [getD_set _ _ _ (by omega), if_neg e] at hlj
          rw [put_other (by rw [hd]; exact fun e' => hs2 i j hi hj e (by simpa using e'))]
          exact hli j hj hlj
      · by_cases e : i = j
        · subst e; rw [getD_set _ _ _ (by omega), if_pos rfl] at hlj; cases hlj
        · rw [getD_set _ _ _ (by omega), if_neg e] at hlj
          rw [put_other (by rw [hd]; exact fun e' => hs2 i j hi hj e (by simpa using e'))]
          exact hnl j hj hlj
    unfold xOp
    rw [show l.toArray[i]? = some o by simpa using ho]
    simp only
    rcases hy' with ⟨hw, hq⟩ | ⟨hw, hv⟩
    · rw [if_pos hw]
      exact opX_of_quiet (C := fun w' => Ext w w') (K := fun a'' => a'' = a'.put o.dst (vs.getD i undef)) (K' := fun a'' w'' => InvQ l m vs w a (listed.setIfInBounds i true) a'' w'') he (fun a'' w'' he'' e => by subst e; exact hnext w'' he'') ⟨_, hq, rfl⟩
    · rw [if_neg (by rw [hw]; simp)]
      have := hnext w' he
      rw [hv] at this
      exact this
  · rintro listed a' w' hall ⟨he, hde, hsz, hoth, hli, hnl⟩
    have e1 : a' = runv (l.take m) vs a := by
      have et : a'.tmps = (runv (l.take m) vs a).tmps := by
        apply Array.ext_getElem?
        intro t
        have e2 : runv (l.take m) vs a = runv ((l.take m).take m) (vs.take m) a := by
          have e3 : (l.take m).take m = l.take m := by rw [List.take_take, Nat.min_self]
          have e4 : vs.take m = vs := List.take_of_length_le (by omega)
          rw [e3, e4]
        rw [e2]
        by_cases hex : ∃ j, j < m ∧ dstAt l j = t
        · obtain ⟨j, hj, rfl⟩ := hex
          rw [hli j hj (hall j hj), hAat m (Nat.le_refl _) j hj]
        · have hno : ∀ j, j < m → dstAt l j ≠ t := fun j hj e => hex ⟨j, hj, e⟩
          rw [hoth t hno, hAother m (Nat.le_refl _) t hno]
      have ed : a'.defers = (runv (l.take m) vs a).defers := by rw [runv_defers, hde]
      cases a' with
      | mk t1 d1 =>
        cases hr : runv (l.take m) vs a with
        | mk t2 d2 => rw [hr] at et ed; simp only at et ed; rw [et, ed]
    rw [e1]
    exact hvq w' he
end
end Go.Bd
/-
  REGIONS THAT DRAW THEIR ORDER AND MAKE MEMORY: one walk in one order of one's choosing.
-/
set_option linter.unusedVariables false
set_option linter.unusedSimpArgs false
namespace Go.Bd
open Go.RowKit

section
variable (P : Program) (ops : Array Oper) (Q : Act → World → Prop)
/-- What an operation yields in every later world. -/
def qX (o : Oper) (a : Act) (w : World) (v : Value) : Prop := ∀ w', Ext w w' → opX P o a w' fun u w'' => u = v ∧ Ext w' w''
/-- The operations in the order of the walk; those that are marked may make memory that is handed on. -/
def wpS : List (Oper × Bool) → Act → World → Prop
  | [], a, w => ∀ w', Ext w w' → Q a w'
  | (o, b) :: rest, a, w => if Region.wanted o (yielded ops a.tmps) then
      (match b with
        | true => ∀ w', Ext w w' → opX P o a w' fun v w'' => Ext w' w'' ∧ wpS rest (a.put o.dst v) w''
        | false => ∃ v, qX P o a w v ∧ wpS rest (a.put o.dst v) w)
    else wpS rest (a.put o.dst undef) w
end
section
variable {P : Program} {ops : Array Oper} {Q : Act → World → Prop}
theorem opX_congr {o : Oper} {a b : Act} {w : World} {K : Value → World → Prop} (h : execOp a.eval o = execOp b.eval o) : opX P o a w K = opX P o b w K := by
  unfold opX; rw [h]
theorem wanted_congr {o : Oper} {a b : Act} (h : ∀ t ∈ o.looksAt ops, a.tmps[t]? = b.tmps[t]?) : Region.wanted o (yielded ops a.tmps) = Region.wanted o (yielded ops b.tmps) := by
  unfold Region.wanted
  cases hg : o.guard with
  | none => rfl
  | some g =>
    simp only
    rw [yielded_congr fun d hd => h d (by
      unfold Oper.looksAt
      refine List.mem_append.2 (.inr ?_)
      rw [hg]
      simpa using hd)]
theorem exec_congr {o : Oper} {a b : Act} (hs : ∀ cs b, o.op ≠ .select cs b) (h : ∀ t ∈ o.looksAt ops, a.tmps[t]? = b.tmps[t]?) : execOp a.eval o = execOp b.eval o :=
  execOp_congr o hs fun x hx => by
    cases x with
    | tmp t =>
      have : t ∈ o.looksAt ops := by
        unfold Oper.looksAt
        refine List.mem_append.2 (.inl ?_)
        exact List.mem_filterMap.2 ⟨.tmp t, by simpa using hx, rfl⟩
      simp only [Act.eval, Array.getD_eq_getD_getElem?, h t this]
    | _ => rfl
/-- What is settled of an operation that is not yet run. -/
def Yq (P : Program) (ops : Array Oper) (o : Oper) (V : Act) (w : World) (v : Value) : Prop :=
  (Region.wanted o (yielded ops V.tmps) = true ∧ qX P o V w v) ∨ (Region.wanted o (yielded ops V.tmps) = false ∧ v = undef)
theorem Yq.congr {o : Oper} {V V' : Act} {w w' : World} {v : Value} (hs : ∀ cs b, o.op ≠ .select cs b) (h : ∀ t ∈ o.looksAt ops, V'.tmps[t]? = V.tmps[t]?) (he : Ext w w') (hy : Yq P ops o V w v) : Yq P ops o V' w' v := by
  have e1 := wanted_congr (ops := ops) h
  rcases hy with ⟨h1, h2⟩ | ⟨h1, h2⟩
  · refine .inl ⟨e1.trans h1, fun w'' he' => ?_⟩
    rw [opX_congr (exec_congr (ops := ops) hs h)]
    exact h2 w'' (he.trans he')
  · exact .inr ⟨e1.trans h1, h2⟩
end

def o0 : Oper := ⟨none, .move (.const undef), 0, "", #[], none⟩
abbrev opAt (l : List Oper) (i : Nat) : Oper := l.getD i o0
/-- The order of the walk, with its marks. -/
def flags (l : List Oper) (A : List Nat) (π : List Nat) : List (Oper × Bool) := π.map fun i => (l.getD i o0, A.contains i)
/-- What the order must keep. -/
def Good (l : List Oper) (A : List Nat) (m : Nat) : List Nat → Prop
  | [] => True
  | i :: rest => i < m ∧ (∀ cs b, (opAt l i).op ≠ .select cs b) ∧ (∀ j ∈ i :: rest, dstAt l j ∉ (opAt l i).looksAt l.toArray) ∧ (∀ j ∈ rest, j ≠ i) ∧ (A.contains i = true → ∀ j ∈ rest, Reach l.toArray i j) ∧ Good l A m rest
def goodB (l : List Oper) (A : List Nat) (m : Nat) (K : List Nat) : List Nat → Bool
  | [] => true
  | i :: rest => Nat.blt i m && (match (opAt l i).op with | .select _ _ => false | _ => true) && ((i :: rest).all fun j => ((opAt l i).looksAt l.toArray).all fun t => !Nat.beq (dstAt l j) t) && (rest.all fun j => !Nat.beq j i) && (!A.contains i || rest.all fun j => (K.getD j 0).testBit i) && goodB l A m K rest
theorem good_of {l : List Oper} {A : List Nat} {m : Nat} : ∀ (π : List Nat), goodB l A m (masks l []) π = true → Good l A m π
  | [], _ => trivial
  | i :: rest, h => by
    simp only [goodB, Bool.and_eq_true] at h
    obtain ⟨⟨⟨⟨⟨h1, h2⟩, h3⟩, h4⟩, h5⟩, h6⟩ := h
    refine ⟨by simpa [Nat.blt_eq] using h1, fun cs b e => (by rw [e] at h2; simp at h2), fun j hj ht => ?_, fun j hj e => ?_, fun hA j hj => ?_, good_of rest h6⟩
    · have := List.all_eq_true.1 (List.all_eq_true.1 h3 j hj) _ ht
      simp only [Bool.not_eq_true'] at this
      exact Nat.ne_of_beq_eq_false this rfl
    · have := List.all_eq_true.1 h4 j hj
      simp only [Bool.not_eq_true'] at this
      exact Nat.ne_of_beq_eq_false this e
    · simp only [hA, Bool.not_true, Bool.false_or] at h5
      have h7 := List.all_eq_true.1 h5 j hj
      cases hk : (masks l [])[j]? with
      | none => simp [List.getD, hk] at h7
      | some k =>
        simp only [List.getD, hk, Option.getD_some] at h7
        exact masks_ok (ops := l.toArray) l [] (fun i => by simp) (fun i m hi => by simp at hi) j k hk i h7

section
variable {P : Program} {l : List Oper} {A : List Nat} {m : Nat} {Q : Act → World → Prop}
/-- The quiet ones at the front are settled. -/
theorem settle (hdst : ∀ i, i < m → (opAt l i).dst = some (dstAt l i)) (hne : ∀ i j, i < m → j < m → i ≠ j → dstAt l i ≠ dstAt l j) : ∀ (π : List Nat) (V : Act) (wb : World), Good l A m π → (∀ i ∈ π, dstAt l i < V.tmps.size) → wpS P l.toArray Q (flags l A π) V wb →
    ∃ (d t : List Nat) (V' : Act) (val : Nat → Value), π = d ++ t ∧ (∀ h r, t = h :: r → A.contains h = true) ∧ wpS P l.toArray Q (flags l A t) V' wb ∧ V'.defers = V.defers ∧ V'.tmps.size = V.tmps.size ∧
      (∀ i ∈ d, V'.tmps[dstAt l i]? = some (val i)) ∧ (∀ t, (∀ i ∈ d, dstAt l i ≠ t) → V'.tmps[t]? = V.tmps[t]?) ∧ (∀ i ∈ d, Yq P l.toArray (opAt l i) V' wb (val i))
  | [], V, wb, _, _, h => ⟨[], [], V, fun _ => undef, rfl, (fun h r e => nomatch e), h, rfl, rfl, (fun i hi => nomatch hi), (fun _ _ => rfl), (fun i hi => nomatch hi)⟩
  | i :: rest, V, wb, hg, hsz, h => by
    obtain ⟨him, hsel, hlook, hnd, hreach, hgr⟩ := hg
    cases hA : A.contains i with
    | true => exact ⟨[], i :: rest, V, fun _ => undef, rfl, (fun h r e => by cases e; exact hA), h, rfl, rfl, (fun i hi => nomatch hi), (fun _ _ => rfl), (fun i hi => nomatch hi)⟩
    | false =>
      have hlen : ∀ (rest : List Nat), Good l A m rest → ∀ j ∈ rest, j < m := by
        intro rest
        induction rest with
        | nil => intro _ j hj; cases hj
        | cons k r ih =>
          intro hg j hj
          rcases List.mem_cons.1 hj with e | e
          · subst e; exact hg.1
          · exact ih hg.2.2.2.2.2 j e
      have key : ∃ v, wpS P l.toArray Q (flags l A rest) (V.put (opAt l i).dst v) wb ∧ Yq P l.toArray (opAt l i) V wb v := by
        simp only [flags, List.map_cons, wpS, hA] at h
        by_cases hw : Region.wanted (opAt l i) (yielded l.toArray V.tmps) = true
        · rw [if_pos hw] at h
          obtain ⟨v, h1, h2⟩ := h
          exact ⟨v, h2, .inl ⟨hw, h1⟩⟩
        · rw [if_neg hw] at h
          exact ⟨undef, h, .inr ⟨by simpa using hw, rfl⟩⟩
      obtain ⟨v, hk, hy⟩ := key
      have hd := hdst i him
      rw [hd] at hk
      have hdl := hsz i (by simp)
      obtain ⟨d, t, V', val, e1, e2, e3, e4, e5, e6, e7, e8⟩ := settle hdst hne rest (V.put (some (dstAt l i)) v) wb hgr (fun j hj => by simpa [Act.put] using hsz j (by simp [hj])) hk
      have hdm : ∀ j ∈ d, j < m := fun j hj => hlen rest hgr j (by rw [e1]; simp [hj])
      have hdi : ∀ j ∈ d, j ≠ i := fun j hj => hnd j (by rw [e1]; simp [hj])
      refine ⟨i :: d, t, V', fun j => if j = i then v else val j, by rw [e1]; rfl, e2, e3, by rw [e4]; rfl, by rw [e5]; simp [Act.put], fun j hj => ?_, fun s hs => ?_, fun j hj => ?_⟩
      · rcases List.mem_cons.1 hj with e | e
        · subst e
          simp only [if_true]
          rw [e7 _ fun q hq => hne q j (hdm q hq) him (hdi q hq)]
          simp [Act.put, hdl]
        · simp only [if_neg (hdi j e)]
          exact e6 j e
      · rw [e7 s fun q hq => hs q (by simp [hq])]
        simp only [Act.put]
        rw [Array.getElem?_setIfInBounds_ne (hs i (by simp))]
      · rcases List.mem_cons.1 hj with e | e
        · subst e
          simp only [if_true]
          refine hy.congr hsel (fun s hs => ?_) (Ext.refl _)
          rw [e7 s fun q hq e => hlook q (by rw [e1]; simp [hq]) (by rw [e]; exact hs)]
          simp only [Act.put]
          rw [Array.getElem?_setIfInBounds_ne (fun e => hlook j (by simp) (by rw [e]; exact hs))]
        · simp only [if_neg (hdi j e)]
          exact e8 j e
end
end Go.Bd
/-
  REGIONS THAT DRAW THEIR ORDER AND MAKE MEMORY: the rule.
-/
set_option linter.unusedVariables false
set_option linter.unusedSimpArgs false
namespace Go.Bd
open Go.RowKit

section
variable {l : List Oper} {A : List Nat} {m : Nat}
theorem Good.lt : ∀ {π : List Nat}, Good l A m π → ∀ i ∈ π, i < m
  | [], _, i, hi => nomatch hi
  | k :: r, h, i, hi => by
    rcases List.mem_cons.1 hi with e | e
    · subst e; exact h.1
    · exact Good.lt h.2.2.2.2.2 i e
theorem Good.tail : ∀ {d t : List Nat}, Good l A m (d ++ t) → Good l A m t
  | [], t, h => h
  | k :: d, t, h => Good.tail (d := d) h.2.2.2.2.2
theorem Good.looks : ∀ {d t : List Nat}, Good l A m (d ++ t) → ∀ i ∈ d, ∀ j ∈ t, dstAt l j ∉ (opAt l i).looksAt l.toArray
  | [], t, h, i, hi => nomatch hi
  | k :: d, t, h, i, hi => by
    intro j hj
    rcases List.mem_cons.1 hi with e | e
    · subst e; exact h.2.2.1 j (by simp [hj])
    · exact Good.looks (d := d) h.2.2.2.2.2 i e j hj
theorem Good.ne : ∀ {d t : List Nat}, Good l A m (d ++ t) → ∀ i ∈ d, ∀ j ∈ t, j ≠ i
  | [], t, h, i, hi => nomatch hi
  | k :: d, t, h, i, hi => by
    intro j hj
    rcases List.mem_cons.1 hi with e | e
    · subst e; exact h.2.2.2.1 j (by simp [hj])
    · exact Good.ne (d := d) h.2.2.2.2.2 i e j hj
theorem Good.sel : ∀ {π : List Nat}, Good l A m π → ∀ i ∈ π, ∀ cs b, (opAt l i).op ≠ .select cs b
  | [], _, i, hi => nomatch hi
  | k :: r, h, i, hi => by
    rcases List.mem_cons.1 hi with e | e
    · subst e; exact h.2.1
    · exact Good.sel h.2.2.2.2.2 i e
end

section
variable (P : Program) (l : List Oper) (A : List Nat) (Q : Act → World → Prop) (π : List Nat) (a : Act)
structure InvS (d t : List Nat) (V : Act) (wb : World) (val : Nat → Value) (listed : Array Bool) (a' : Act) (w' : World) : Prop where
  parts : π = d ++ t
  closed : Closed l.toArray listed
  head : ∀ h r, t = h :: r → A.contains h = true
  un : ∀ i ∈ t, listed.getD i false = false
  walk : wpS P l.toArray Q (flags l A t) V wb
  ext : Ext wb w'
  vd : V.defers = a.defers
  vs : V.tmps.size = a.tmps.size
  vval : ∀ i ∈ d, V.tmps[dstAt l i]? = some (val i)
  voth : ∀ s, (∀ i ∈ d, dstAt l i ≠ s) → V.tmps[s]? = a.tmps[s]?
  yq : ∀ i ∈ d, listed.getD i false = false → Yq P l.toArray (opAt l i) V wb (val i)
  ad : a'.defers = a.defers
  asz : a'.tmps.size = a.tmps.size
  aval : ∀ i ∈ d, listed.getD i false = true → a'.tmps[dstAt l i]? = some (val i)
  aoth : ∀ s, (∀ i ∈ d, listed.getD i false = true → dstAt l i ≠ s) → a'.tmps[s]? = a.tmps[s]?
end
section
variable (P : Program) (n : Sz) (Q : Act → World → Prop)
def GS (ops : Array Oper) (rest : List (Oper × Bool)) (f : Fr) (w : World) : Prop := ∀ a, St n f a → wpS P ops Q rest a w
end
section
variable {P : Program} {fn : Func} {E : Fin} {n : Sz} {Q : Act → World → Prop} {k : List Item} {f : Fr} {w : World} {ops : Array Oper} {rest : List Oper}
theorem G.drawS {id : Nat} {l : List Oper} (m : Nat) (π A : List Nat) (hfo : P.follows .mixedOrders = true) (hm : Nat.ble m l.length = true) (hB : tailB l m = true) (hS : slotsB l m n.size = true) (hO : operB l m = true) (hG : goodB l A m (masks l []) π = true) (hperm : ((List.range m).all fun i => π.contains i) = true)
    (h : GS P n (fun a w' => wpX P l.toArray (GoA P fn E n k) (l.drop m) a w') l.toArray (flags l A π) f w) : G P fn E n (.code (.region id l.toArray true) :: k) f w := by
  refine G.anyOrder hfo fun a ha => ?_
  have hm' : m ≤ l.length := by simpa [Nat.ble_eq] using hm
  obtain ⟨hs1, hs2⟩ := slots_spec hS
  have hop := operB_spec hO
  have hgood := good_of π hG
  have hmem : ∀ i, i < m → i ∈ π := fun i hi => by
    have := List.all_eq_true.1 hperm i (by simpa using hi)
    simpa using this
  have hopat : ∀ i o, l[i]? = some o → opAt l i = o := fun i o ho => by simp [opAt, List.getD, ho]
  have hdst : ∀ i, i < m → (opAt l i).dst = some (dstAt l i) := fun i hi => by
    obtain ⟨o, h1, h2, _⟩ := hs1 i hi
    rw [hopat i o h1]; exact h2
  have hsz : ∀ i, i < m → dstAt l i < a.tmps.size := fun i hi => by
    obtain ⟨o, _, _, h3⟩ := hs1 i hi
    rw [ha.size]; simpa [Nat.blt_eq] using h3
  have hne : ∀ i j, i < m → j < m → i ≠ j → dstAt l i ≠ dstAt l j := fun i j h1 h2 h3 => hs2 i j h1 h2 h3
  have hlt := hgood.lt
  -- the frames agree on what an operation looks at
  have agree : ∀ {d t V wb val listed a' w'}, InvS P l A (fun a w' => wpX P l.toArray (GoA P fn E n k) (l.drop m) a w') π a d t V wb val listed a' w' → ∀ i, i < m → (∀ j, depOn l.toArray i j → listed.getD j false = true) → ∀ s ∈ (opAt l i).looksAt l.toArray, a'.tmps[s]? = V.tmps[s]? := by
    intro d t V wb val listed a' w' hI i hi hdep s hs
    obtain ⟨o, ho, _, _⟩ := hs1 i hi
    rw [hopat i o ho] at hs
    by_cases hex : ∃ j, j < m ∧ dstAt l j = s
    · obtain ⟨j, hj, rfl⟩ := hex
      have hlj := hdep j ((hop i o hi ho).2 _ hs j hj rfl)
      have hjd : j ∈ d := by
        have := hmem j hj
        rw [hI.parts, List.mem_append] at this
        rcases this with h1 | h1
        · exact h1
        · rw [hI.un j h1] at hlj; cases hlj
      rw [hI.aval j hjd hlj, hI.vval j hjd]
    · have hno : ∀ j, j < m → dstAt l j ≠ s := fun j hj e => hex ⟨j, hj, e⟩
      have hd : ∀ j ∈ d, j < m := fun j hj => hlt j (by rw [hI.parts]; simp [hj])
      rw [hI.aoth s fun j hj _ => hno j (hd j hj), hI.voth s fun j hj => hno j (hd j hj)]
  obtain ⟨d, t, V, val, e1, e2, e3, e4, e5, e6, e7, e8⟩ := settle hdst hne π a w hgood (fun i hi => hsz i (hlt i hi)) (h a ha)
  have hrep : ∀ (N j : Nat), (Array.replicate N false).getD j false = false := fun N j => by
    rw [Array.getD_eq_getD_getElem?, Array.getElem?_replicate]; split <;> rfl
  refine xAny_start (m := m) hm' hB (fun listed a' w' => ∃ d t V wb val, InvS P l A (fun a w' => wpX P l.toArray (GoA P fn E n k) (l.drop m) a w') π a d t V wb val listed a' w') ?_ ?_ ?_
  · exact ⟨d, t, V, w, val, e1, fun i j h => (by rw [hrep] at h; cases h), e2, fun i _ => hrep _ i, e3, ext_draw w, e4, e5, e6, e7, fun i hi _ => e8 i hi, rfl, rfl, fun i _ h => (by rw [hrep] at h; cases h), fun _ _ => rfl⟩
  · rintro listed a' w' i o ho hi hls hun hdep ⟨d, t, V, wb, val, hI⟩
    have hag := agree hI i hi hdep
    have hoi := hopat i o ho
    have hun' : listed.getD i false = false := by rw [getD_swap (by omega) false true]; exact hun
    have hcl := closed_set (i := i) (by omega) hI.closed hdep
    have hset : ∀ j, (listed.setIfInBounds i true).getD j false = if i = j then true else listed.getD j false := fun j => getD_set _ _ _ (by omega) false
    have hip := hmem i hi
    rw [hI.parts, List.mem_append] at hip
    have hsel := hgood.sel i (hmem i hi)
    have hdl := hsz i hi
    have hd' : o.dst = some (dstAt l i) := by rw [← hoi]; exact hdst i hi
    unfold xOp
    rw [show l.toArray[i]? = some o by simpa using ho]
    simp only
    rw [← hoi]
    rw [← hoi] at hd'
    have hwc := wanted_congr (ops := l.toArray) hag
    have hdm : ∀ j ∈ d, j < m := fun j hj => hlt j (by rw [hI.parts]; simp [hj])
    have hgp : Good l A m (d ++ t) := hI.parts ▸ hgood
    rcases hip with hid | hit
    · obtain ⟨vi, hvi⟩ : ∃ vi, vi = val i := ⟨_, rfl⟩
      have hnew : ∀ w'', Ext w' w'' → ∃ d t V wb val, InvS P l A (fun a w' => wpX P l.toArray (GoA P fn E n k) (l.drop m) a w') π a d t V wb val (listed.setIfInBounds i true) (a'.put (opAt l i).dst vi) w'' := by
        intro w'' he
        subst hvi
        refine ⟨d, t, V, wb, val, hI.parts, hcl, hI.head, fun j hj => ?_, hI.walk, hI.ext.trans he, hI.vd, hI.vs, hI.vval, hI.voth, fun j hj hlj => ?_, ?_, ?_, fun j hj hlj => ?_, fun s hs => ?_⟩
        · rw [hset, if_neg (fun e => hgp.ne i hid j hj e.symm)]; exact hI.un j hj
        · rw [hset] at hlj
          split at hlj
          · cases hlj
          · exact hI.yq j hj hlj
        · rw [hd']; exact hI.ad
        · rw [hd']; simpa [Act.put] using hI.asz
        · rw [hd']
          by_cases e : i = j
          · subst e; simp [Act.put, hI.asz, hdl]
          · rw [hset, if_neg e] at hlj
            simp only [Act.put]
            rw [Array.getElem?_setIfInBounds_ne (hne i j hi (hdm j hj) e)]
            exact hI.aval j hj hlj
        · rw [hd']
          have h1 := hs i hid (by rw [hset, if_pos rfl])
          simp only [Act.put]
          rw [Array.getElem?_setIfInBounds_ne h1]
          exact hI.aoth s fun j hj hlj => hs j hj (by rw [hset]; split <;> simp_all)
      rcases hI.yq i hid hun' with ⟨h1, h2⟩ | ⟨h1, h2⟩
      · rw [if_pos (hwc.trans h1), opX_congr (exec_congr (ops := l.toArray) hsel hag)]
        refine upx_mono (fun u w'' hu => ?_) (h2 w' hI.ext)
        obtain ⟨rfl, he⟩ := hu
        rw [← hvi]
        exact hnew w'' he
      · rw [if_neg (by rw [hwc, h1]; simp)]
        have := hnew w' (Ext.refl _)
        rw [hvi, h2] at this
        exact this
    · obtain ⟨h0, r, rfl⟩ : ∃ h0 r, t = h0 :: r := by
        cases t with
        | nil => cases hit
        | cons h0 r => exact ⟨h0, r, rfl⟩
      have hA0 := hI.head h0 r rfl
      have hgt := hgp.tail
      obtain ⟨hg1, hg2, hg3, hg4, hg5, hg6⟩ := hgt
      have hih : i = h0 := by
        rcases List.mem_cons.1 hit with e | e
        · exact e
        · have := reach_listed hI.closed (hg5 hA0 i e) hdep
          rw [hI.un h0 (by simp)] at this
          cases this
      subst hih
      have hw := hI.walk
      simp only [flags, List.map_cons, wpS, hA0] at hw
      have hnew : ∀ v wb' w'', Ext wb wb' → Ext wb' w'' → Ext w' w'' → wpS P l.toArray (fun a w' => wpX P l.toArray (GoA P fn E n k) (l.drop m) a w') (flags l A r) (V.put (opAt l i).dst v) wb' →
          ∃ d t V wb val, InvS P l A (fun a w' => wpX P l.toArray (GoA P fn E n k) (l.drop m) a w') π a d t V wb val (listed.setIfInBounds i true) (a'.put (opAt l i).dst v) w'' := by
        intro v wb' w'' h1 h2 h3 h4
        rw [hd'] at h4 ⊢
        obtain ⟨d', t', V', val', e1, e2, e3, e4, e5, e6, e7, e8⟩ := settle hdst hne r (V.put (some (dstAt l i)) v) wb' hg6 (fun j hj => by simpa [Act.put, hI.vs] using hsz j (hg6.lt j hj)) h4
        subst e1
        have hdm' : ∀ j ∈ d', j < m := fun j hj => hg6.lt j (by simp [hj])
        have hdi : ∀ j ∈ d', j ≠ i := fun j hj => hg4 j (by simp [hj])
        have hdd : ∀ j ∈ d, j ≠ i := fun j hj e => hgp.ne j hj i (by simp) e.symm
        have hdd' : ∀ j ∈ d, j ∉ d' := fun j hj hj' => hgp.ne j hj j (by simp [hj']) rfl
        have hti : ∀ j ∈ t', j ≠ i := fun j hj => hg4 j (by simp [hj])
        have hVi : V'.tmps[dstAt l i]? = some v := by
          rw [e7 _ fun q hq => hne q i (hdm' q hq) hi (hdi q hq)]
          simp [Act.put, hI.vs, hdl]
        refine ⟨d ++ i :: d', t', V', wb', fun j => if j = i then v else if j ∈ d' then val' j else val j, by rw [hI.parts]; simp, hcl, e2, fun j hj => ?_, e3, h2, by rw [e4]; exact hI.vd, by rw [e5]; simpa [Act.put] using hI.vs, fun j hj => ?_, fun s hs => ?_, fun j hj hlj => ?_, hI.ad, by simpa [Act.put] using hI.asz, fun j hj hlj => ?_, fun s hs => ?_⟩
        · rw [hset, if_neg (fun e => hti j hj e.symm)]; exact hI.un j (by simp [hj])
        · simp only [List.mem_append, List.mem_cons] at hj
          rcases hj with hj | rfl | hj
          · simp only [if_neg (hdd j hj), if_neg (hdd' j hj)]
            rw [e7 _ fun q hq => hne q j (hdm' q hq) (hdm j hj) (fun e => hdd' j hj (e ▸ hq))]
            simp only [Act.put]
            rw [Array.getElem?_setIfInBounds_ne (hne i j hi (hdm j hj) (fun e => hdd j hj e.symm))]
            exact hI.vval j hj
          · simp only [if_true]; exact hVi
          · simp only [if_neg (hdi j hj), if_pos hj]; exact e6 j hj
        · rw [e7 s fun q hq => hs q (by simp [hq])]
          simp only [Act.put]
          rw [Array.getElem?_setIfInBounds_ne (hs i (by simp))]
          exact hI.voth s fun q hq => hs q (by simp [hq])
        · simp only [List.mem_append, List.mem_cons] at hj
          rw [hset] at hlj
          split at hlj
          · cases hlj
          rename_i hij
          rcases hj with hj | rfl | hj
          · simp only [if_neg (hdd j hj), if_neg (hdd' j hj)]
            refine (hI.yq j hj hlj).congr (hgood.sel j (hmem j (hdm j hj))) (fun s hs => ?_) h1
            rw [e7 s fun q hq e => hgp.looks j hj q (by simp [hq]) (by rw [e]; exact hs)]
            simp only [Act.put]
            rw [Array.getElem?_setIfInBounds_ne (fun e => hgp.looks j hj i (by simp) (by rw [e]; exact hs))]
          · exact absurd rfl hij
          · simp only [if_neg (hdi j hj), if_pos hj]; exact e8 j hj
        · simp only [List.mem_append, List.mem_cons] at hj
          rcases hj with hj | rfl | hj
          · simp only [if_neg (hdd j hj), if_neg (hdd' j hj)]
            rw [hset, if_neg (fun e => hdd j hj e.symm)] at hlj
            simp only [Act.put]
            rw [Array.getElem?_setIfInBounds_ne (hne i j hi (hdm j hj) (fun e => hdd j hj e.symm))]
            exact hI.aval j hj hlj
          · simp [Act.put, hI.asz, hdl]
          · rw [hset, if_neg (fun e => hdi j hj e.symm), hI.un j (by simp [hj])] at hlj
            cases hlj
        · have h5 := hs i (by simp) (by rw [hset, if_pos rfl])
          simp only [Act.put]
          rw [Array.getElem?_setIfInBounds_ne h5]
          exact hI.aoth s fun j hj hlj => hs j (by simp [hj]) (by rw [hset]; split <;> simp_all)
      by_cases hwn : Region.wanted (opAt l i) (yielded l.toArray V.tmps) = true
      · rw [if_pos hwn] at hw
        rw [if_pos (hwc.trans hwn), opX_congr (exec_congr (ops := l.toArray) hsel hag)]
        refine upx_mono (fun v w'' hv => ?_) (hw w' hI.ext)
        exact hnew v w'' w'' (hI.ext.trans hv.1) (Ext.refl _) hv.1 hv.2
      · rw [if_neg hwn] at hw
        rw [if_neg (by rw [hwc]; exact hwn)]
        exact hnew undef wb w' (Ext.refl _) hI.ext (Ext.refl _) hw
  · rintro listed a' w' hall ⟨d, t, V, wb, val, hI⟩
    have ht : t = [] := by
      cases t with
      | nil => rfl
      | cons h0 r =>
        have h1 := hI.un h0 (by simp)
        have h2 : h0 < m := hlt h0 (by rw [hI.parts]; simp)
        rw [hall h0 h2] at h1
        cases h1
    subst ht
    have hwalk := hI.walk
    simp only [flags, List.map_nil, wpS] at hwalk
    have hdm : ∀ j ∈ d, j < m := fun j hj => hlt j (by rw [hI.parts]; simp [hj])
    have ea : a' = V := by
      have et : a'.tmps = V.tmps := by
        apply Array.ext_getElem?
        intro s
        by_cases hex : ∃ j, j ∈ d ∧ dstAt l j = s
        · obtain ⟨j, hj, rfl⟩ := hex
          rw [hI.aval j hj (hall j (hdm j hj)), hI.vval j hj]
        · have hno : ∀ j ∈ d, dstAt l j ≠ s := fun j hj e => hex ⟨j, hj, e⟩
          rw [hI.aoth s fun j hj _ => hno j hj, hI.voth s hno]
      have ed : a'.defers = V.defers := by rw [hI.ad, hI.vd]
      cases a' with
      | mk t1 d1 =>
        cases V with
        | mk t2 d2 => simp only at et ed; rw [et, ed]
    rw [ea]
    exact hwalk w' hI.ext
end
end Go.Bd
