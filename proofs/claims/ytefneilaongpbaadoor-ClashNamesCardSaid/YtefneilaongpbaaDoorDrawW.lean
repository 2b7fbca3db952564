import Derived.Test.YtefneilaongpbaaDoorDraws
import Derived.Test.YtefneilaongpbaaDoorOps
/-
  REGIONS THAT DRAW THEIR ORDER AND STORE TWICE (an assignment to two places): the rule. Each operation's class: 0 = ahead of the first store, 1 = between the stores, 3 and 4 = the stores, 2 = anywhere (it reads no memory).
-/
set_option linter.unusedVariables false
set_option linter.unusedSimpArgs false
namespace Go.Bd
open Go.RowKit

def aheadOf (l : List Oper) (i p : Nat) : Bool := ((masks l []).getD p 0).testBit i
def clsB (l : List Oper) (m p q : Nat) (cls : List Nat) : Bool :=
  Nat.beq cls.length m && aheadOf l p q && Nat.blt q m && Nat.ble m l.length && tailB l m &&
  cls.zipIdx.all fun (c, i) => match c with
    | 0 => aheadOf l i p
    | 1 => aheadOf l p i && aheadOf l i q
    | 3 => Nat.beq i p
    | 4 => Nat.beq i q
    | 5 => aheadOf l i q && !Nat.beq i p
    | _ => !Nat.beq i p && !Nat.beq i q
def storeB (l : List Oper) (p : Nat) : Bool := match l[p]? with | some o => o.dst.isNone | none => false
def slotsW (l : List Oper) (m p q N : Nat) (f : Fr) : Bool := storeB l p && storeB l q && ((List.range m).all fun i => (depsL l i).all fun j => !Nat.beq j p && !Nat.beq j q) && (List.range m).all fun i => Nat.beq i p || Nat.beq i q || ((match (l[i]?).bind (·.dst) with | some d => Nat.blt d N | none => false) && keysB f (dstAt l i) && (List.range m).all fun j => Nat.beq j p || Nat.beq j q || Nat.beq i j || !Nat.beq (dstAt l j) (dstAt l i))
section
variable (P : Program) (n : Sz) (l : List Oper) (V : Nat → Value → Prop) (f0 : Fr)
def ObV (w' : World) (i : Nat) : Prop := match l[i]? with
  | none => False
  | some o => ObD P n l (fun j v _ => V j v) w' (fun a w'' => ∃ v, a.tmps[dstAt l i]? = some v ∧ w'' = w' ∧ V i v) o (depsL l i) f0
def ObS (w' w1 : World) (i : Nat) : Prop := match l[i]? with
  | none => False
  | some o => ObD P n l (fun j v _ => V j v) w' (fun a w'' => w'' = w1 ∧ St n f0 a) o ((depsL l i)) f0
def ObsW (w0 w1 w2 : World) : Nat → List Nat → Prop
  | _, [] => True
  | i, 0 :: c => ObV P n l V f0 w0 i ∧ ObsW w0 w1 w2 (i + 1) c
  | i, 1 :: c => ObV P n l V f0 w1 i ∧ ObsW w0 w1 w2 (i + 1) c
  | i, 3 :: c => ObS P n l V f0 w0 w1 i ∧ ObsW w0 w1 w2 (i + 1) c
  | i, 4 :: c => ObS P n l V f0 w1 w2 i ∧ ObsW w0 w1 w2 (i + 1) c
  | i, 5 :: c => (ObV P n l V f0 w0 i ∧ ObV P n l V f0 w1 i) ∧ ObsW w0 w1 w2 (i + 1) c
  | i, _ :: c => (∀ w', ObV P n l V f0 w' i) ∧ ObsW w0 w1 w2 (i + 1) c
end
section
variable {P : Program} {fn : Func} {E : Fin} {n : Sz} {k : List Item} {f : Fr} {w : World} {ops : Array Oper}
theorem GL.val {V : Value → Prop} {t : Nat} {v : Value} (hv : Fr.get f t = some v) (hV : V v) : GL P n (fun a w'' => ∃ v, a.tmps[t]? = some v ∧ w'' = w ∧ V v) ops [] f w :=
  fun a ha => ⟨v, ha.at_ t v hv, rfl, hV⟩
theorem GL.stop {f0 : Fr} (h : Fr.sub f0 f) : GL P n (fun a w'' => w'' = w ∧ St n f0 a) ops [] f w := fun a ha => ⟨rfl, ha.sub h⟩
theorem keys_spec {f : Fr} {d : Nat} (h : keysB f d = true) : Fr.get f d = none := by
  unfold keysB at h
  induction f with
  | nil => rfl
  | cons x f ih =>
    simp only [List.all_cons, Bool.and_eq_true, Bool.not_eq_true'] at h
    rw [Fr.get_cons, if_neg (Nat.ne_of_beq_eq_false h.1)]
    exact ih h.2
theorem ahead_reach {l : List Oper} {i p : Nat} (h : aheadOf l i p = true) : Reach l.toArray i p := by
  unfold aheadOf at h
  rw [List.getD_eq_getElem?_getD] at h
  cases hm : (masks l [])[p]? with
  | none => simp [hm] at h
  | some m =>
    rw [hm] at h
    exact masks_ok l [] (by simp) (by simp) p m hm i h
theorem ObsW.at {l : List Oper} {V : Nat → Value → Prop} {f0 : Fr} {w0 w1 w2 : World} : ∀ (cls : List Nat) (i : Nat), ObsW P n l V f0 w0 w1 w2 i cls → ∀ j c, cls[j]? = some c →
    (c = 0 → ObV P n l V f0 w0 (i + j)) ∧ (c = 1 → ObV P n l V f0 w1 (i + j)) ∧ (c = 3 → ObS P n l V f0 w0 w1 (i + j)) ∧ (c = 4 → ObS P n l V f0 w1 w2 (i + j)) ∧ (c = 5 → ObV P n l V f0 w0 (i + j) ∧ ObV P n l V f0 w1 (i + j)) ∧ (c ≠ 0 → c ≠ 1 → c ≠ 3 → c ≠ 4 → c ≠ 5 → ∀ w', ObV P n l V f0 w' (i + j))
  | [], i, _, j, c, hc => by simp at hc
  | c0 :: cls, i, h, 0, c, hc => by
    simp only [List.getElem?_cons_zero, Option.some.injEq] at hc
    subst hc
    rw [Nat.add_zero]
    refine ⟨?_, ?_, ?_, ?_, ?_, ?_⟩
    · rintro rfl; exact h.1
    · rintro rfl; exact h.1
    · rintro rfl; exact h.1
    · rintro rfl; exact h.1
    · rintro rfl; exact h.1
    · intro h0 h1 h3 h4 h5
      rcases c0 with _ | _ | _ | _ | _ | _ | c0
      · exact absurd rfl h0
      · exact absurd rfl h1
      · exact h.1
      · exact absurd rfl h3
      · exact absurd rfl h4
      · exact absurd rfl h5
      · exact h.1
  | c0 :: cls, i, h, j + 1, c, hc => by
    simp only [List.getElem?_cons_succ] at hc
    have h' : ObsW P n l V f0 w0 w1 w2 (i + 1) cls := by
      rcases c0 with _ | _ | _ | _ | _ | _ | c0 <;> exact h.2
    have := ObsW.at cls (i + 1) h' j c hc
    rw [show i + 1 + j = i + (j + 1) by omega] at this
    exact this

/-- The rule. -/
theorem G.drawWt {id : Nat} {l : List Oper} (m p q : Nat) (cls : List Nat) (f0 : Fr) (V : Nat → Value → Prop) (hfo : P.follows .mixedOrders = true) (hC : clsB l m p q cls = true) (hS : slotsW l m p q n.size f0 = true) (hsub : Fr.sub f0 f)
    (h : ∀ w0, Ext w w0 → ∃ w1 w2, ObsW P n l V f0 w0 w1 w2 0 cls ∧ GL P n (GoA P fn E n k) l.toArray (l.drop m) f0 w2) : G P fn E n (.code (.region id l.toArray true) :: k) f w := by
  refine G.anyOrder hfo fun a ha => ?_
  simp only [clsB, Bool.and_eq_true] at hC
  obtain ⟨⟨⟨⟨⟨hcl, hpq⟩, hql⟩, hml⟩, hB⟩, hcls⟩ := hC
  have hml : m ≤ l.length := by simpa [Nat.ble_eq] using hml
  have hcl : cls.length = m := Nat.eq_of_beq_eq_true hcl
  have hql : q < m := by simpa [Nat.blt_eq] using hql
  obtain ⟨w1, w2, hob, hfin⟩ := h _ (ext_draw w)
  generalize ({ w with drawn := w.drawn + 1 } : World) = w0 at *
  simp only [slotsW, Bool.and_eq_true] at hS
  obtain ⟨⟨⟨hsp, hsq⟩, hsd⟩, hsl⟩ := hS
  have hdd : ∀ i, i < m → ∀ j ∈ depsL l i, j ≠ p ∧ j ≠ q := fun i hi j hj => by
    have h1 := List.all_eq_true.1 (List.all_eq_true.1 hsd i (by simpa using hi)) j hj
    simp only [Bool.and_eq_true, Bool.not_eq_true'] at h1
    exact ⟨Nat.ne_of_beq_eq_false h1.1, Nat.ne_of_beq_eq_false h1.2⟩
  have hslot : ∀ i, i < m → i ≠ p → i ≠ q → (∃ o, l[i]? = some o ∧ o.dst = some (dstAt l i) ∧ Nat.blt (dstAt l i) n.size = true) ∧ Fr.get f0 (dstAt l i) = none ∧ ∀ j, j < m → j ≠ p → j ≠ q → i ≠ j → dstAt l i ≠ dstAt l j := by
    intro i hi hip hiq
    have h1 := List.all_eq_true.1 hsl i (by simpa using hi)
    simp only [Bool.or_eq_true, Bool.and_eq_true] at h1
    rcases h1 with (h1 | h1) | ⟨⟨h1, h2⟩, h3⟩
    · exact absurd (Nat.eq_of_beq_eq_true h1) hip
    · exact absurd (Nat.eq_of_beq_eq_true h1) hiq
    refine ⟨?_, keys_spec h2, ?_⟩
    · cases ho : l[i]? with
      | none => simp [ho] at h1
      | some o =>
        cases hd : o.dst with
        | none => simp [ho, hd] at h1
        | some d => exact ⟨o, rfl, by simp [dstAt, ho, hd], by simpa [dstAt, ho, hd] using h1⟩
    · intro j hj hjp hjq hij e
      have h4 := List.all_eq_true.1 h3 j (by simpa using hj)
      simp only [Bool.or_eq_true, Bool.not_eq_true'] at h4
      rcases h4 with ((h4 | h4) | h4) | h4
      · exact hjp (Nat.eq_of_beq_eq_true h4)
      · exact hjq (Nat.eq_of_beq_eq_true h4)
      · exact hij (Nat.eq_of_beq_eq_true h4)
      · exact Nat.ne_of_beq_eq_false h4 e.symm
  have hstore : ∀ s, storeB l s = true → ∃ o, l[s]? = some o ∧ o.dst = none := fun s hs => by
    unfold storeB at hs
    cases ho : l[s]? with
    | none => simp [ho] at hs
    | some o => exact ⟨o, rfl, by simpa [ho] using hs⟩
  obtain ⟨op, hop, hdp⟩ := hstore p hsp
  obtain ⟨oq, hoq, hdq⟩ := hstore q hsq
  have hpq' := ahead_reach hpq
  have hback := (tailB_spec hB).1
  have reach_lt : ∀ {i j : Nat}, Reach l.toArray i j → i < j := by
    intro i j hr
    induction hr with
    | base h => exact hback _ _ h
    | step h _ ih => exact Nat.lt_trans ih (hback _ _ h)
  have hplq := reach_lt hpq'
  refine xAny_start (m := m) hml hB (fun listed a' w' => Closed l.toArray listed ∧ St n f0 a' ∧
    (listed.getD p false = false → w' = w0) ∧ (listed.getD p false = true → listed.getD q false = false → w' = w1) ∧ (listed.getD q false = true → w' = w2) ∧
    ∀ i, i < m → i ≠ p → i ≠ q → listed.getD i false = true → ∃ v, a'.tmps[dstAt l i]? = some v ∧ V i v) ?_ ?_ ?_
  · have hrep : ∀ j : Nat, (Array.replicate l.length false).getD j false = false := fun j => by
      rw [Array.getD_eq_getD_getElem?, Array.getElem?_replicate]; split <;> rfl
    exact ⟨fun i j h => (by rw [hrep] at h; cases h), ha.sub hsub, fun _ => rfl, fun h => (by rw [hrep] at h; cases h), fun h => (by rw [hrep] at h; cases h), fun i _ _ _ h => (by rw [hrep] at h; cases h)⟩
  · rintro listed a' w' i o ho hi hls hun hdep ⟨hcd, hst, hw0, hw1, hw2, hfacts⟩
    have hun' : listed.getD i false = false := by rw [getD_swap (by omega) false true]; exact hun
    have hcd' := closed_set (i := i) (by omega) hcd hdep
    have hset : ∀ j, (listed.setIfInBounds i true).getD j false = if i = j then true else listed.getD j false := fun j => getD_set _ _ _ (by omega) _
    have anc : ∀ {x y : Nat}, Reach l.toArray x y → listed.getD y false = true → listed.getD x false = true := fun hr hy => reach_listed hcd hr fun j hj => hcd _ _ hy hj
    obtain ⟨c, hc⟩ : ∃ c, cls[i]? = some c := ⟨_, List.getElem?_eq_getElem (by omega)⟩
    have hcc := List.all_eq_true.1 hcls (c, i) (List.mk_mem_zipIdx_iff_getElem?.2 hc)
    obtain ⟨ob0, ob1, ob3, ob4, ob5, ob2⟩ := ObsW.at cls 0 hob i c hc
    rw [Nat.zero_add] at ob0 ob1 ob3 ob4 ob5 ob2
    have hrun : ∀ (Qx : Act → World → Prop) (wx : World), ObD P n l (fun j v _ => V j v) wx Qx o (depsL l i) f0 → wpX P l.toArray Qx [o] a' wx := fun Qx wx hob =>
      ObD.use (a := a') (depsL l i) f0 hob hst fun j hj => by
        have hdj := depsL_dep hj
        exact hfacts j (Nat.lt_trans (hback i j hdj) hi) (hdd i hi j hj).1 (hdd i hi j hj).2 (hdep j hdj)
    have hgo : ∀ (Qx : Act → World → Prop), wpX P l.toArray Qx [o] a' w' → (∀ v w'', Qx (a'.put o.dst v) w'' → Closed l.toArray (listed.setIfInBounds i true) ∧ St n f0 (a'.put o.dst v) ∧
        ((listed.setIfInBounds i true).getD p false = false → w'' = w0) ∧ ((listed.setIfInBounds i true).getD p false = true → (listed.setIfInBounds i true).getD q false = false → w'' = w1) ∧ ((listed.setIfInBounds i true).getD q false = true → w'' = w2) ∧
        ∀ j, j < m → j ≠ p → j ≠ q → (listed.setIfInBounds i true).getD j false = true → ∃ u, (a'.put o.dst v).tmps[dstAt l j]? = some u ∧ V j u) →
        xOp P l.toArray i (fun a' w' => Closed l.toArray (listed.setIfInBounds i true) ∧ St n f0 a' ∧
        ((listed.setIfInBounds i true).getD p false = false → w' = w0) ∧ ((listed.setIfInBounds i true).getD p false = true → (listed.setIfInBounds i true).getD q false = false → w' = w1) ∧ ((listed.setIfInBounds i true).getD q false = true → w' = w2) ∧
        ∀ j, j < m → j ≠ p → j ≠ q → (listed.setIfInBounds i true).getD j false = true → ∃ u, a'.tmps[dstAt l j]? = some u ∧ V j u) a' w' := by
      intro Qx huse hnext
      unfold xOp
      rw [show l.toArray[i]? = some o by simpa using ho]
      simp only
      unfold wpX at huse
      split at huse
      · rename_i hw
        rw [if_pos hw]
        exact upx_mono (fun v w'' h => hnext v w'' (by simpa [wpX] using h)) huse
      · rename_i hw
        rw [if_neg hw]
        exact hnext undef w' (by simpa [wpX] using huse)
    by_cases hip : i = p
    · subst hip
      have hc3 : c = 3 := by
        rcases c with _ | _ | _ | _ | _ | _ | c
        · exact absurd (reach_lt (ahead_reach hcc)) (by omega)
        · simp only [Bool.and_eq_true] at hcc
          exact absurd (reach_lt (ahead_reach hcc.1)) (by omega)
        · simp [Nat.beq_eq_true_eq] at hcc
        · rfl
        · exact absurd (Nat.eq_of_beq_eq_true hcc) (by omega)
        · simp [Nat.beq_eq_true_eq] at hcc
        · simp [Nat.beq_eq_true_eq] at hcc
      have hobS := ob3 hc3
      unfold ObS at hobS
      rw [ho] at hobS
      simp only at hobS
      have hww := hw0 hun'
      subst hww
      have hqf : listed.getD q false = false := by
        cases hq : listed.getD q false with
        | false => rfl
        | true => rw [anc hpq' hq] at hun'; cases hun'
      have hdo : o.dst = none := by rw [Option.some.inj (ho.symm.trans hop)]; exact hdp
      refine hgo _ (hrun _ _ hobS) ?_
      · rintro v w'' ⟨rfl, hst'⟩
        have ea : a'.put o.dst v = a' := by rw [hdo]; rfl
        rw [ea] at hst' ⊢
        refine ⟨hcd', hst, fun h => ?_, fun _ _ => rfl, fun h => ?_, fun j hj hjp hjq hlj => ?_⟩
        · rw [hset, if_pos rfl] at h; cases h
        · rw [hset, if_neg (by omega)] at h; rw [hqf] at h; cases h
        · rw [hset, if_neg (fun e => hjp e.symm)] at hlj
          exact hfacts j hj hjp hjq hlj
    by_cases hiq : i = q
    · subst hiq
      have hc4 : c = 4 := by
        rcases c with _ | _ | _ | _ | _ | _ | c
        · exact absurd (reach_lt (ahead_reach hcc)) (by omega)
        · simp only [Bool.and_eq_true] at hcc
          exact absurd (reach_lt (ahead_reach hcc.2)) (by omega)
        · simp [Nat.beq_eq_true_eq] at hcc
        · exact absurd (Nat.eq_of_beq_eq_true hcc) (by omega)
        · rfl
        · simp only [Bool.and_eq_true] at hcc
          exact absurd (reach_lt (ahead_reach hcc.1)) (by omega)
        · simp [Nat.beq_eq_true_eq] at hcc
      have hobS := ob4 hc4
      unfold ObS at hobS
      rw [ho] at hobS
      simp only at hobS
      have hpt : listed.getD p false = true := reach_listed hcd hpq' hdep
      have hww := hw1 hpt hun'
      subst hww
      have hdo : o.dst = none := by rw [Option.some.inj (ho.symm.trans hoq)]; exact hdq
      refine hgo _ (hrun _ _ hobS) ?_
      · rintro v w'' ⟨rfl, hst'⟩
        have ea : a'.put o.dst v = a' := by rw [hdo]; rfl
        rw [ea] at hst' ⊢
        refine ⟨hcd', hst, fun h => ?_, fun _ h => ?_, fun _ => rfl, fun j hj hjp hjq hlj => ?_⟩
        · rw [hset, if_neg (by omega), hpt] at h; cases h
        · rw [hset, if_pos rfl] at h; cases h
        · rw [hset, if_neg (fun e => hjq e.symm)] at hlj
          exact hfacts j hj hjp hjq hlj
    have hob' : ObV P n l V f0 w' i := by
      rcases c with _ | _ | _ | _ | _ | _ | c
      · have hpf : listed.getD p false = false := by
          cases hp : listed.getD p false with
          | false => rfl
          | true => rw [anc (ahead_reach hcc) hp] at hun'; cases hun'
        rw [hw0 hpf]
        exact ob0 rfl
      · simp only [Bool.and_eq_true] at hcc
        have hpt : listed.getD p false = true := reach_listed hcd (ahead_reach hcc.1) hdep
        have hqf : listed.getD q false = false := by
          cases hq : listed.getD q false with
          | false => rfl
          | true => rw [anc (ahead_reach hcc.2) hq] at hun'; cases hun'
        rw [hw1 hpt hqf]
        exact ob1 rfl
      · exact ob2 (by omega) (by omega) (by omega) (by omega) (by omega) w'
      · exact absurd (Nat.eq_of_beq_eq_true hcc) hip
      · exact absurd (Nat.eq_of_beq_eq_true hcc) hiq
      · simp only [Bool.and_eq_true] at hcc
        have hqf : listed.getD q false = false := by
          cases hq : listed.getD q false with
          | false => rfl
          | true => rw [anc (ahead_reach hcc.1) hq] at hun'; cases hun'
        cases hp : listed.getD p false with
        | false => rw [hw0 hp]; exact (ob5 rfl).1
        | true => rw [hw1 hp hqf]; exact (ob5 rfl).2
      · exact ob2 (by omega) (by omega) (by omega) (by omega) (by omega) w'
    unfold ObV at hob'
    rw [ho] at hob'
    simp only at hob'
    obtain ⟨⟨o', ho', hd, hlt⟩, hfr, hdist⟩ := hslot i hi hip hiq
    rw [ho] at ho'
    cases ho'
    have hdlt : dstAt l i < a'.tmps.size := by rw [hst.size]; simpa [Nat.blt_eq] using hlt
    refine hgo _ (hrun _ _ hob') ?_
    rintro v w'' ⟨u, hu, rfl, hV⟩
    refine ⟨hcd', ?_, fun h => ?_, fun h h' => ?_, fun h => ?_, fun j hj hjp hjq hlj => ?_⟩
    · rw [hd]
      exact (hst.put hlt v).sub fun t x ht => by
        rw [Fr.get_cons]
        by_cases e : dstAt l i = t
        · subst e; rw [hfr] at ht; cases ht
        · rw [if_neg e]; exact ht
    · rw [hset, if_neg hip] at h; exact hw0 h
    · rw [hset, if_neg hip] at h; rw [hset, if_neg hiq] at h'; exact hw1 h h'
    · rw [hset, if_neg hiq] at h; exact hw2 h
    · by_cases e : i = j
      · subst e; exact ⟨u, hu, hV⟩
      · rw [hset, if_neg e] at hlj
        obtain ⟨x, hx, hVx⟩ := hfacts j hj hjp hjq hlj
        refine ⟨x, ?_, hVx⟩
        rw [hd]
        simp only [Act.put]
        rw [Array.getElem?_setIfInBounds_ne (hdist j hj hjp hjq e)]
        exact hx
  · rintro listed a' w' hall ⟨hcd, hst, hw0, hw1, hw2, hfacts⟩
    have hq := hall q hql
    rw [hw2 hq]
    exact hfin a' hst
theorem G.drawW {id : Nat} {l : List Oper} (p q : Nat) (cls : List Nat) (f0 : Fr) (V : Nat → Value → Prop) (hfo : P.follows .mixedOrders = true) (hC : clsB l l.length p q cls = true) (hS : slotsW l l.length p q n.size f0 = true) (hsub : Fr.sub f0 f)
    (h : ∀ w0, Ext w w0 → ∃ w1 w2, ObsW P n l V f0 w0 w1 w2 0 cls ∧ G P fn E n k f0 w2) : G P fn E n (.code (.region id l.toArray true) :: k) f w :=
  G.drawWt l.length p q cls f0 V hfo hC hS hsub fun w0 he => let ⟨w1, w2, h1, h2⟩ := h w0 he; ⟨w1, w2, h1, by rw [List.drop_length]; exact GL.nil h2⟩
end
end Go.Bd
/-
  A drawn region with two new variables, the first of which is stored into ahead of the region's end ('x, y := a[i], b[i]' of structs).
-/
set_option linter.unusedVariables false
set_option linter.unusedSimpArgs false
set_option maxRecDepth 100000
namespace Go.Bd
open Go.RowKit
def slotsP (l : List Oper) (m p N : Nat) (f : Fr) : Bool := (List.range m).all fun i => Nat.beq i p || ((match (l[i]?).bind (·.dst) with | some d => Nat.blt d N | none => false) && keysB f (dstAt l i) && !(depsL l i).contains p && (List.range m).all fun j => Nat.beq j p || Nat.beq i j || !Nat.beq (dstAt l j) (dstAt l i))
section
variable (P : Program) (n : Sz) (l : List Oper) (V : Nat → Value → Prop) (f0 : Fr) (w0 : World)
def ObF (i : Nat) : Prop := ∀ w', Ext w0 w' → match l[i]? with
  | none => False
  | some o => ObD P n l (fun j v _ => V j v) w' (fun a w'' => ∃ v, a.tmps[dstAt l i]? = some v ∧ w'' = w' ∧ V i v) o (depsL l i) f0
def ObsF : List Nat → Prop
  | [] => True
  | i :: is => ObF P n l V f0 w0 i ∧ ObsF is
end
section
variable {P : Program} {fn : Func} {E : Fin} {n : Sz} {k : List Item} {f : Fr} {w : World}
theorem GL.valF {ops : Array Oper} {V : Value → Prop} {t : Nat} {v : Value} (hv : Fr.get f t = some v) (hV : V v) : GL P n (fun a w'' => ∃ v, a.tmps[t]? = some v ∧ w'' = w ∧ V v) ops [] f w :=
  fun a ha => ⟨v, ha.at_ t v hv, rfl, hV⟩
theorem ObsF.at {l : List Oper} {V : Nat → Value → Prop} {f0 : Fr} {w0 : World} : ∀ {is : List Nat}, ObsF P n l V f0 w0 is → ∀ i ∈ is, ObF P n l V f0 w0 i
  | [], _, i, hi => by cases hi
  | j :: is, h, i, hi => by
    rcases List.mem_cons.1 hi with e | e
    · subst e; exact h.1
    · exact ObsF.at h.2 i e
theorem keysP_spec {f : Fr} {d : Nat} (h : keysB f d = true) : Fr.get f d = none := by
  unfold keysB at h
  induction f with
  | nil => rfl
  | cons x f ih =>
    simp only [List.all_cons, Bool.and_eq_true, Bool.not_eq_true'] at h
    rw [Fr.get_cons, if_neg (Nat.ne_of_beq_eq_false h.1)]
    exact ih h.2
theorem St.more {a : Act} {f0 : Fr} {d : Nat} {v : Value} (h : St n f0 a) (hv : a.tmps[d]? = some v) : St n ((d, v) :: f0) a := ⟨h.size, h.defers, fun t u ht => by
  rw [Fr.get_cons] at ht
  by_cases e : d = t
  · subst e; rw [if_pos rfl] at ht; cases ht; exact hv
  · rw [if_neg e] at ht; exact h.at_ t u ht⟩
theorem G.drawP {id : Nat} {l : List Oper} {tt : List (Nat × Ti)} {t : TypeId} {ti : Ti} (m α β p pv q : Nat) (is : List Nat) (f0 : Fr) (V : Nat → Value → Prop) (vs : List Value) (hT : Tys P tt) (hfo : P.follows .mixedOrders = true) (hm : Nat.ble m l.length = true) (hB : tailB l m = true) (hS : slotsP l m p n.size f0 = true) (hsub : Fr.sub f0 f)
    (hti : TT.get tt t = some ti)
    (hα : ∃ d ty pos aft, l[α]? = some ⟨some d, .alloc t, ty, pos, aft, none⟩) (hβ : ∃ d ty pos aft, l[β]? = some ⟨some d, .alloc t, ty, pos, aft, none⟩)
    (hp : ∃ ty pos aft, l[p]? = some ⟨none, .store t (.tmp (dstAt l α)) (.tmp (dstAt l pv)), ty, pos, aft, none⟩) (hpd : (depsL l p).contains α = true ∧ (depsL l p).contains pv = true)
    (his : ((List.range m).all fun i => is.contains i || Nat.beq i α || Nat.beq i β || Nat.beq i p) = true) (hnot : (is.all fun i => !Nat.beq i p && !Nat.beq i α && !Nat.beq i β) = true) (hlt : (Nat.blt α m && Nat.blt β m && Nat.blt p m && Nat.blt pv m && Nat.blt q m && !Nat.beq α β && !Nat.beq α p && !Nat.beq β p && is.contains pv && is.contains q) = true)
    (hdeps : (is.all fun i => (depsL l i).all fun j => is.contains j) = true)
    (hvs : ∀ v, V pv v → v.cells = vs.toArray) (hvl : vs.length = ti.size) (hv1 : ∀ u ∈ vs, u.oneCell' = true) (hzl : ti.zero.length = vs.length)
    (obs : ∀ w0, Ext w w0 → ObsF P n l V f0 w0 is)
    (fin : ∀ w' b c v, Ext w w' → w.heap.size ≤ b → w.heap.size ≤ c → b ≠ c → Blk w' b t vs → Blk w' c t ti.zero → V q v → GL P n (GoA P fn E n k) l.toArray (l.drop m) ((dstAt l q, v) :: (dstAt l α, ptr b 0) :: (dstAt l β, ptr c 0) :: f0) w') :
    G P fn E n (.code (.region id l.toArray true) :: k) f w := by
  refine G.anyOrder hfo fun a ha => ?_
  have hm' : m ≤ l.length := by simpa [Nat.ble_eq] using hm
  simp only [Bool.and_eq_true, Bool.not_eq_true', Nat.blt_eq] at hlt
  obtain ⟨⟨⟨⟨⟨⟨⟨⟨⟨lα, lβ⟩, lp⟩, lpv⟩, lq⟩, nαβ⟩, nαp⟩, nβp⟩, ipv⟩, iq⟩ := hlt
  replace nαβ := Nat.ne_of_beq_eq_false nαβ
  replace nαp := Nat.ne_of_beq_eq_false nαp
  replace nβp := Nat.ne_of_beq_eq_false nβp
  have hslot : ∀ i, i < m → i ≠ p → (∃ o, l[i]? = some o ∧ o.dst = some (dstAt l i) ∧ Nat.blt (dstAt l i) n.size = true) ∧ Fr.get f0 (dstAt l i) = none ∧ ∀ j, j < m → j ≠ p → i ≠ j → dstAt l i ≠ dstAt l j := by
    intro i hi hip
    have h1 := List.all_eq_true.1 hS i (by simpa using hi)
    simp only [Bool.or_eq_true, Bool.and_eq_true] at h1
    rcases h1 with h1 | ⟨⟨⟨h1, h2⟩, _⟩, h3⟩
    · exact absurd (Nat.eq_of_beq_eq_true h1) hip
    refine ⟨?_, keysP_spec h2, ?_⟩
    · cases ho : l[i]? with
      | none => simp [ho] at h1
      | some o =>
        cases hd : o.dst with
        | none => simp [ho, hd] at h1
        | some d => exact ⟨o, rfl, by simp [dstAt, ho, hd], by simpa [dstAt, ho, hd] using h1⟩
    · intro j hj hjp hij e
      have h4 := List.all_eq_true.1 h3 j (by simpa using hj)
      simp only [Bool.or_eq_true, Bool.not_eq_true'] at h4
      rcases h4 with (h4 | h4) | h4
      · exact hjp (Nat.eq_of_beq_eq_true h4)
      · exact hij (Nat.eq_of_beq_eq_true h4)
      · exact Nat.ne_of_beq_eq_false h4 e.symm
  have hisn : ∀ i ∈ is, i ≠ p ∧ i ≠ α ∧ i ≠ β := fun i hi => by
    have := List.all_eq_true.1 hnot i hi
    simp only [Bool.and_eq_true, Bool.not_eq_true'] at this
    exact ⟨Nat.ne_of_beq_eq_false this.1.1, Nat.ne_of_beq_eq_false this.1.2, Nat.ne_of_beq_eq_false this.2⟩
  have hkind : ∀ i, i < m → i ∈ is ∨ i = α ∨ i = β ∨ i = p := fun i hi => by
    have := List.all_eq_true.1 his i (by simpa using hi)
    simp only [Bool.or_eq_true] at this
    rcases this with ((h | h) | h) | h
    · exact .inl (by simpa using h)
    · exact .inr (.inl (Nat.eq_of_beq_eq_true h))
    · exact .inr (.inr (.inl (Nat.eq_of_beq_eq_true h)))
    · exact .inr (.inr (.inr (Nat.eq_of_beq_eq_true h)))
  have hw0 : Ext w { w with drawn := w.drawn + 1 } := ext_draw w
  generalize hgw : ({ w with drawn := w.drawn + 1 } : World) = w0 at hw0
  have hw0s := hw0.size
  refine xAny_start (m := m) hm' hB (fun listed a' w' => Ext w0 w' ∧ St n f0 a' ∧ (∀ i ∈ is, i < m → listed.getD i false = true → ∃ v, a'.tmps[dstAt l i]? = some v ∧ V i v) ∧
    (listed.getD α false = true → ∃ b, a'.tmps[dstAt l α]? = some (ptr b 0) ∧ w0.heap.size ≤ b ∧ Blk w' b t (if listed.getD p false = true then vs else ti.zero)) ∧
    (listed.getD β false = true → ∃ c, a'.tmps[dstAt l β]? = some (ptr c 0) ∧ w0.heap.size ≤ c ∧ Blk w' c t ti.zero) ∧
    (listed.getD α false = true → listed.getD β false = true → a'.tmps[dstAt l α]? ≠ a'.tmps[dstAt l β]?) ∧ (listed.getD p false = true → listed.getD α false = true)) ?_ ?_ ?_
  · have hrep : ∀ (N j : Nat), (Array.replicate N false).getD j false = false := fun N j => by
      rw [Array.getD_eq_getD_getElem?, Array.getElem?_replicate]; split <;> rfl
    exact ⟨Below.refl _ _, ha.sub hsub, fun i _ _ h => (by rw [hrep] at h; cases h), fun h => (by rw [hrep] at h; cases h), fun h => (by rw [hrep] at h; cases h), fun h => (by rw [hrep] at h; cases h), fun h => (by rw [hrep] at h; cases h)⟩
  · rintro listed a' w' i o ho hi hls hun hdep ⟨he, hst, hfacts, hfa, hfb, hab, hpa⟩
    have hun' : listed.getD i false = false := by rw [getD_swap (by omega) false true]; exact hun
    have hset : ∀ j, (listed.setIfInBounds i true).getD j false = if i = j then true else listed.getD j false := fun j => getD_set _ _ _ (by omega) _
    have hput : ∀ v, o.dst = some (dstAt l i) → Nat.blt (dstAt l i) n.size = true → Fr.get f0 (dstAt l i) = none → St n f0 (a'.put o.dst v) := fun v hd hlt hfr => by
      rw [hd]
      exact (hst.put hlt v).sub fun t x ht => by
        rw [Fr.get_cons]
        by_cases e : dstAt l i = t
        · subst e; rw [hfr] at ht; cases ht
        · rw [if_neg e]; exact ht
    have hxop : ∀ {Q : Act → World → Prop}, wpX P l.toArray Q [o] a' w' → (∀ v w'', Q (a'.put o.dst v) w'' → (fun listed a' w' => Ext w0 w' ∧ St n f0 a' ∧ (∀ i ∈ is, i < m → listed.getD i false = true → ∃ v, a'.tmps[dstAt l i]? = some v ∧ V i v) ∧
    (listed.getD α false = true → ∃ b, a'.tmps[dstAt l α]? = some (ptr b 0) ∧ w0.heap.size ≤ b ∧ Blk w' b t (if listed.getD p false = true then vs else ti.zero)) ∧
    (listed.getD β false = true → ∃ c, a'.tmps[dstAt l β]? = some (ptr c 0) ∧ w0.heap.size ≤ c ∧ Blk w' c t ti.zero) ∧
    (listed.getD α false = true → listed.getD β false = true → a'.tmps[dstAt l α]? ≠ a'.tmps[dstAt l β]?) ∧ (listed.getD p false = true → listed.getD α false = true)) (listed.setIfInBounds i true) (a'.put o.dst v) w'') → xOp P l.toArray i (fun a' w' => (fun listed a' w' => Ext w0 w' ∧ St n f0 a' ∧ (∀ i ∈ is, i < m → listed.getD i false = true → ∃ v, a'.tmps[dstAt l i]? = some v ∧ V i v) ∧
    (listed.getD α false = true → ∃ b, a'.tmps[dstAt l α]? = some (ptr b 0) ∧ w0.heap.size ≤ b ∧ Blk w' b t (if listed.getD p false = true then vs else ti.zero)) ∧
    (listed.getD β false = true → ∃ c, a'.tmps[dstAt l β]? = some (ptr c 0) ∧ w0.heap.size ≤ c ∧ Blk w' c t ti.zero) ∧
    (listed.getD α false = true → listed.getD β false = true → a'.tmps[dstAt l α]? ≠ a'.tmps[dstAt l β]?) ∧ (listed.getD p false = true → listed.getD α false = true)) (listed.setIfInBounds i true) a' w') a' w' := by
      intro Q hwp hnext
      unfold xOp
      rw [show l.toArray[i]? = some o by simpa using ho]
      simp only
      unfold wpX at hwp
      split at hwp
      · rename_i hw
        rw [if_pos hw]
        refine upx_mono (fun v w'' h => ?_) hwp
        exact hnext v w'' (by simpa [wpX] using h)
      · rename_i hw
        rw [if_neg hw]
        exact hnext undef w' (by simpa [wpX] using hwp)
    rcases hkind i hi with hik | rfl | rfl | rfl
    · obtain ⟨n1, n2, n3⟩ := hisn i hik
      obtain ⟨⟨o', ho', hd, hlt⟩, hfr, hdist⟩ := hslot i hi n1
      rw [ho] at ho'
      cases ho'
      have hob := (obs w0 hw0).at i hik w' he
      rw [ho] at hob
      simp only at hob
      have hback := (tailB_spec hB).1
      have huse := ObD.use (a := a') (depsL l i) f0 hob hst (fun j hj => by
        have hdj := depsL_dep hj
        have hjis := List.all_eq_true.1 (List.all_eq_true.1 hdeps i hik) j hj
        exact hfacts j (by simpa using hjis) (Nat.lt_trans (hback i j hdj) hi) (hdep j hdj))
      refine hxop huse fun v w'' => ?_
      rintro ⟨u, hu, rfl, hV⟩
      have hoth : ∀ j, j < m → j ≠ p → i ≠ j → (a'.put o.dst v).tmps[dstAt l j]? = a'.tmps[dstAt l j]? := fun j hj hjp e => by
        rw [hd]
        simp only [Act.put]
        rw [Array.getElem?_setIfInBounds_ne (hdist j hj hjp e)]
      simp only [hset, if_neg n1, if_neg n2, if_neg n3]
      refine ⟨he, hput v hd hlt hfr, fun j hj hjm hlj => ?_, fun h => ?_, fun h => ?_, fun h1 h2 => ?_, hpa⟩
      · by_cases e : i = j
        · subst e; exact ⟨u, hu, hV⟩
        · rw [if_neg e] at hlj
          rw [hoth j hjm (hisn j hj).1 e]
          exact hfacts j hj hjm hlj
      · rw [hoth α lα nαp n2]; exact hfa h
      · rw [hoth β lβ nβp n3]; exact hfb h
      · rw [hoth α lα nαp n2, hoth β lβ nβp n3]; exact hab h1 h2
    · -- the first new variable
      obtain ⟨⟨o', ho', hd, hlt⟩, hfr, hdist⟩ := hslot i hi nαp
      rw [ho] at ho'
      cases ho'
      obtain ⟨d, ty, pos, aft, hod⟩ := hα
      rw [ho] at hod
      cases hod
      have hdd : d = dstAt l i := by simpa using hd
      have hwp : wpX P l.toArray (fun a w'' => ∃ b, a.tmps[dstAt l i]? = some (ptr b 0) ∧ b = w'.heap.size ∧ Blk w'' b t ti.zero ∧ Ext w' w'') [⟨some d, .alloc t, ty, pos, aft, none⟩] a' w' :=
        GL.alloc (f := f0) hT rfl (by rw [hdd]; exact hlt) hti (fun b w'' hb hB he => by intro a ha; exact ⟨b, ha.at_ _ _ (by rw [hdd, Fr.get_cons, if_pos rfl]), hb, hB, he⟩) a' hst
      refine hxop hwp fun v w'' => ?_
      rintro ⟨b, hb, rfl, hBb, he'⟩
      have hoth : ∀ j, j < m → j ≠ p → i ≠ j → (a'.put (some d) v).tmps[dstAt l j]? = a'.tmps[dstAt l j]? := fun j hj hjp e => by
        simp only [Act.put]
        rw [hdd, Array.getElem?_setIfInBounds_ne (hdist j hj hjp e)]
      have hpn : listed.getD p false = false := by
        cases hh : listed.getD p false with
        | false => rfl
        | true => have := hpa hh; rw [hun'] at this; cases this
      simp only [hset, if_neg nαp, if_neg nαβ, if_true]
      have hs := he.size
      refine ⟨he.trans he', hput v hd hlt hfr, fun j hj hjm hlj => ?_, fun h => ⟨_, hb, hs, by rw [hpn]; exact hBb⟩, fun h => ?_, fun h1 h2 => ?_, fun h => trivial⟩
      · have := (hisn j hj).2.1
        rw [if_neg (fun e => this e.symm)] at hlj
        rw [hoth j hjm (hisn j hj).1 (fun e => this e.symm)]
        exact hfacts j hj hjm hlj
      · rw [hoth β lβ nβp nαβ]
        obtain ⟨c, h1, h2, h3⟩ := hfb h
        exact ⟨c, h1, h2, h3.ext he'⟩
      · rw [hb, hoth β lβ nβp nαβ]
        obtain ⟨c, h3, h4, h5⟩ := hfb h2
        rw [h3]
        intro e
        have := h5.lt
        simp only [Option.some.injEq, Value.pointer.injEq, Addr.mk.injEq] at e
        omega
    · obtain ⟨⟨o', ho', hd, hlt⟩, hfr, hdist⟩ := hslot i hi nβp
      rw [ho] at ho'
      cases ho'
      obtain ⟨d, ty, pos, aft, hod⟩ := hβ
      rw [ho] at hod
      cases hod
      have hdd : d = dstAt l i := by simpa using hd
      have hwp : wpX P l.toArray (fun a w'' => ∃ b, a.tmps[dstAt l i]? = some (ptr b 0) ∧ b = w'.heap.size ∧ Blk w'' b t ti.zero ∧ Ext w' w'') [⟨some d, .alloc t, ty, pos, aft, none⟩] a' w' :=
        GL.alloc (f := f0) hT rfl (by rw [hdd]; exact hlt) hti (fun b w'' hb hB he => by intro a ha; exact ⟨b, ha.at_ _ _ (by rw [hdd, Fr.get_cons, if_pos rfl]), hb, hB, he⟩) a' hst
      refine hxop hwp fun v w'' => ?_
      rintro ⟨b, hb, rfl, hBb, he'⟩
      have hoth : ∀ j, j < m → j ≠ p → i ≠ j → (a'.put (some d) v).tmps[dstAt l j]? = a'.tmps[dstAt l j]? := fun j hj hjp e => by
        simp only [Act.put]
        rw [hdd, Array.getElem?_setIfInBounds_ne (hdist j hj hjp e)]
      have nβα : i ≠ α := fun e => nαβ e.symm
      simp only [hset, if_neg nβp, if_neg nβα, if_true]
      have hs := he.size
      refine ⟨he.trans he', hput v hd hlt hfr, fun j hj hjm hlj => ?_, fun h => ?_, fun h => ⟨_, hb, hs, hBb⟩, fun h1 h2 => ?_, hpa⟩
      · have := (hisn j hj).2.2
        rw [if_neg (fun e => this e.symm)] at hlj
        rw [hoth j hjm (hisn j hj).1 (fun e => this e.symm)]
        exact hfacts j hj hjm hlj
      · rw [hoth α lα nαp nβα]
        obtain ⟨c, h1, h2, h3⟩ := hfa h
        exact ⟨c, h1, h2, h3.ext he'⟩
      · rw [hb, hoth α lα nαp nβα]
        obtain ⟨c, h3, h4, h5⟩ := hfa h1
        rw [h3]
        intro e
        have := h5.lt
        simp only [Option.some.injEq, Value.pointer.injEq, Addr.mk.injEq] at e
        omega
    · -- the store
      obtain ⟨ty, pos, aft, hop⟩ := hp
      rw [ho] at hop
      cases hop
      have dα : listed.getD α false = true := hdep α (depsL_dep (by simpa using hpd.1))
      have dv : listed.getD pv false = true := hdep pv (depsL_dep (by simpa using hpd.2))
      obtain ⟨b, hb, hbs, hBb⟩ := hfa dα
      rw [hun'] at hBb
      simp only [Bool.false_eq_true, if_false] at hBb
      obtain ⟨v, hv, hV⟩ := hfacts pv (by simpa using ipv) lpv dv
      have dne : dstAt l pv ≠ dstAt l α := (hslot pv lpv (hisn pv (by simpa using ipv)).1).2.2 α lα nαp (hisn pv (by simpa using ipv)).2.1
      have hst2 : St n ((dstAt l α, ptr b 0) :: (dstAt l pv, v) :: f0) a' := (hst.more hv).more hb
      have hwp : wpX P l.toArray (fun a w'' => Chg b w' w'' ∧ Blk w'' b t vs) [⟨none, .store t (.tmp (dstAt l α)) (.tmp (dstAt l pv)), ty, pos, aft, none⟩] a' w' :=
        GL.storeVar (f := (dstAt l α, ptr b 0) :: (dstAt l pv, v) :: f0) hT rfl hti (by show Fr.get _ _ = _; rw [Fr.get_cons, if_pos rfl]) (by show Fr.get _ _ = _; rw [Fr.get_cons, if_neg (fun e => dne e.symm), Fr.get_cons, if_pos rfl]) (hvs v hV) hvl hv1 hBb hzl (fun w'' hc hB => by intro a ha; exact ⟨hc, hB⟩) a' hst2
      refine hxop hwp fun v w'' => ?_
      rintro ⟨hc, hBb'⟩
      have nip : ∀ j, j ≠ i → (if i = j then true else listed.getD j false) = listed.getD j false := fun j hj => if_neg (fun e => hj e.symm)
      simp only [hset, if_true, if_neg (fun e => nαp e.symm : ¬ i = α), if_neg (fun e => nβp e.symm : ¬ i = β)]
      have hput0 : a'.put (Option.none : Option Tmp) v = a' := rfl
      rw [hput0]
      refine ⟨hc.below hbs he, hst, fun j hj hjm hlj => ?_, fun h => ⟨b, hb, hbs, hBb'⟩, fun h => ?_, hab, fun h => dα⟩
      · rw [nip j (hisn j hj).1] at hlj
        exact hfacts j hj hjm hlj
      · obtain ⟨c, h1, h2, h3⟩ := hfb h
        refine ⟨c, h1, h2, h3.chg hc (fun e => ?_)⟩
        subst e
        exact hab dα h (by rw [hb, h1])
  · rintro listed a' w' hall ⟨he, hst, hfacts, hfa, hfb, hab, hpa⟩
    obtain ⟨b, hb, hbs, hBb⟩ := hfa (hall α lα)
    obtain ⟨c, hc, hcs, hBc⟩ := hfb (hall β lβ)
    rw [hall p lp] at hBb
    simp only [if_true] at hBb
    obtain ⟨v, hv, hV⟩ := hfacts q (by simpa using iq) lq (hall q lq)
    have hne := hab (hall α lα) (hall β lβ)
    refine fin w' b c v (hw0.trans he) (by omega) (by omega) (fun e => hne (by rw [hb, hc, e])) hBb hBc hV a' (((hst.more hc).more hb).more hv)
end
end Go.Bd
/-
  A drawn region in which one operation acts (a call, an append), all others but one are ahead of it, and that one only moves a value.
-/
set_option linter.unusedVariables false
set_option linter.unusedSimpArgs false
set_option maxRecDepth 100000
namespace Go.Bd
open Go.RowKit
def zOk (l : List Oper) (m z p : Nat) : Bool := Nat.blt z m && Nat.blt p m && !Nat.beq z p && (List.range m).all fun i => Nat.beq i z || Nat.beq i p || (aheadOf l i p && !(depsL l i).contains z && !(depsL l i).contains p)
section
variable (P : Program) (n : Sz) (l : List Oper) (V : Nat → Value → World → Prop) (f0 : Fr) (w0 : World)
def ObsZ : List Nat → Prop
  | [] => True
  | i :: is => ObI P n l V w0 f0 i ∧ ObsZ is
end
section
variable {P : Program} {fn : Func} {E : Fin} {n : Sz} {k : List Item} {f : Fr} {w : World}
theorem ObsZ.at {l : List Oper} {V : Nat → Value → World → Prop} {f0 : Fr} {w0 : World} : ∀ {is : List Nat}, ObsZ P n l V f0 w0 is → ∀ i ∈ is, ObI P n l V w0 f0 i
  | [], _, i, hi => by cases hi
  | j :: is, h, i, hi => by
    rcases List.mem_cons.1 hi with e | e
    · subst e; exact h.1
    · exact ObsZ.at h.2 i e
theorem GL.act {ops : Array Oper} {Ψ : Value → World → Prop} {t : Nat} {v : Value} (hv : Fr.get f t = some v) (hV : Ψ v w) : GL P n (fun a w'' => ∃ v, a.tmps[t]? = some v ∧ Ψ v w'') ops [] f w :=
  fun a ha => ⟨v, ha.at_ t v hv, hV⟩
theorem G.drawZ {id : Nat} {l : List Oper} (m z p : Nat) (is : List Nat) (f0 : Fr) (V : Nat → Value → World → Prop) (Ψ : Value → World → Prop) (vz : Value) (hfo : P.follows .mixedOrders = true) (hm : Nat.ble m l.length = true) (hB : tailB l m = true) (hS : slotsB l m n.size = true) (hF : freshB l m f0 = true) (hz : zOk l m z p = true)
    (his : ((List.range m).all fun i => is.contains i || Nat.beq i z || Nat.beq i p) = true) (hnot : (is.all fun i => !Nat.beq i p && !Nat.beq i z) = true) (hpd : ((depsL l p).all fun j => is.contains j) = true) (hsub : Fr.sub f0 f)
    (hzo : ∃ d x ty pos aft, l[z]? = some ⟨some d, .move x, ty, pos, aft, none⟩ ∧ ev f0 x = some vz)
    (mono : ∀ i v w1 w2, Ext w1 w2 → V i v w1 → V i v w2)
    (obs : ∀ w0, Ext w w0 → ObsZ P n l V f0 w0 is)
    (act : ∀ w', Ext w w' → match l[p]? with | none => False | some o => ObD P n l V w' (fun a w'' => ∃ v, a.tmps[dstAt l p]? = some v ∧ Ψ v w'') o (depsL l p) f0)
    (fin : ∀ v w', Ψ v w' → GL P n (GoA P fn E n k) l.toArray (l.drop m) ((dstAt l p, v) :: (dstAt l z, vz) :: f0) w') :
    G P fn E n (.code (.region id l.toArray true) :: k) f w := by
  refine G.anyOrder hfo fun a ha => ?_
  have hm' : m ≤ l.length := by simpa [Nat.ble_eq] using hm
  obtain ⟨hs1, hs2⟩ := slots_spec hS
  have hfr := fresh_spec hF
  have hback := (tailB_spec hB).1
  simp only [zOk, Bool.and_eq_true, Bool.not_eq_true', Nat.blt_eq] at hz
  obtain ⟨⟨⟨lz, lp⟩, nzp⟩, hah⟩ := hz
  replace nzp := Nat.ne_of_beq_eq_false nzp
  have hisn : ∀ i ∈ is, i ≠ p ∧ i ≠ z := fun i hi => by
    have := List.all_eq_true.1 hnot i hi
    simp only [Bool.and_eq_true, Bool.not_eq_true'] at this
    exact ⟨Nat.ne_of_beq_eq_false this.1, Nat.ne_of_beq_eq_false this.2⟩
  have hahead : ∀ i ∈ is, i < m → Reach l.toArray i p ∧ ∀ j ∈ depsL l i, j ∈ is := fun i hi him => by
    obtain ⟨n1, n2⟩ := hisn i hi
    have := List.all_eq_true.1 hah i (by simpa using him)
    simp only [Bool.or_eq_true, Bool.and_eq_true, Bool.not_eq_true'] at this
    rcases this with (h | h) | ⟨⟨h1, h2⟩, h3⟩
    · exact absurd (Nat.eq_of_beq_eq_true h) n2
    · exact absurd (Nat.eq_of_beq_eq_true h) n1
    · refine ⟨ahead_reach h1, fun j hj => ?_⟩
      have hjm : j < m := Nat.lt_trans (hback i j (depsL_dep hj)) him
      have hk := List.all_eq_true.1 his j (by simpa using hjm)
      simp only [Bool.or_eq_true] at hk
      rcases hk with (h | h) | h
      · simpa using h
      · have := Nat.eq_of_beq_eq_true h; subst this
        rw [List.contains_eq_mem, decide_eq_false_iff_not] at h2
        exact absurd hj h2
      · have := Nat.eq_of_beq_eq_true h; subst this
        rw [List.contains_eq_mem, decide_eq_false_iff_not] at h3
        exact absurd hj h3
  have hkind : ∀ i, i < m → i ∈ is ∨ i = z ∨ i = p := fun i hi => by
    have := List.all_eq_true.1 his i (by simpa using hi)
    simp only [Bool.or_eq_true] at this
    rcases this with (h | h) | h
    · exact .inl (by simpa using h)
    · exact .inr (.inl (Nat.eq_of_beq_eq_true h))
    · exact .inr (.inr (Nat.eq_of_beq_eq_true h))
  have hw0 : Ext w { w with drawn := w.drawn + 1 } := ext_draw w
  generalize hgw : ({ w with drawn := w.drawn + 1 } : World) = w0 at hw0
  let Inv : Array Bool → Act → World → Prop := fun listed a' w' => Closed l.toArray listed ∧ St n f0 a' ∧ (listed.getD z false = true → a'.tmps[dstAt l z]? = some vz) ∧
    (listed.getD p false = false → Ext w0 w' ∧ ∀ i ∈ is, i < m → listed.getD i false = true → ∃ v, a'.tmps[dstAt l i]? = some v ∧ V i v w') ∧
    (listed.getD p false = true → ∃ v, a'.tmps[dstAt l p]? = some v ∧ Ψ v w')
  refine xAny_start (m := m) hm' hB Inv ?_ ?_ ?_
  · have hrep : ∀ j : Nat, (Array.replicate l.length false).getD j false = false := fun j => by
      rw [Array.getD_eq_getD_getElem?, Array.getElem?_replicate]; split <;> rfl
    exact ⟨fun i j h => (by rw [hrep] at h; cases h), ha.sub hsub, fun h => (by rw [hrep] at h; cases h), fun _ => ⟨Below.refl _ _, fun i _ _ h => (by rw [hrep] at h; cases h)⟩, fun h => (by rw [hrep] at h; cases h)⟩
  · rintro listed a' w' i o ho hi hls hun hdep ⟨hcd, hst, hvz, hpre, hpost⟩
    have hun' : listed.getD i false = false := by rw [getD_swap (by omega) false true]; exact hun
    have hcd' := closed_set (i := i) (by omega) hcd hdep
    have hset : ∀ j, (listed.setIfInBounds i true).getD j false = if i = j then true else listed.getD j false := fun j => getD_set _ _ _ (by omega) _
    obtain ⟨o', ho', hd, hlt⟩ := hs1 i hi
    rw [ho] at ho'
    cases ho'
    have hput : ∀ v, St n f0 (a'.put o.dst v) := fun v => by
      rw [hd]
      exact (hst.put hlt v).sub fun t x ht => by
        rw [Fr.get_cons]
        by_cases e : dstAt l i = t
        · subst e; rw [hfr i hi] at ht; cases ht
        · rw [if_neg e]; exact ht
    have hoth : ∀ v j, j < m → i ≠ j → (a'.put o.dst v).tmps[dstAt l j]? = a'.tmps[dstAt l j]? := fun v j hj e => by
      rw [hd]
      simp only [Act.put]
      rw [Array.getElem?_setIfInBounds_ne (hs2 i j hi hj e)]
    have hxop : ∀ {Q : Act → World → Prop}, wpX P l.toArray Q [o] a' w' → (∀ v w'', Q (a'.put o.dst v) w'' → Inv (listed.setIfInBounds i true) (a'.put o.dst v) w'') → xOp P l.toArray i (fun a' w' => Inv (listed.setIfInBounds i true) a' w') a' w' := by
      intro Q hwp hnext
      unfold xOp
      rw [show l.toArray[i]? = some o by simpa using ho]
      simp only
      unfold wpX at hwp
      split at hwp
      · rename_i hw
        rw [if_pos hw]
        refine upx_mono (fun v w'' h => ?_) hwp
        exact hnext v w'' (by simpa [wpX] using h)
      · rename_i hw
        rw [if_neg hw]
        exact hnext undef w' (by simpa [wpX] using hwp)
    rcases hkind i hi with hik | rfl | rfl
    · obtain ⟨n1, n2⟩ := hisn i hik
      obtain ⟨hreach, hdis⟩ := hahead i hik hi
      have hpn : listed.getD p false = false := by
        cases hh : listed.getD p false with
        | false => rfl
        | true =>
          have := reach_listed hcd hreach fun j hj => hcd _ _ hh hj
          rw [hun'] at this; cases this
      obtain ⟨he, hfacts⟩ := hpre hpn
      have hob := (obs w0 hw0).at i hik w' he
      rw [ho] at hob
      simp only at hob
      have huse := ObD.use (a := a') (depsL l i) f0 hob hst (fun j hj => by
        have hdj := depsL_dep hj
        exact hfacts j (hdis j hj) (Nat.lt_trans (hback i j hdj) hi) (hdep j hdj))
      refine hxop huse fun v w'' => ?_
      rintro ⟨u, hu, he', hV⟩
      refine ⟨hcd', hput v, fun h => ?_, fun h => ⟨he.trans he', fun j hj hjm hlj => ?_⟩, fun h => ?_⟩
      · rw [hset, if_neg n2] at h
        rw [hoth v z lz n2]
        exact hvz h
      · by_cases e : i = j
        · subst e; exact ⟨u, hu, hV⟩
        · rw [hset, if_neg e] at hlj
          rw [hoth v j hjm e]
          obtain ⟨x, hx, hVx⟩ := hfacts j hj hjm hlj
          exact ⟨x, hx, mono j x _ _ he' hVx⟩
      · rw [hset, if_neg n1, hpn] at h
        cases h
    · obtain ⟨d, x, ty, pos, aft, hod, hev⟩ := hzo
      rw [ho] at hod
      cases hod
      have hdd : d = dstAt l i := by simpa using hd
      have hwp : wpX P l.toArray (fun a w'' => a.tmps[dstAt l i]? = some vz ∧ w'' = w') [⟨some d, .move x, ty, pos, aft, none⟩] a' w' := by
        refine GL.pure (f := f0) rfl rfl (by rw [hdd]; exact hlt) (v := vz) ?_ ?_ a' hst
        · exact hev
        · intro a ha
          exact ⟨ha.at_ _ _ (by rw [hdd, Fr.get_cons, if_pos rfl]), rfl⟩
      refine hxop hwp fun v w'' => ?_
      rintro ⟨hu, rfl⟩
      refine ⟨hcd', hput v, fun h => hu, fun h => ?_, fun h => ?_⟩
      · rw [hset, if_neg nzp] at h
        obtain ⟨he, hfacts⟩ := hpre h
        refine ⟨he, fun j hj hjm hlj => ?_⟩
        have nj := (hisn j hj).2
        rw [hset, if_neg (fun e => nj e.symm)] at hlj
        rw [hoth v j hjm (fun e => nj e.symm)]
        exact hfacts j hj hjm hlj
      · rw [hset, if_neg nzp] at h
        rw [hoth v p lp nzp]
        exact hpost h
    · obtain ⟨he, hfacts⟩ := hpre hun'
      have hob := act w' (hw0.trans he)
      rw [ho] at hob
      simp only at hob
      have huse := ObD.use (a := a') (depsL l i) f0 hob hst (fun j hj => by
        have hdj := depsL_dep hj
        have hjis := List.all_eq_true.1 hpd j hj
        exact hfacts j (by simpa using hjis) (Nat.lt_trans (hback i j hdj) hi) (hdep j hdj))
      refine hxop huse fun v w'' => ?_
      rintro ⟨u, hu, hΨ⟩
      refine ⟨hcd', hput v, fun h => ?_, fun h => ?_, fun h => ⟨u, hu, hΨ⟩⟩
      · have nz : i ≠ z := fun e => nzp e.symm
        rw [hset, if_neg nz] at h
        rw [hoth v z lz nz]
        exact hvz h
      · rw [hset, if_pos rfl] at h
        cases h
  · rintro listed a' w' hall ⟨hcd, hst, hvz, hpre, hpost⟩
    obtain ⟨v, hv, hΨ⟩ := hpost (hall p lp)
    exact fin v w' hΨ a' ((hst.more (hvz (hall z lz))).more hv)
end
end Go.Bd
