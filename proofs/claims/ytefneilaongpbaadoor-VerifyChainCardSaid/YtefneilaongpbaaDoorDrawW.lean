/-
  REGIONS THAT DRAW THEIR ORDER AND STORE TWICE (an assignment to two places): the rule. Each operation's class: 0 = ahead of the first store, 1 = between the stores, 3 and 4 = the stores, 2 = anywhere (it reads no memory).
-/
import Derived.Test.YtefneilaongpbaaDoorDraws
set_option linter.unusedVariables false
set_option linter.unusedSimpArgs false
namespace Go.Bd
open Go.RowKit

def aheadOf (l : List Oper) (i p : Nat) : Bool := ((masks l []).getD p 0).testBit i
def clsB (l : List Oper) (m p q : Nat) (cls : List Nat) : Bool :=
  Nat.beq cls.length m && aheadOf l p q && Nat.blt q m && Nat.ble m l.length && tailB l m &&
  cls.zipIdx.all fun (c, i) => match c with
    | 0 => aheadOf l i p
    | 1 => aheadOf l p i && aheadOf l i q
    | 3 => Nat.beq i p
    | 4 => Nat.beq i q
    | 5 => aheadOf l i q && !Nat.beq i p
    | _ => !Nat.beq i p && !Nat.beq i q
def storeB (l : List Oper) (p : Nat) : Bool := match l[p]? with | some o => o.dst.isNone | none => false
def slotsW (l : List Oper) (m p q N : Nat) (f : Fr) : Bool := storeB l p && storeB l q && ((List.range m).all fun i => (depsL l i).all fun j => !Nat.beq j p && !Nat.beq j q) && (List.range m).all fun i => Nat.beq i p || Nat.beq i q || ((match (l[i]?).bind (·.dst) with | some d => Nat.blt d N | none => false) && keysB f (dstAt l i) && (List.range m).all fun j => Nat.beq j p || Nat.beq j q || Nat.beq i j || !Nat.beq (dstAt l j) (dstAt l i))
section
variable (P : Program) (n : Sz) (l : List Oper) (V : Nat → Value → Prop) (f0 : Fr)
def ObV (w' : World) (i : Nat) : Prop := match l[i]? with
  | none => False
  | some o => ObD P n l (fun j v _ => V j v) w' (fun a w'' => ∃ v, a.tmps[dstAt l i]? = some v ∧ w'' = w' ∧ V i v) o (depsL l i) f0
def ObS (w' w1 : World) (i : Nat) : Prop := match l[i]? with
  | none => False
  | some o => ObD P n l (fun j v _ => V j v) w' (fun a w'' => w'' = w1 ∧ St n f0 a) o ((depsL l i)) f0
def ObsW (w0 w1 w2 : World) : Nat → List Nat → Prop
  | _, [] => True
  | i, 0 :: c => ObV P n l V f0 w0 i ∧ ObsW w0 w1 w2 (i + 1) c
  | i, 1 :: c => ObV P n l V f0 w1 i ∧ ObsW w0 w1 w2 (i + 1) c
  | i, 3 :: c => ObS P n l V f0 w0 w1 i ∧ ObsW w0 w1 w2 (i + 1) c
  | i, 4 :: c => ObS P n l V f0 w1 w2 i ∧ ObsW w0 w1 w2 (i + 1) c
  | i, 5 :: c => (ObV P n l V f0 w0 i ∧ ObV P n l V f0 w1 i) ∧ ObsW w0 w1 w2 (i + 1) c
  | i, _ :: c => (∀ w', ObV P n l V f0 w' i) ∧ ObsW w0 w1 w2 (i + 1) c
end
section
variable {P : Program} {fn : Func} {E : Fin} {n : Sz} {k : List Item} {f : Fr} {w : World} {ops : Array Oper}
theorem GL.val {V : Value → Prop} {t : Nat} {v : Value} (hv : Fr.get f t = some v) (hV : V v) : GL P n (fun a w'' => ∃ v, a.tmps[t]? = some v ∧ w'' = w ∧ V v) ops [] f w :=
  fun a ha => ⟨v, ha.at_ t v hv, rfl, hV⟩
theorem GL.stop {f0 : Fr} (h : Fr.sub f0 f) : GL P n (fun a w'' => w'' = w ∧ St n f0 a) ops [] f w := fun a ha => ⟨rfl, ha.sub h⟩
theorem keys_spec {f : Fr} {d : Nat} (h : keysB f d = true) : Fr.get f d = none := by
  unfold keysB at h
  induction f with
  | nil => rfl
  | cons x f ih =>
    simp only [List.all_cons, Bool.and_eq_true, Bool.not_eq_true'] at h
    rw [Fr.get_cons, if_neg (Nat.ne_of_beq_eq_false h.1)]
    exact ih h.2
theorem ahead_reach {l : List Oper} {i p : Nat} (h : aheadOf l i p = true) : Reach l.toArray i p := by
  unfold aheadOf at h
  rw [List.getD_eq_getElem?_getD] at h
  cases hm : (masks l [])[p]? with
  | none => simp [hm] at h
  | some m =>
    rw [hm] at h
    exact masks_ok l [] (by simp) (by simp) p m hm i h
theorem ObsW.at {l : List Oper} {V : Nat → Value → Prop} {f0 : Fr} {w0 w1 w2 : World} : ∀ (cls : List Nat) (i : Nat), ObsW P n l V f0 w0 w1 w2 i cls → ∀ j c, cls[j]? = some c →
    (c = 0 → ObV P n l V f0 w0 (i + j)) ∧ (c = 1 → ObV P n l V f0 w1 (i + j)) ∧ (c = 3 → ObS P n l V f0 w0 w1 (i + j)) ∧ (c = 4 → ObS P n l V f0 w1 w2 (i + j)) ∧ (c = 5 → ObV P n l V f0 w0 (i + j) ∧ ObV P n l V f0 w1 (i + j)) ∧ (c ≠ 0 → c ≠ 1 → c ≠ 3 → c ≠ 4 → c ≠ 5 → ∀ w', ObV P n l V f0 w' (i + j))
  | [], i, _, j, c, hc => by simp at hc
  | c0 :: cls, i, h, 0, c, hc => by
    simp only [List.getElem?_cons_zero, Option.some.injEq] at hc
    subst hc
    rw [Nat.add_zero]
    refine ⟨?_, ?_, ?_, ?_, ?_, ?_⟩
    · rintro rfl; exact h.1
    · rintro rfl; exact h.1
    · rintro rfl; exact h.1
    · rintro rfl; exact h.1
    · rintro rfl; exact h.1
    · intro h0 h1 h3 h4 h5
      rcases c0 with _ | _ | _ | _ | _ | _ | c0
      · exact absurd rfl h0
      · exact absurd rfl h1
      · exact h.1
      · exact absurd rfl h3
      · exact absurd rfl h4
      · exact absurd rfl h5
      · exact h.1
  | c0 :: cls, i, h, j + 1, c, hc => by
    simp only [List.getElem?_cons_succ] at hc
    have h' : ObsW P n l V f0 w0 w1 w2 (i + 1) cls := by
      rcases c0 with _ | _ | _ | _ | _ | _ | c0 <;> exact h.2
    have := ObsW.at cls (i + 1) h' j c hc
    rw [show i + 1 + j = i + (j + 1) by omega] at this
    exact this

/-- The rule. -/
theorem G.drawWt {id : Nat} {l : List Oper} (m p q : Nat) (cls : List Nat) (f0 : Fr) (V : Nat → Value → Prop) (hfo : P.follows .mixedOrders = true) (hC : clsB l m p q cls = true) (hS : slotsW l m p q n.size f0 = true) (hsub : Fr.sub f0 f)
    (h : ∀ w0, Ext w w0 → ∃ w1 w2, ObsW P n l V f0 w0 w1 w2 0 cls ∧ GL P n (GoA P fn E n k) l.toArray (l.drop m) f0 w2) : G P fn E n (.code (.region id l.toArray true) :: k) f w := by
  refine G.anyOrder hfo fun a ha => ?_
  simp only [clsB, Bool.and_eq_true] at hC
  obtain ⟨⟨⟨⟨⟨hcl, hpq⟩, hql⟩, hml⟩, hB⟩, hcls⟩ := hC
  have hml : m ≤ l.length := by simpa [Nat.ble_eq] using hml
  have hcl : cls.length = m := Nat.eq_of_beq_eq_true hcl
  have hql : q < m := by simpa [Nat.blt_eq] using hql
  obtain ⟨w1, w2, hob, hfin⟩ := h _ (ext_draw w)
  generalize ({ w with drawn := w.drawn + 1 } : World) = w0 at *
  simp only [slotsW, Bool.and_eq_true] at hS
  obtain ⟨⟨⟨hsp, hsq⟩, hsd⟩, hsl⟩ := hS
  have hdd : ∀ i, i < m → ∀ j ∈ depsL l i, j ≠ p ∧ j ≠ q := fun i hi j hj => by
    have h1 := List.all_eq_true.1 (List.all_eq_true.1 hsd i (by simpa using hi)) j hj
    simp only [Bool.and_eq_true, Bool.not_eq_true'] at h1
    exact ⟨Nat.ne_of_beq_eq_false h1.1, Nat.ne_of_beq_eq_false h1.2⟩
  have hslot : ∀ i, i < m → i ≠ p → i ≠ q → (∃ o, l[i]? = some o ∧ o.dst = some (dstAt l i) ∧ Nat.blt (dstAt l i) n.size = true) ∧ Fr.get f0 (dstAt l i) = none ∧ ∀ j, j < m → j ≠ p → j ≠ q → i ≠ j → dstAt l i ≠ dstAt l j := by
    intro i hi hip hiq
    have h1 := List.all_eq_true.1 hsl i (by simpa using hi)
    simp only [Bool.or_eq_true, Bool.and_eq_true] at h1
    rcases h1 with (h1 | h1) | ⟨⟨h1, h2⟩, h3⟩
    · exact absurd (Nat.eq_of_beq_eq_true h1) hip
    · exact absurd (Nat.eq_of_beq_eq_true h1) hiq
    refine ⟨?_, keys_spec h2, ?_⟩
    · cases ho : l[i]? with
      | none => simp [ho] at h1
      | some o =>
        cases hd : o.dst with
        | none => simp [ho, hd] at h1
        | some d => exact ⟨o, rfl, by simp [dstAt, ho, hd], by simpa [dstAt, ho, hd] using h1⟩
    · intro j hj hjp hjq hij e
      have h4 := List.all_eq_true.1 h3 j (by simpa using hj)
      simp only [Bool.or_eq_true, Bool.not_eq_true'] at h4
      rcases h4 with ((h4 | h4) | h4) | h4
      · exact hjp (Nat.eq_of_beq_eq_true h4)
      · exact hjq (Nat.eq_of_beq_eq_true h4)
      · exact hij (Nat.eq_of_beq_eq_true h4)
      · exact Nat.ne_of_beq_eq_false h4 e.symm
  have hstore : ∀ s, storeB l s = true → ∃ o, l[s]? = some o ∧ o.dst = none := fun s hs => by
    unfold storeB at hs
    cases ho : l[s]? with
    | none => simp [ho] at hs
    | some o => exact ⟨o, rfl, by simpa [ho] using hs⟩
  obtain ⟨op, hop, hdp⟩ := hstore p hsp
  obtain ⟨oq, hoq, hdq⟩ := hstore q hsq
  have hpq' := ahead_reach hpq
  have hback := (tailB_spec hB).1
  have reach_lt : ∀ {i j : Nat}, Reach l.toArray i j → i < j := by
    intro i j hr
    induction hr with
    | base h => exact hback _ _ h
    | step h _ ih => exact Nat.lt_trans ih (hback _ _ h)
  have hplq := reach_lt hpq'
  refine xAny_start (m := m) hml hB (fun listed a' w' => Closed l.toArray listed ∧ St n f0 a' ∧
    (listed.getD p false = false → w' = w0) ∧ (listed.getD p false = true → listed.getD q false = false → w' = w1) ∧ (listed.getD q false = true → w' = w2) ∧
    ∀ i, i < m → i ≠ p → i ≠ q → listed.getD i false = true → ∃ v, a'.tmps[dstAt l i]? = some v ∧ V i v) ?_ ?_ ?_
  · have hrep : ∀ j : Nat, (Array.replicate l.length false).getD j false = false := fun j => by
      rw [Array.getD_eq_getD_getElem?, Array.getElem?_replicate]; split <;> rfl
    exact ⟨fun i j h => (by rw [hrep] at h; cases h), ha.sub hsub, fun _ => rfl, fun h => (by rw [hrep] at h; cases h), fun h => (by rw [hrep] at h; cases h), fun i _ _ _ h => (by rw [hrep] at h; cases h)⟩
  · rintro listed a' w' i o ho hi hls hun hdep ⟨hcd, hst, hw0, hw1, hw2, hfacts⟩
    have hun' : listed.getD i false = false := by rw [getD_swap (by omega) false true]; exact hun
    have hcd' := closed_set (i := i) (by omega) hcd hdep
    have hset : ∀ j, (listed.setIfInBounds i true).getD j false = if i = j then true else listed.getD j false := fun j => getD_set _ _ _ (by omega) _
    have anc : ∀ {x y : Nat}, Reach l.toArray x y → listed.getD y false = true → listed.getD x false = true := fun hr hy => reach_listed hcd hr fun j hj => hcd _ _ hy hj
    obtain ⟨c, hc⟩ : ∃ c, cls[i]? = some c := ⟨_, List.getElem?_eq_getElem (by omega)⟩
    have hcc := List.all_eq_true.1 hcls (c, i) (List.mk_mem_zipIdx_iff_getElem?.2 hc)
    obtain ⟨ob0, ob1, ob3, ob4, ob5, ob2⟩ := ObsW.at cls 0 hob i c hc
    rw [Nat.zero_add] at ob0 ob1 ob3 ob4 ob5 ob2
    have hrun : ∀ (Qx : Act → World → Prop) (wx : World), ObD P n l (fun j v _ => V j v) wx Qx o (depsL l i) f0 → wpX P l.toArray Qx [o] a' wx := fun Qx wx hob =>
      ObD.use (a := a') (depsL l i) f0 hob hst fun j hj => by
        have hdj := depsL_dep hj
        exact hfacts j (Nat.lt_trans (hback i j hdj) hi) (hdd i hi j hj).1 (hdd i hi j hj).2 (hdep j hdj)
    have hgo : ∀ (Qx : Act → World → Prop), wpX P l.toArray Qx [o] a' w' → (∀ v w'', Qx (a'.put o.dst v) w'' → Closed l.toArray (listed.setIfInBounds i true) ∧ St n f0 (a'.put o.dst v) ∧
        ((listed.setIfInBounds i true).getD p false = false → w'' = w0) ∧ ((listed.setIfInBounds i true).getD p false = true → (listed.setIfInBounds i true).getD q false = false → w'' = w1) ∧ ((listed.setIfInBounds i true).getD q false = true → w'' = w2) ∧
        ∀ j, j < m → j ≠ p → j ≠ q → (listed.setIfInBounds i true).getD j false = true → ∃ u, (a'.put o.dst v).tmps[dstAt l j]? = some u ∧ V j u) →
        xOp P l.toArray i (fun a' w' => Closed l.toArray (listed.setIfInBounds i true) ∧ St n f0 a' ∧
        ((listed.setIfInBounds i true).getD p false = false → w' = w0) ∧ ((listed.setIfInBounds i true).getD p false = true → (listed.setIfInBounds i true).getD q false = false → w' = w1) ∧ ((listed.setIfInBounds i true).getD q false = true → w' = w2) ∧
        ∀ j, j < m → j ≠ p → j ≠ q → (listed.setIfInBounds i true).getD j false = true → ∃ u, a'.tmps[dstAt l j]? = some u ∧ V j u) a' w' := by
      intro Qx huse hnext
      unfold xOp
      rw [show l.toArray[i]? = some o by simpa using ho]
      simp only
      unfold wpX at huse
      split at huse
      · rename_i hw
        rw [if_pos hw]
        exact upx_mono (fun v w'' h => hnext v w'' (by simpa [wpX] using h)) huse
      · rename_i hw
        rw [if_neg hw]
        exact hnext undef w' (by simpa [wpX] using huse)
    by_cases hip : i = p
    · subst hip
      have hc3 : c = 3 := by
        rcases c with _ | _ | _ | _ | _ | _ | c
        · exact absurd (reach_lt (ahead_reach hcc)) (by omega)
        · simp only [Bool.and_eq_true] at hcc
          exact absurd (reach_lt (ahead_reach hcc.1)) (by omega)
        · simp [Nat.beq_eq_true_eq] at hcc
        · rfl
        · exact absurd (Nat.eq_of_beq_eq_true hcc) (by omega)
        · simp [Nat.beq_eq_true_eq] at hcc
        · simp [Nat.beq_eq_true_eq] at hcc
      have hobS := ob3 hc3
      unfold ObS at hobS
      rw [ho] at hobS
      simp only at hobS
      have hww := hw0 hun'
      subst hww
      have hqf : listed.getD q false = false := by
        cases hq : listed.getD q false with
        | false => rfl
        | true => rw [anc hpq' hq] at hun'; cases hun'
      have hdo : o.dst = none := by rw [Option.some.inj (ho.symm.trans hop)]; exact hdp
      refine hgo _ (hrun _ _ hobS) ?_
      · rintro v w'' ⟨rfl, hst'⟩
        have ea : a'.put o.dst v = a' := by rw [hdo]; rfl
        rw [ea] at hst' ⊢
        refine ⟨hcd', hst, fun h => ?_, fun _ _ => rfl, fun h => ?_, fun j hj hjp hjq hlj => ?_⟩
        · rw [hset, if_pos rfl] at h; cases h
        · rw [hset, if_neg (by omega)] at h; rw [hqf] at h; cases h
        · rw [hset, if_neg (fun e => hjp e.symm)] at hlj
          exact hfacts j hj hjp hjq hlj
    by_cases hiq : i = q
    · subst hiq
      have hc4 : c = 4 := by
        rcases c with _ | _ | _ | _ | _ | _ | c
        · exact absurd (reach_lt (ahead_reach hcc)) (by omega)
        · simp only [Bool.and_eq_true] at hcc
          exact absurd (reach_lt (ahead_reach hcc.2)) (by omega)
        · simp [Nat.beq_eq_true_eq] at hcc
        · exact absurd (Nat.eq_of_beq_eq_true hcc) (by omega)
        · rfl
        · simp only [Bool.and_eq_true] at hcc
          exact absurd (reach_lt (ahead_reach hcc.1)) (by omega)
        · simp [Nat.beq_eq_true_eq] at hcc
      have hobS := ob4 hc4
      unfold ObS at hobS
      rw [ho] at hobS
      simp only at hobS
      have hpt : listed.getD p false = true := reach_listed hcd hpq' hdep
      have hww := hw1 hpt hun'
      subst hww
      have hdo : o.dst = none := by rw [Option.some.inj (ho.symm.trans hoq)]; exact hdq
      refine hgo _ (hrun _ _ hobS) ?_
      · rintro v w'' ⟨rfl, hst'⟩
        have ea : a'.put o.dst v = a' := by rw [hdo]; rfl
        rw [ea] at hst' ⊢
        refine ⟨hcd', hst, fun h => ?_, fun _ h => ?_, fun _ => rfl, fun j hj hjp hjq hlj => ?_⟩
        · rw [hset, if_neg (by omega), hpt] at h; cases h
        · rw [hset, if_pos rfl] at h; cases h
        · rw [hset, if_neg (fun e => hjq e.symm)] at hlj
          exact hfacts j hj hjp hjq hlj
    have hob' : ObV P n l V f0 w' i := by
      rcases c with _ | _ | _ | _ | _ | _ | c
      · have hpf : listed.getD p false = false := by
          cases hp : listed.getD p false with
          | false => rfl
          | true => rw [anc (ahead_reach hcc) hp] at hun'; cases hun'
        rw [hw0 hpf]
        exact ob0 rfl
      · simp only [Bool.and_eq_true] at hcc
        have hpt : listed.getD p false = true := reach_listed hcd (ahead_reach hcc.1) hdep
        have hqf : listed.getD q false = false := by
          cases hq : listed.getD q false with
          | false => rfl
          | true => rw [anc (ahead_reach hcc.2) hq] at hun'; cases hun'
        rw [hw1 hpt hqf]
        exact ob1 rfl
      · exact ob2 (by omega) (by omega) (by omega) (by omega) (by omega) w'
      · exact absurd (Nat.eq_of_beq_eq_true hcc) hip
      · exact absurd (Nat.eq_of_beq_eq_true hcc) hiq
      · simp only [Bool.and_eq_true] at hcc
        have hqf : listed.getD q false = false := by
          cases hq : listed.getD q false with
          | false => rfl
          | true => rw [anc (ahead_reach hcc.1) hq] at hun'; cases hun'
        cases hp : listed.getD p false with
        | false => rw [hw0 hp]; exact (ob5 rfl).1
        | true => rw [hw1 hp hqf]; exact (ob5 rfl).2
      · exact ob2 (by omega) (by omega) (by omega) (by omega) (by omega) w'
    unfold ObV at hob'
    rw [ho] at hob'
    simp only at hob'
    obtain ⟨⟨o', ho', hd, hlt⟩, hfr, hdist⟩ := hslot i hi hip hiq
    rw [ho] at ho'
    cases ho'
    have hdlt : dstAt l i < a'.tmps.size := by rw [hst.size]; simpa [Nat.blt_eq] using hlt
    refine hgo _ (hrun _ _ hob') ?_
    rintro v w'' ⟨u, hu, rfl, hV⟩
    refine ⟨hcd', ?_, fun h => ?_, fun h h' => ?_, fun h => ?_, fun j hj hjp hjq hlj => ?_⟩
    · rw [hd]
      exact (hst.put hlt v).sub fun t x ht => by
        rw [Fr.get_cons]
        by_cases e : dstAt l i = t
        · subst e; rw [hfr] at ht; cases ht
        · rw [if_neg e]; exact ht
    · rw [hset, if_neg hip] at h; exact hw0 h
    · rw [hset, if_neg hip] at h; rw [hset, if_neg hiq] at h'; exact hw1 h h'
    · rw [hset, if_neg hiq] at h; exact hw2 h
    · by_cases e : i = j
      · subst e; exact ⟨u, hu, hV⟩
      · rw [hset, if_neg e] at hlj
        obtain ⟨x, hx, hVx⟩ := hfacts j hj hjp hjq hlj
        refine ⟨x, ?_, hVx⟩
        rw [hd]
        simp only [Act.put]
        rw [Array.getElem?_setIfInBounds_ne (hdist j hj hjp hjq e)]
        exact hx
  · rintro listed a' w' hall ⟨hcd, hst, hw0, hw1, hw2, hfacts⟩
    have hq := hall q hql
    rw [hw2 hq]
    exact hfin a' hst
theorem G.drawW {id : Nat} {l : List Oper} (p q : Nat) (cls : List Nat) (f0 : Fr) (V : Nat → Value → Prop) (hfo : P.follows .mixedOrders = true) (hC : clsB l l.length p q cls = true) (hS : slotsW l l.length p q n.size f0 = true) (hsub : Fr.sub f0 f)
    (h : ∀ w0, Ext w w0 → ∃ w1 w2, ObsW P n l V f0 w0 w1 w2 0 cls ∧ G P fn E n k f0 w2) : G P fn E n (.code (.region id l.toArray true) :: k) f w :=
  G.drawWt l.length p q cls f0 V hfo hC hS hsub fun w0 he => let ⟨w1, w2, h1, h2⟩ := h w0 he; ⟨w1, w2, h1, by rw [List.drop_length]; exact GL.nil h2⟩
end
end Go.Bd
