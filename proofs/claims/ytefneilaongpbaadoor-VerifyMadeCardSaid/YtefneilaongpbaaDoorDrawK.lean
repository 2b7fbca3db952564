/-
  A drawn region by facts, in which operations make new variables, and mark blocks of bytes.
-/
import Derived.Test.YtefneilaongpbaaDoorDrawN
import Derived.Test.YtefneilaongpbaaDoorMem5
set_option linter.unusedVariables false
set_option linter.unusedSimpArgs false
set_option maxRecDepth 100000
namespace Go.Bd
open Go.RowKit Go.Proofs.YtefneilaongpbaaDoor
/-- The same but for the marks behind blocks of bytes, and new blocks. -/
structure Soft (U : Nat) (w w' : World) : Prop where
  below : Below U w w'
  cells : ∀ (k : Nat) (c : Array Value) (T : TypeId) (fr : Nat × Nat), w.heap[k]? = some (Obj.cells c T fr) → ∃ fr', w'.heap[k]? = some (Obj.cells c T fr') ∧ (Nat.beq 5 T = false → fr' = fr)
theorem Soft.refl (U : Nat) (w : World) : Soft U w w := ⟨Below.refl _ _, fun k c T fr h => ⟨fr, h, fun _ => rfl⟩⟩
theorem Soft.trans {U : Nat} {w w' w'' : World} (h : Soft U w w') (h' : Soft U w' w'') : Soft U w w'' :=
  ⟨h.below.trans h'.below, fun k c T fr hk => by
    obtain ⟨f1, h1, e1⟩ := h.cells k c T fr hk
    obtain ⟨f2, h2, e2⟩ := h'.cells k c T f1 h1
    exact ⟨f2, h2, fun hT => (e2 hT).trans (e1 hT)⟩⟩
theorem Soft.ofExt {U : Nat} {w w' : World} (hU : U ≤ w.heap.size) (h : Ext w w') : Soft U w w' :=
  ⟨h.mono hU, fun k c T fr hk => ⟨fr, by rw [h.block k (by have := (Array.getElem?_eq_some_iff.1 hk).1; exact this)]; exact hk, fun _ => rfl⟩⟩
theorem Soft.mark {U b : Nat} {w w' : World} {cs : List Value} {fr0 : Nat × Nat} (hb : U ≤ b) (hB : w.heap[b]? = some (Obj.cells cs.toArray 5 fr0)) (h : Chg b w w') (h' : ∃ fr', w'.heap[b]? = some (.cells cs.toArray 5 fr')) : Soft U w w' :=
  ⟨h.below hb (Below.refl _ _), fun k c T fr hk => by
    by_cases e : k = b
    · subst e
      rw [hB] at hk
      simp only [Option.some.injEq, Obj.cells.injEq] at hk
      obtain ⟨rfl, rfl, rfl⟩ := hk
      obtain ⟨fr', h1⟩ := h'
      exact ⟨fr', h1, fun hT => by simp at hT⟩
    · exact ⟨fr, by rw [h.block k e]; exact hk, fun _ => rfl⟩⟩
theorem Soft.size {U : Nat} {w w' : World} (h : Soft U w w') : w.heap.size ≤ w'.heap.size := h.below.size
theorem Soft.at {U : Nat} {w w' : World} {S : Nat → Nat × Nat → Prop} {b o : Nat} {vs : List Value} (h : Soft U w w') (hA : At S w b o vs) : At any w' b o vs := by
  obtain ⟨c, T, fr, h1, _, h2⟩ := hA
  obtain ⟨fr', h3, _⟩ := h.cells b c T fr h1
  exact ⟨c, T, fr', h3, trivial, h2⟩
theorem Soft.blk {U : Nat} {w w' : World} {b : Nat} {T : TypeId} {vs : List Value} (h : Soft U w w') (hB : Blk w b T vs) (hT : Nat.beq 5 T = false) : Blk w' b T vs := by
  obtain ⟨fr', h3, h4⟩ := h.cells b _ T _ hB
  rw [h4 hT] at h3
  exact h3
theorem Soft.rdF {U : Nat} {w w' : World} {S : Nat → Nat × Nat → Prop} {v : Value} {n : Nat} {cs : List Value} (h : Soft U w w') (hr : RdF S w v n cs) : RdF any w' v n cs := by
  obtain ⟨p, c, hv, hc, hr⟩ := hr
  exact ⟨p, c, hv, hc, hr.imp id fun ⟨b, o, hp, hA⟩ => ⟨b, o, hp, h.at hA⟩⟩
theorem Soft.rdBs {U : Nat} {w w' : World} {S : Nat → Nat × Nat → Prop} {v : Value} {xs : List Bytes} (h : Soft U w w') (hr : RdBs S w v xs) : RdBs any w' v xs := by
  obtain ⟨es, h1, h2⟩ := hr
  exact ⟨es, h1.imp fun e x ⟨u, hu, hb⟩ => ⟨u, hu, h.rdF hb⟩, h.rdF h2⟩
section
variable (P : Program) (n : Sz) (l : List Oper) (V : Nat → Value → World → Prop) (A : List Nat) (U : Nat) (w w' : World)
def ObK (f0 : Fr) (i : Nat) : Prop := ∀ w', Soft U w w' → match l[i]? with
  | none => False
  | some o => ObD P n l V w' (fun a w'' => ∃ v, a.tmps[dstAt l i]? = some v ∧ Soft U w' w'' ∧ V i v w'' ∧ (A.contains i = true → NewP w' v)) o (depsL l i) f0
def ObsK (f0 : Fr) : Nat → Nat → Prop
  | _, 0 => True
  | i, k + 1 => ObK P n l V A U w f0 i ∧ ObsK f0 (i + 1) k
end
section
variable {P : Program} {fn : Func} {E : Fin} {n : Sz} {k : List Item} {f : Fr} {w w' : World} {ops : Array Oper}
theorem GL.factK {U : Nat} {V : Value → World → Prop} {t : Nat} {v : Value} (hv : Fr.get f t = some v) (he : Soft U w' w) (hV : V v w) : GL P n (fun a w'' => ∃ v, a.tmps[t]? = some v ∧ Soft U w' w'' ∧ V v w'') ops [] f w :=
  fun a ha => ⟨v, ha.at_ t v hv, he, hV⟩
theorem ObsK.at {l : List Oper} {V : Nat → Value → World → Prop} {A : List Nat} {U : Nat} {f0 : Fr} : ∀ (k i : Nat), ObsK P n l V A U w f0 i k → ∀ j, i ≤ j → j < i + k → ObK P n l V A U w f0 j
  | 0, i, _, j, h1, h2 => by omega
  | k + 1, i, h, j, h1, h2 => by
    rcases Nat.lt_or_eq_of_le h1 with h3 | h3
    · exact ObsK.at k (i + 1) h.2 j (by omega) (by omega)
    · subst h3; exact h.1
theorem G.drawK {id : Nat} {l : List Oper} (m : Nat) (U : Nat) (A : List Nat) (f0 : Fr) (V : Nat → Value → World → Prop) (hfo : P.follows .mixedOrders = true) (hm : Nat.ble m l.length = true) (hB : tailB l m = true) (hS : slotsB l m n.size = true) (hF : freshB l m f0 = true) (hA : A.all (fun i => Nat.blt i m) = true) (hsub : Fr.sub f0 f)
    (hU : U ≤ w.heap.size) (mono : ∀ i v w1 w2, Soft U w1 w2 → V i v w1 → V i v w2)
    (old : ∀ i v w', A.contains i = true → V i v w' → ∃ b o, v = ptr b o ∧ b < w'.heap.size)
    (obs : ∀ w0, Ext w w0 → ObsK P n l V A U w0 f0 0 m)
    (fin : ∀ w', Soft U w w' → FinN P n l V A w' (GoA P fn E n k) m 0 m f0) : G P fn E n (.code (.region id l.toArray true) :: k) f w := by
  refine G.anyOrder hfo fun a ha => ?_
  have hm' : m ≤ l.length := by simpa [Nat.ble_eq] using hm
  have hA' : ∀ i, A.contains i = true → i < m := fun i hi => by
    have := List.all_eq_true.1 hA i (by simpa using hi)
    simpa [Nat.blt_eq] using this
  obtain ⟨hs1, hs2⟩ := slots_spec hS
  have hfr := fresh_spec hF
  have hw0 : Ext w { w with drawn := w.drawn + 1 } := ext_draw w
  generalize hgw : ({ w with drawn := w.drawn + 1 } : World) = w0 at hw0
  refine xAny_start (m := m) hm' hB (fun listed a' w' => Soft U w0 w' ∧ St n f0 a' ∧ (∀ i, i < m → listed.getD i false = true → ∃ v, a'.tmps[dstAt l i]? = some v ∧ V i v w') ∧
    ∀ i j, A.contains i = true → A.contains j = true → i ≠ j → listed.getD i false = true → listed.getD j false = true → a'.tmps[dstAt l i]? ≠ a'.tmps[dstAt l j]?) ?_ ?_ ?_
  · have hrep : ∀ (N j : Nat), (Array.replicate N false).getD j false = false := fun N j => by
      rw [Array.getD_eq_getD_getElem?, Array.getElem?_replicate]; split <;> rfl
    exact ⟨Soft.refl _ _, ha.sub hsub, fun i hi h => (by rw [hrep] at h; cases h), fun i j _ _ _ h => (by rw [hrep] at h; cases h)⟩
  · rintro listed a' w' i o ho hi hls hun hdep ⟨he, hst, hfacts, hdiff⟩
    have hob := ObsK.at m 0 (obs w0 hw0) i (by omega) (by omega) w' he
    rw [ho] at hob
    simp only at hob
    obtain ⟨o', ho', hd, hlt⟩ := hs1 i hi
    rw [ho] at ho'
    cases ho'
    have hback := (tailB_spec hB).1
    have huse := ObD.use (a := a') (depsL l i) f0 hob hst (fun j hj => by
      have hdj := depsL_dep hj
      exact hfacts j (Nat.lt_trans (hback i j hdj) hi) (hdep j hdj))
    have hdlt : dstAt l i < a'.tmps.size := by rw [hst.size]; simpa [Nat.blt_eq] using hlt
    have hun' : listed.getD i false = false := by rw [getD_swap (by omega) false true]; exact hun
    have hnext : ∀ v w'', (∃ u, (a'.put o.dst v).tmps[dstAt l i]? = some u ∧ Soft U w' w'' ∧ V i u w'' ∧ (A.contains i = true → NewP w' u)) → Soft U w0 w'' ∧ St n f0 (a'.put o.dst v) ∧ (∀ j, j < m → (listed.setIfInBounds i true).getD j false = true → ∃ u, (a'.put o.dst v).tmps[dstAt l j]? = some u ∧ V j u w'') ∧
        ∀ p q, A.contains p = true → A.contains q = true → p ≠ q → (listed.setIfInBounds i true).getD p false = true → (listed.setIfInBounds i true).getD q false = true → (a'.put o.dst v).tmps[dstAt l p]? ≠ (a'.put o.dst v).tmps[dstAt l q]? := by
      rintro v w'' ⟨u, hu, he', hV, hnew⟩
      have hoth : ∀ j, j < m → i ≠ j → (a'.put o.dst v).tmps[dstAt l j]? = a'.tmps[dstAt l j]? := fun j hj e => by
        rw [hd]
        simp only [Act.put]
        rw [Array.getElem?_setIfInBounds_ne (hs2 i j hi hj e)]
      refine ⟨he.trans he', ?_, fun j hj hlj => ?_, fun p q hp hq hpq hlp hlq => ?_⟩
      · rw [hd]
        exact (hst.put hlt v).sub fun t x ht => by
          rw [Fr.get_cons]
          by_cases e : dstAt l i = t
          · subst e; rw [hfr i hi] at ht; cases ht
          · rw [if_neg e]; exact ht
      · by_cases e : i = j
        · subst e; exact ⟨u, hu, hV⟩
        · rw [getD_set _ _ _ (by omega), if_neg e] at hlj
          obtain ⟨x, hx, hVx⟩ := hfacts j hj hlj
          exact ⟨x, by rw [hoth j hj e]; exact hx, mono j x _ _ he' hVx⟩
      · have one : ∀ q, A.contains q = true → i ≠ q → A.contains i = true → (listed.setIfInBounds i true).getD q false = true → (a'.put o.dst v).tmps[dstAt l i]? ≠ (a'.put o.dst v).tmps[dstAt l q]? := by
          intro q hq hne hi' hlq e
          rw [getD_set _ _ _ (by omega), if_neg hne] at hlq
          obtain ⟨x, hx, hVx⟩ := hfacts q (hA' q hq) hlq
          obtain ⟨b, o1, rfl, hb⟩ := old q x w' hq hVx
          obtain ⟨b', o2, rfl, hb'⟩ := hnew hi'
          rw [hu, hoth q (hA' q hq) hne, hx] at e
          simp only [Option.some.injEq, Value.pointer.injEq, Addr.mk.injEq] at e
          omega
        by_cases e1 : i = p
        · subst e1; exact one q hq hpq hp hlq
        · by_cases e2 : i = q
          · subst e2; exact fun e => one p hp e1 hq hlp e.symm
          · rw [getD_set _ _ _ (by omega), if_neg e1] at hlp
            rw [getD_set _ _ _ (by omega), if_neg e2] at hlq
            rw [hoth p (hA' p hp) e1, hoth q (hA' q hq) e2]
            exact hdiff p q hp hq hpq hlp hlq
    unfold xOp
    rw [show l.toArray[i]? = some o by simpa using ho]
    simp only
    unfold wpX at huse
    split at huse
    · rename_i hw
      rw [if_pos hw]
      refine upx_mono (fun v w'' h => ?_) huse
      exact hnext v w'' (by simpa [wpX] using h)
    · rename_i hw
      rw [if_neg hw]
      exact hnext undef w' (by simpa [wpX] using huse)
  · rintro listed a' w' hall ⟨he, hst, hfacts, hdiff⟩
    exact FinN.use hA' (fun i j hi hj hij => hdiff i j hi hj hij (hall i (hA' i hi)) (hall j (hA' j hj))) (fun i j h1 h2 h3 => hs2 i j h1 h2 h3) m 0 f0 (by omega) (fin w' ((Soft.ofExt hU hw0).trans he)) hst (fun j hj => by omega) fun j _ hj => hfacts j (by omega) (hall j (by omega))
end
section
variable {P : Program} {n : Sz} {Q : Act → World → Prop} {f : Fr} {w : World} {ops : Array Oper} {rest : List Oper} {tt : List (Nat × Ti)} {d : Nat} {ty : TypeId} {pos : String} {aft : Array Edge} {g : Option (Nat × Bool)}
/-- A mark behind one's own block of bytes. -/
theorem GL.markK {t e T : TypeId} {fr : Nat × Nat} {i ie : Ti} {x : Operand} {b o m c : Nat} {cs : List Value} (hT : Tys P tt) (hw : want ops f g = some true) (hlt : Nat.blt d n.size = true) (hi : TT.get tt t = some i) (hdesc : i.desc = .slice e) (hie : TT.get tt e = some ie) (hde : ie.desc = .int .u8)
    (hx : ev f x = some (.slice (some ⟨b, o, none⟩) m c)) (hB : w.heap[b]? = some (Obj.cells cs.toArray T fr)) (h : ∀ w', Chg b w w' → (∃ fr', w'.heap[b]? = some (.cells cs.toArray T fr')) → GL P n Q ops rest ((d, .slice (some ⟨b, o, none⟩) m c) :: f) w') : GL P n Q ops (⟨some d, .convert t t x, ty, pos, aft, g⟩ :: rest) f w := by
  have hd : P.underlying t = some (.slice e) := by have := (hT.ok t i hi).desc; rw [hdesc] at this; exact this
  have he : P.underlying e = some (.int .u8) := by have := (hT.ok e ie hie).desc; rw [hde] at this; exact this
  have hh := hB
  have hsh : w.shape? b = some (T, cs.toArray.size) := by simp [World.shape?, hh]
  refine GL.yields (v := .slice (some ⟨b, o, none⟩) m c) (w' := w.freeze ⟨b, cs.toArray.size, none⟩ 1) hw rfl hlt (fun a ha => ?_) (h _ ?_ ?_)
  · simp [execOp, ha.eval hx, convert, run_underlying hd, run_underlying he, markStringish, hsh]
  · refine ⟨rfl, rfl, rfl, by simp [World.freeze], fun k hk => ?_⟩
    simp [World.freeze, Array.getElem?_modify, Ne.symm hk]
  · obtain ⟨lo, hi'⟩ := fr
    refine ⟨if lo == hi' then (cs.toArray.size, cs.toArray.size + 1) else (Min.min lo cs.toArray.size, Max.max hi' (cs.toArray.size + 1)), ?_⟩
    unfold World.freeze
    rw [if_neg (by decide)]
    simp only [Array.getElem?_modify, if_pos, hh]
    rfl
end
end Go.Bd
