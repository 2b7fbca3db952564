import Derived.Test.YtefneilaongpbaaDoorEq
import Derived.Lib.ConvBytes
import Derived.Test.YtefneilaongpbaaDoorDraws
import Derived.Test.YtefneilaongpbaaDoorOps
/-
  Texts as bytes.
-/
set_option linter.unusedVariables false
set_option linter.unusedSimpArgs false
set_option maxRecDepth 100000
namespace Go.Bd
open Go.RowKit Go.Proofs.YtefneilaongpbaaDoor
section
variable {P : Program} {n : Sz} {Q : Act → World → Prop} {f : Fr} {w : World} {ops : Array Oper} {rest : List Oper} {tt : List (Nat × Ti)} {d : Nat} {ty : TypeId} {pos : String} {aft : Array Edge} {g : Option (Nat × Bool)}
theorem GL.strBytes {src dst e : TypeId} {i ie : Ti} {x : Operand} {s : ByteArray} {u : TypeDesc} (hT : Tys P tt) (hw : want ops f g = some true) (hlt : Nat.blt d n.size = true) (hs : P.underlying src = some u) (hi : TT.get tt dst = some i) (hdesc : i.desc = .slice e) (hie : TT.get tt e = some ie) (hde : ie.desc = .int .u8)
    (hx : ev f x = some (.string s)) (h : ∀ v w', RdB (fun b _ => w.heap.size ≤ b) w' v s.data.toList → Ext w w' → GL P n Q ops rest ((d, v) :: f) w') : GL P n Q ops (⟨some d, .convert src dst x, ty, pos, aft, g⟩ :: rest) f w := by
  have hd : P.underlying dst = some (.slice e) := by have := (hT.ok dst i hi).desc; rw [hdesc] at this; exact this
  have he : P.underlying e = some (.int .u8) := by have := (hT.ok e ie hie).desc; rw [hde] at this; exact this
  have hr := Lib.run_convert_string_bytes (P := P) w src dst e s hs hd he
  have hge := grownCap_ge w s.size 0 e
  refine GL.yields (v := .slice (some ⟨w.heap.size, 0, none⟩) s.size (grownCap w s.size 0 e)) (w' := Lib.bytesWorld w e s) hw rfl hlt (fun a ha => by simp [execOp, ha.eval hx, hr]) (h _ _ ?_ ?_)
  · refine ⟨_, _, rfl, ?_, ?_⟩
    · show s.data.toList.length ≤ _
      simpa using hge
    · by_cases h0 : s.data.toList = []
      · left; rw [h0]; rfl
      · right
        refine ⟨w.heap.size, 0, rfl, _, e, _, Lib.bytesWorld_at_new w e s, Nat.le_refl _, fun j v hj => ?_⟩
        simp only [bcells, List.getElem?_map] at hj
        have hjl : j < s.data.toList.length := by
          rcases Nat.lt_or_ge j s.data.toList.length with h1 | h1
          · exact h1
          · rw [List.getElem?_eq_none h1] at hj; cases hj
        rw [List.getElem?_eq_getElem hjl] at hj
        simp only [Option.map_some, Option.some.injEq] at hj
        have hjl' : j < s.data.size := by simpa using hjl
        rw [Nat.zero_add, Lib.bytesCells, Array.getElem?_append_left (by simpa using hjl')]
        subst hj
        simp [Array.getElem?_map, Array.getElem?_eq_getElem hjl', bv]
  · exact ⟨rfl, rfl, rfl, by rw [Lib.bytesWorld_size]; omega, fun k hk => Lib.bytesWorld_at_old w e s k hk⟩
/-- A mark behind one's own block. -/
theorem GL.mark {t e T : TypeId} {i ie : Ti} {x : Operand} {b o m c : Nat} {cs : List Value} (hT : Tys P tt) (hw : want ops f g = some true) (hlt : Nat.blt d n.size = true) (hi : TT.get tt t = some i) (hdesc : i.desc = .slice e) (hie : TT.get tt e = some ie) (hde : ie.desc = .int .u8)
    (hx : ev f x = some (.slice (some ⟨b, o, none⟩) m c)) (hB : Blk w b T cs) (h : ∀ w', Chg b w w' → At any w' b 0 cs → GL P n Q ops rest ((d, .slice (some ⟨b, o, none⟩) m c) :: f) w') : GL P n Q ops (⟨some d, .convert t t x, ty, pos, aft, g⟩ :: rest) f w := by
  have hd : P.underlying t = some (.slice e) := by have := (hT.ok t i hi).desc; rw [hdesc] at this; exact this
  have he : P.underlying e = some (.int .u8) := by have := (hT.ok e ie hie).desc; rw [hde] at this; exact this
  have hh : w.heap[b]? = some (.cells cs.toArray T (0, 0)) := hB
  have hsh : w.shape? b = some (T, cs.toArray.size) := by simp [World.shape?, hh]
  refine GL.yields (v := .slice (some ⟨b, o, none⟩) m c) (w' := w.freeze ⟨b, cs.toArray.size, none⟩ 1) hw rfl hlt (fun a ha => ?_) (h _ ?_ ?_)
  · simp [execOp, ha.eval hx, convert, run_underlying hd, run_underlying he, markStringish, hsh]
  · refine ⟨rfl, rfl, rfl, by simp [World.freeze], fun k hk => ?_⟩
    simp [World.freeze, Array.getElem?_modify, Ne.symm hk]
  · refine ⟨cs.toArray, T, (cs.toArray.size, cs.toArray.size + 1), ?_, trivial, fun j v hj => by simpa using hj⟩
    simp [World.freeze, Array.getElem?_modify, hh]
end
end Go.Bd
namespace Go.Proofs.YtefneilaongpbaaDoor
open Go Go.Bd Go.RowKit
/-- A key of a first byte. -/
def key1 (k : UInt8) : Dig := ⟨k :: List.replicate 31 0, by simp⟩
theorem key1_cells (k : UInt8) : (key1 k).cells = bv k :: List.replicate 31 (.int .u8 0) := by simp [key1, Dig.cells, bv]
theorem key1_num {a b : UInt8} (h : a < b) : (key1 a).num < (key1 b).num := Dig.lex (i := 0) (by omega) (fun j hj => by omega) h
theorem key1_ne {a b : UInt8} (h : a ≠ b) : key1 a ≠ key1 b := fun e => h (by have := congrArg (fun k => k.at 0) e; exact this)
end Go.Proofs.YtefneilaongpbaaDoor
/-
  A drawn region by facts, in which some operations make new variables: these are unlike.
-/
set_option linter.unusedVariables false
set_option linter.unusedSimpArgs false
namespace Go.Bd
open Go.RowKit
def NewP (w : World) (v : Value) : Prop := ∃ b o, v = ptr b o ∧ w.heap.size ≤ b
section
variable (P : Program) (n : Sz) (l : List Oper) (V : Nat → Value → World → Prop) (A : List Nat) (w w' : World)
def ObN (f0 : Fr) (i : Nat) : Prop := ∀ w', Ext w w' → match l[i]? with
  | none => False
  | some o => ObD P n l V w' (fun a w'' => ∃ v, a.tmps[dstAt l i]? = some v ∧ Ext w' w'' ∧ V i v w'' ∧ (A.contains i = true → NewP w' v)) o (depsL l i) f0
def ObsN (f0 : Fr) : Nat → Nat → Prop
  | _, 0 => True
  | i, k + 1 => ObN P n l V A w f0 i ∧ ObsN f0 (i + 1) k
/-- The variables of these are unlike. -/
def unlikeB (f : Fr) : Prop := ∀ i j, A.contains i = true → A.contains j = true → i ≠ j → Fr.get f (dstAt l i) ≠ Fr.get f (dstAt l j)
def FinN (Q : Act → World → Prop) (m : Nat) : Nat → Nat → Fr → Prop
  | _, 0, f => unlikeB l A f → GL P n Q l.toArray (l.drop m) f w'
  | i, k + 1, f => ∀ v, V i v w' → FinN Q m (i + 1) k ((dstAt l i, v) :: f)
end
section
variable {P : Program} {fn : Func} {E : Fin} {n : Sz} {k : List Item} {f : Fr} {w : World}
theorem ObsN.at {l : List Oper} {V : Nat → Value → World → Prop} {A : List Nat} {f0 : Fr} : ∀ (k i : Nat), ObsN P n l V A w f0 i k → ∀ j, i ≤ j → j < i + k → ObN P n l V A w f0 j
  | 0, i, _, j, h1, h2 => by omega
  | k + 1, i, h, j, h1, h2 => by
    rcases Nat.lt_or_eq_of_le h1 with h3 | h3
    · exact ObsN.at k (i + 1) h.2 j (by omega) (by omega)
    · subst h3; exact h.1
theorem FinN.use {l : List Oper} {V : Nat → Value → World → Prop} {A : List Nat} {w' : World} {Q : Act → World → Prop} {m : Nat} {a : Act} (hA : ∀ i, A.contains i = true → i < m) (hun : ∀ i j, A.contains i = true → A.contains j = true → i ≠ j → a.tmps[dstAt l i]? ≠ a.tmps[dstAt l j]?)
    (hne : ∀ i j, i < m → j < m → i ≠ j → dstAt l i ≠ dstAt l j) : ∀ (k i : Nat) (f : Fr), i + k = m → FinN P n l V A w' Q m i k f → St n f a → (∀ j, j < i → ∃ v, Fr.get f (dstAt l j) = some v) → (∀ j, i ≤ j → j < i + k → ∃ v, a.tmps[dstAt l j]? = some v ∧ V j v w') → wpX P l.toArray Q (l.drop m) a w'
  | 0, i, f, hi, h, ha, hk, hj => by
    refine h (fun p q hp hq hpq e => ?_) a ha
    have h1 := hA p hp
    have h2 := hA q hq
    obtain ⟨v1, e1⟩ := hk p (by omega)
    obtain ⟨v2, e2⟩ := hk q (by omega)
    have a1 := ha.at_ _ _ e1
    have a2 := ha.at_ _ _ e2
    rw [e1, e2] at e
    exact hun p q hp hq hpq (by rw [a1, a2, e])
  | k + 1, i, f, hi, h, ha, hk, hj => by
    obtain ⟨v, hv, hV⟩ := hj i (by omega) (by omega)
    refine FinN.use hA hun hne k (i + 1) _ (by omega) (h v hV) ⟨ha.size, ha.defers, fun t u ht => ?_⟩ (fun j hjl => ?_) (fun q h1 h2 => hj q (by omega) (by omega))
    · rw [Fr.get_cons] at ht
      by_cases e : dstAt l i = t
      · subst e; rw [if_pos rfl] at ht; cases ht; exact hv
      · rw [if_neg e] at ht; exact ha.at_ t u ht
    · rw [Fr.get_cons]
      by_cases e : dstAt l i = dstAt l j
      · rw [if_pos e]; exact ⟨v, rfl⟩
      · rw [if_neg e]
        rcases Nat.lt_or_eq_of_le (Nat.lt_succ_iff.1 hjl) with h3 | h3
        · exact hk j h3
        · subst h3; exact absurd rfl e
theorem G.drawN {id : Nat} {l : List Oper} (m : Nat) (A : List Nat) (f0 : Fr) (V : Nat → Value → World → Prop) (hfo : P.follows .mixedOrders = true) (hm : Nat.ble m l.length = true) (hB : tailB l m = true) (hS : slotsB l m n.size = true) (hF : freshB l m f0 = true) (hA : A.all (fun i => Nat.blt i m) = true) (hsub : Fr.sub f0 f)
    (mono : ∀ i v w1 w2, Ext w1 w2 → V i v w1 → V i v w2)
    (old : ∀ i v w', A.contains i = true → V i v w' → ∃ b o, v = ptr b o ∧ b < w'.heap.size)
    (obs : ∀ w0, Ext w w0 → ObsN P n l V A w0 f0 0 m)
    (fin : ∀ w', Ext w w' → FinN P n l V A w' (GoA P fn E n k) m 0 m f0) : G P fn E n (.code (.region id l.toArray true) :: k) f w := by
  refine G.anyOrder hfo fun a ha => ?_
  have hm' : m ≤ l.length := by simpa [Nat.ble_eq] using hm
  have hA' : ∀ i, A.contains i = true → i < m := fun i hi => by
    have := List.all_eq_true.1 hA i (by simpa using hi)
    simpa [Nat.blt_eq] using this
  obtain ⟨hs1, hs2⟩ := slots_spec hS
  have hfr := fresh_spec hF
  have hw0 : Ext w { w with drawn := w.drawn + 1 } := ext_draw w
  generalize hgw : ({ w with drawn := w.drawn + 1 } : World) = w0 at hw0
  refine xAny_start (m := m) hm' hB (fun listed a' w' => Ext w0 w' ∧ St n f0 a' ∧ (∀ i, i < m → listed.getD i false = true → ∃ v, a'.tmps[dstAt l i]? = some v ∧ V i v w') ∧
    ∀ i j, A.contains i = true → A.contains j = true → i ≠ j → listed.getD i false = true → listed.getD j false = true → a'.tmps[dstAt l i]? ≠ a'.tmps[dstAt l j]?) ?_ ?_ ?_
  · have hrep : ∀ (N j : Nat), (Array.replicate N false).getD j false = false := fun N j => by
      rw [Array.getD_eq_getD_getElem?, Array.getElem?_replicate]; split <;> rfl
    exact ⟨Below.refl _ _, ha.sub hsub, fun i hi h => (by rw [hrep] at h; cases h), fun i j _ _ _ h => (by rw [hrep] at h; cases h)⟩
  · rintro listed a' w' i o ho hi hls hun hdep ⟨he, hst, hfacts, hdiff⟩
    have hob := ObsN.at m 0 (obs w0 hw0) i (by omega) (by omega) w' he
    rw [ho] at hob
    simp only at hob
    obtain ⟨o', ho', hd, hlt⟩ := hs1 i hi
    rw [ho] at ho'
    cases ho'
    have hback := (tailB_spec hB).1
    have huse := ObD.use (a := a') (depsL l i) f0 hob hst (fun j hj => by
      have hdj := depsL_dep hj
      exact hfacts j (Nat.lt_trans (hback i j hdj) hi) (hdep j hdj))
    have hdlt : dstAt l i < a'.tmps.size := by rw [hst.size]; simpa [Nat.blt_eq] using hlt
    have hun' : listed.getD i false = false := by rw [getD_swap (by omega) false true]; exact hun
    have hnext : ∀ v w'', (∃ u, (a'.put o.dst v).tmps[dstAt l i]? = some u ∧ Ext w' w'' ∧ V i u w'' ∧ (A.contains i = true → NewP w' u)) → Ext w0 w'' ∧ St n f0 (a'.put o.dst v) ∧ (∀ j, j < m → (listed.setIfInBounds i true).getD j false = true → ∃ u, (a'.put o.dst v).tmps[dstAt l j]? = some u ∧ V j u w'') ∧
        ∀ p q, A.contains p = true → A.contains q = true → p ≠ q → (listed.setIfInBounds i true).getD p false = true → (listed.setIfInBounds i true).getD q false = true → (a'.put o.dst v).tmps[dstAt l p]? ≠ (a'.put o.dst v).tmps[dstAt l q]? := by
      rintro v w'' ⟨u, hu, he', hV, hnew⟩
      have hoth : ∀ j, j < m → i ≠ j → (a'.put o.dst v).tmps[dstAt l j]? = a'.tmps[dstAt l j]? := fun j hj e => by
        rw [hd]
        simp only [Act.put]
        rw [Array.getElem?_setIfInBounds_ne (hs2 i j hi hj e)]
      refine ⟨he.trans he', ?_, fun j hj hlj => ?_, fun p q hp hq hpq hlp hlq => ?_⟩
      · rw [hd]
        exact (hst.put hlt v).sub fun t x ht => by
          rw [Fr.get_cons]
          by_cases e : dstAt l i = t
          · subst e; rw [hfr i hi] at ht; cases ht
          · rw [if_neg e]; exact ht
      · by_cases e : i = j
        · subst e; exact ⟨u, hu, hV⟩
        · rw [getD_set _ _ _ (by omega), if_neg e] at hlj
          obtain ⟨x, hx, hVx⟩ := hfacts j hj hlj
          exact ⟨x, by rw [hoth j hj e]; exact hx, mono j x _ _ he' hVx⟩
      · have one : ∀ q, A.contains q = true → i ≠ q → A.contains i = true → (listed.setIfInBounds i true).getD q false = true → (a'.put o.dst v).tmps[dstAt l i]? ≠ (a'.put o.dst v).tmps[dstAt l q]? := by
          intro q hq hne hi' hlq e
          rw [getD_set _ _ _ (by omega), if_neg hne] at hlq
          obtain ⟨x, hx, hVx⟩ := hfacts q (hA' q hq) hlq
          obtain ⟨b, o1, rfl, hb⟩ := old q x w' hq hVx
          obtain ⟨b', o2, rfl, hb'⟩ := hnew hi'
          rw [hu, hoth q (hA' q hq) hne, hx] at e
          simp only [Option.some.injEq, Value.pointer.injEq, Addr.mk.injEq] at e
          omega
        by_cases e1 : i = p
        · subst e1; exact one q hq hpq hp hlq
        · by_cases e2 : i = q
          · subst e2; exact fun e => one p hp e1 hq hlp e.symm
          · rw [getD_set _ _ _ (by omega), if_neg e1] at hlp
            rw [getD_set _ _ _ (by omega), if_neg e2] at hlq
            rw [hoth p (hA' p hp) e1, hoth q (hA' q hq) e2]
            exact hdiff p q hp hq hpq hlp hlq
    unfold xOp
    rw [show l.toArray[i]? = some o by simpa using ho]
    simp only
    unfold wpX at huse
    split at huse
    · rename_i hw
      rw [if_pos hw]
      refine upx_mono (fun v w'' h => ?_) huse
      exact hnext v w'' (by simpa [wpX] using h)
    · rename_i hw
      rw [if_neg hw]
      exact hnext undef w' (by simpa [wpX] using huse)
  · rintro listed a' w' hall ⟨he, hst, hfacts, hdiff⟩
    exact FinN.use hA' (fun i j hi hj hij => hdiff i j hi hj hij (hall i (hA' i hi)) (hall j (hA' j hj))) (fun i j h1 h2 h3 => hs2 i j h1 h2 h3) m 0 f0 (by omega) (fin w' (hw0.trans he)) hst (fun j hj => by omega) fun j _ hj => hfacts j (by omega) (hall j (by omega))
end
end Go.Bd
/-
  A drawn region by facts, in which operations make new variables, and mark blocks of bytes.
-/
set_option linter.unusedVariables false
set_option linter.unusedSimpArgs false
set_option maxRecDepth 100000
namespace Go.Bd
open Go.RowKit Go.Proofs.YtefneilaongpbaaDoor
/-- The same but for the marks behind blocks of bytes, and new blocks. -/
structure Soft (U : Nat) (w w' : World) : Prop where
  below : Below U w w'
  cells : ∀ (k : Nat) (c : Array Value) (T : TypeId) (fr : Nat × Nat), w.heap[k]? = some (Obj.cells c T fr) → ∃ fr', w'.heap[k]? = some (Obj.cells c T fr') ∧ (Nat.beq 5 T = false → fr' = fr)
theorem Soft.refl (U : Nat) (w : World) : Soft U w w := ⟨Below.refl _ _, fun k c T fr h => ⟨fr, h, fun _ => rfl⟩⟩
theorem Soft.trans {U : Nat} {w w' w'' : World} (h : Soft U w w') (h' : Soft U w' w'') : Soft U w w'' :=
  ⟨h.below.trans h'.below, fun k c T fr hk => by
    obtain ⟨f1, h1, e1⟩ := h.cells k c T fr hk
    obtain ⟨f2, h2, e2⟩ := h'.cells k c T f1 h1
    exact ⟨f2, h2, fun hT => (e2 hT).trans (e1 hT)⟩⟩
theorem Soft.ofExt {U : Nat} {w w' : World} (hU : U ≤ w.heap.size) (h : Ext w w') : Soft U w w' :=
  ⟨h.mono hU, fun k c T fr hk => ⟨fr, by rw [h.block k (by have := (Array.getElem?_eq_some_iff.1 hk).1; exact this)]; exact hk, fun _ => rfl⟩⟩
theorem Soft.mark {U b : Nat} {w w' : World} {cs : List Value} {fr0 : Nat × Nat} (hb : U ≤ b) (hB : w.heap[b]? = some (Obj.cells cs.toArray 5 fr0)) (h : Chg b w w') (h' : ∃ fr', w'.heap[b]? = some (.cells cs.toArray 5 fr')) : Soft U w w' :=
  ⟨h.below hb (Below.refl _ _), fun k c T fr hk => by
    by_cases e : k = b
    · subst e
      rw [hB] at hk
      simp only [Option.some.injEq, Obj.cells.injEq] at hk
      obtain ⟨rfl, rfl, rfl⟩ := hk
      obtain ⟨fr', h1⟩ := h'
      exact ⟨fr', h1, fun hT => by simp at hT⟩
    · exact ⟨fr, by rw [h.block k e]; exact hk, fun _ => rfl⟩⟩
theorem Soft.size {U : Nat} {w w' : World} (h : Soft U w w') : w.heap.size ≤ w'.heap.size := h.below.size
theorem Soft.at {U : Nat} {w w' : World} {S : Nat → Nat × Nat → Prop} {b o : Nat} {vs : List Value} (h : Soft U w w') (hA : At S w b o vs) : At any w' b o vs := by
  obtain ⟨c, T, fr, h1, _, h2⟩ := hA
  obtain ⟨fr', h3, _⟩ := h.cells b c T fr h1
  exact ⟨c, T, fr', h3, trivial, h2⟩
theorem Soft.blk {U : Nat} {w w' : World} {b : Nat} {T : TypeId} {vs : List Value} (h : Soft U w w') (hB : Blk w b T vs) (hT : Nat.beq 5 T = false) : Blk w' b T vs := by
  obtain ⟨fr', h3, h4⟩ := h.cells b _ T _ hB
  rw [h4 hT] at h3
  exact h3
theorem Soft.rdF {U : Nat} {w w' : World} {S : Nat → Nat × Nat → Prop} {v : Value} {n : Nat} {cs : List Value} (h : Soft U w w') (hr : RdF S w v n cs) : RdF any w' v n cs := by
  obtain ⟨p, c, hv, hc, hr⟩ := hr
  exact ⟨p, c, hv, hc, hr.imp id fun ⟨b, o, hp, hA⟩ => ⟨b, o, hp, h.at hA⟩⟩
theorem Soft.rdBs {U : Nat} {w w' : World} {S : Nat → Nat × Nat → Prop} {v : Value} {xs : List Bytes} (h : Soft U w w') (hr : RdBs S w v xs) : RdBs any w' v xs := by
  obtain ⟨es, h1, h2⟩ := hr
  exact ⟨es, h1.imp fun e x ⟨u, hu, hb⟩ => ⟨u, hu, h.rdF hb⟩, h.rdF h2⟩
section
variable (P : Program) (n : Sz) (l : List Oper) (V : Nat → Value → World → Prop) (A : List Nat) (U : Nat) (w w' : World)
def ObK (f0 : Fr) (i : Nat) : Prop := ∀ w', Soft U w w' → match l[i]? with
  | none => False
  | some o => ObD P n l V w' (fun a w'' => ∃ v, a.tmps[dstAt l i]? = some v ∧ Soft U w' w'' ∧ V i v w'' ∧ (A.contains i = true → NewP w' v)) o (depsL l i) f0
def ObsK (f0 : Fr) : Nat → Nat → Prop
  | _, 0 => True
  | i, k + 1 => ObK P n l V A U w f0 i ∧ ObsK f0 (i + 1) k
end
section
variable {P : Program} {fn : Func} {E : Fin} {n : Sz} {k : List Item} {f : Fr} {w w' : World} {ops : Array Oper}
theorem GL.factK {U : Nat} {V : Value → World → Prop} {t : Nat} {v : Value} (hv : Fr.get f t = some v) (he : Soft U w' w) (hV : V v w) : GL P n (fun a w'' => ∃ v, a.tmps[t]? = some v ∧ Soft U w' w'' ∧ V v w'') ops [] f w :=
  fun a ha => ⟨v, ha.at_ t v hv, he, hV⟩
theorem ObsK.at {l : List Oper} {V : Nat → Value → World → Prop} {A : List Nat} {U : Nat} {f0 : Fr} : ∀ (k i : Nat), ObsK P n l V A U w f0 i k → ∀ j, i ≤ j → j < i + k → ObK P n l V A U w f0 j
  | 0, i, _, j, h1, h2 => by omega
  | k + 1, i, h, j, h1, h2 => by
    rcases Nat.lt_or_eq_of_le h1 with h3 | h3
    · exact ObsK.at k (i + 1) h.2 j (by omega) (by omega)
    · subst h3; exact h.1
theorem G.drawK {id : Nat} {l : List Oper} (m : Nat) (U : Nat) (A : List Nat) (f0 : Fr) (V : Nat → Value → World → Prop) (hfo : P.follows .mixedOrders = true) (hm : Nat.ble m l.length = true) (hB : tailB l m = true) (hS : slotsB l m n.size = true) (hF : freshB l m f0 = true) (hA : A.all (fun i => Nat.blt i m) = true) (hsub : Fr.sub f0 f)
    (hU : U ≤ w.heap.size) (mono : ∀ i v w1 w2, Soft U w1 w2 → V i v w1 → V i v w2)
    (old : ∀ i v w', A.contains i = true → V i v w' → ∃ b o, v = ptr b o ∧ b < w'.heap.size)
    (obs : ∀ w0, Ext w w0 → ObsK P n l V A U w0 f0 0 m)
    (fin : ∀ w', Soft U w w' → FinN P n l V A w' (GoA P fn E n k) m 0 m f0) : G P fn E n (.code (.region id l.toArray true) :: k) f w := by
  refine G.anyOrder hfo fun a ha => ?_
  have hm' : m ≤ l.length := by simpa [Nat.ble_eq] using hm
  have hA' : ∀ i, A.contains i = true → i < m := fun i hi => by
    have := List.all_eq_true.1 hA i (by simpa using hi)
    simpa [Nat.blt_eq] using this
  obtain ⟨hs1, hs2⟩ := slots_spec hS
  have hfr := fresh_spec hF
  have hw0 : Ext w { w with drawn := w.drawn + 1 } := ext_draw w
  generalize hgw : ({ w with drawn := w.drawn + 1 } : World) = w0 at hw0
  refine xAny_start (m := m) hm' hB (fun listed a' w' => Soft U w0 w' ∧ St n f0 a' ∧ (∀ i, i < m → listed.getD i false = true → ∃ v, a'.tmps[dstAt l i]? = some v ∧ V i v w') ∧
    ∀ i j, A.contains i = true → A.contains j = true → i ≠ j → listed.getD i false = true → listed.getD j false = true → a'.tmps[dstAt l i]? ≠ a'.tmps[dstAt l j]?) ?_ ?_ ?_
  · have hrep : ∀ (N j : Nat), (Array.replicate N false).getD j false = false := fun N j => by
      rw [Array.getD_eq_getD_getElem?, Array.getElem?_replicate]; split <;> rfl
    exact ⟨Soft.refl _ _, ha.sub hsub, fun i hi h => (by rw [hrep] at h; cases h), fun i j _ _ _ h => (by rw [hrep] at h; cases h)⟩
  · rintro listed a' w' i o ho hi hls hun hdep ⟨he, hst, hfacts, hdiff⟩
    have hob := ObsK.at m 0 (obs w0 hw0) i (by omega) (by omega) w' he
    rw [ho] at hob
    simp only at hob
    obtain ⟨o', ho', hd, hlt⟩ := hs1 i hi
    rw [ho] at ho'
    cases ho'
    have hback := (tailB_spec hB).1
    have huse := ObD.use (a := a') (depsL l i) f0 hob hst (fun j hj => by
      have hdj := depsL_dep hj
      exact hfacts j (Nat.lt_trans (hback i j hdj) hi) (hdep j hdj))
    have hdlt : dstAt l i < a'.tmps.size := by rw [hst.size]; simpa [Nat.blt_eq] using hlt
    have hun' : listed.getD i false = false := by rw [getD_swap (by omega) false true]; exact hun
    have hnext : ∀ v w'', (∃ u, (a'.put o.dst v).tmps[dstAt l i]? = some u ∧ Soft U w' w'' ∧ V i u w'' ∧ (A.contains i = true → NewP w' u)) → Soft U w0 w'' ∧ St n f0 (a'.put o.dst v) ∧ (∀ j, j < m → (listed.setIfInBounds i true).getD j false = true → ∃ u, (a'.put o.dst v).tmps[dstAt l j]? = some u ∧ V j u w'') ∧
        ∀ p q, A.contains p = true → A.contains q = true → p ≠ q → (listed.setIfInBounds i true).getD p false = true → (listed.setIfInBounds i true).getD q false = true → (a'.put o.dst v).tmps[dstAt l p]? ≠ (a'.put o.dst v).tmps[dstAt l q]? := by
      rintro v w'' ⟨u, hu, he', hV, hnew⟩
      have hoth : ∀ j, j < m → i ≠ j → (a'.put o.dst v).tmps[dstAt l j]? = a'.tmps[dstAt l j]? := fun j hj e => by
        rw [hd]
        simp only [Act.put]
        rw [Array.getElem?_setIfInBounds_ne (hs2 i j hi hj e)]
      refine ⟨he.trans he', ?_, fun j hj hlj => ?_, fun p q hp hq hpq hlp hlq => ?_⟩
      · rw [hd]
        exact (hst.put hlt v).sub fun t x ht => by
          rw [Fr.get_cons]
          by_cases e : dstAt l i = t
          · subst e; rw [hfr i hi] at ht; cases ht
          · rw [if_neg e]; exact ht
      · by_cases e : i = j
        · subst e; exact ⟨u, hu, hV⟩
        · rw [getD_set _ _ _ (by omega), if_neg e] at hlj
          obtain ⟨x, hx, hVx⟩ := hfacts j hj hlj
          exact ⟨x, by rw [hoth j hj e]; exact hx, mono j x _ _ he' hVx⟩
      · have one : ∀ q, A.contains q = true → i ≠ q → A.contains i = true → (listed.setIfInBounds i true).getD q false = true → (a'.put o.dst v).tmps[dstAt l i]? ≠ (a'.put o.dst v).tmps[dstAt l q]? := by
          intro q hq hne hi' hlq e
          rw [getD_set _ _ _ (by omega), if_neg hne] at hlq
          obtain ⟨x, hx, hVx⟩ := hfacts q (hA' q hq) hlq
          obtain ⟨b, o1, rfl, hb⟩ := old q x w' hq hVx
          obtain ⟨b', o2, rfl, hb'⟩ := hnew hi'
          rw [hu, hoth q (hA' q hq) hne, hx] at e
          simp only [Option.some.injEq, Value.pointer.injEq, Addr.mk.injEq] at e
          omega
        by_cases e1 : i = p
        · subst e1; exact one q hq hpq hp hlq
        · by_cases e2 : i = q
          · subst e2; exact fun e => one p hp e1 hq hlp e.symm
          · rw [getD_set _ _ _ (by omega), if_neg e1] at hlp
            rw [getD_set _ _ _ (by omega), if_neg e2] at hlq
            rw [hoth p (hA' p hp) e1, hoth q (hA' q hq) e2]
            exact hdiff p q hp hq hpq hlp hlq
    unfold xOp
    rw [show l.toArray[i]? = some o by simpa using ho]
    simp only
    unfold wpX at huse
    split at huse
    · rename_i hw
      rw [if_pos hw]
      refine upx_mono (fun v w'' h => ?_) huse
      exact hnext v w'' (by simpa [wpX] using h)
    · rename_i hw
      rw [if_neg hw]
      exact hnext undef w' (by simpa [wpX] using huse)
  · rintro listed a' w' hall ⟨he, hst, hfacts, hdiff⟩
    exact FinN.use hA' (fun i j hi hj hij => hdiff i j hi hj hij (hall i (hA' i hi)) (hall j (hA' j hj))) (fun i j h1 h2 h3 => hs2 i j h1 h2 h3) m 0 f0 (by omega) (fin w' ((Soft.ofExt hU hw0).trans he)) hst (fun j hj => by omega) fun j _ hj => hfacts j (by omega) (hall j (by omega))
end
section
variable {P : Program} {n : Sz} {Q : Act → World → Prop} {f : Fr} {w : World} {ops : Array Oper} {rest : List Oper} {tt : List (Nat × Ti)} {d : Nat} {ty : TypeId} {pos : String} {aft : Array Edge} {g : Option (Nat × Bool)}
/-- A mark behind one's own block of bytes. -/
theorem GL.markK {t e T : TypeId} {fr : Nat × Nat} {i ie : Ti} {x : Operand} {b o m c : Nat} {cs : List Value} (hT : Tys P tt) (hw : want ops f g = some true) (hlt : Nat.blt d n.size = true) (hi : TT.get tt t = some i) (hdesc : i.desc = .slice e) (hie : TT.get tt e = some ie) (hde : ie.desc = .int .u8)
    (hx : ev f x = some (.slice (some ⟨b, o, none⟩) m c)) (hB : w.heap[b]? = some (Obj.cells cs.toArray T fr)) (h : ∀ w', Chg b w w' → (∃ fr', w'.heap[b]? = some (.cells cs.toArray T fr')) → GL P n Q ops rest ((d, .slice (some ⟨b, o, none⟩) m c) :: f) w') : GL P n Q ops (⟨some d, .convert t t x, ty, pos, aft, g⟩ :: rest) f w := by
  have hd : P.underlying t = some (.slice e) := by have := (hT.ok t i hi).desc; rw [hdesc] at this; exact this
  have he : P.underlying e = some (.int .u8) := by have := (hT.ok e ie hie).desc; rw [hde] at this; exact this
  have hh := hB
  have hsh : w.shape? b = some (T, cs.toArray.size) := by simp [World.shape?, hh]
  refine GL.yields (v := .slice (some ⟨b, o, none⟩) m c) (w' := w.freeze ⟨b, cs.toArray.size, none⟩ 1) hw rfl hlt (fun a ha => ?_) (h _ ?_ ?_)
  · simp [execOp, ha.eval hx, convert, run_underlying hd, run_underlying he, markStringish, hsh]
  · refine ⟨rfl, rfl, rfl, by simp [World.freeze], fun k hk => ?_⟩
    simp [World.freeze, Array.getElem?_modify, Ne.symm hk]
  · obtain ⟨lo, hi'⟩ := fr
    refine ⟨if lo == hi' then (cs.toArray.size, cs.toArray.size + 1) else (Min.min lo cs.toArray.size, Max.max hi' (cs.toArray.size + 1)), ?_⟩
    unfold World.freeze
    rw [if_neg (by decide)]
    simp only [Array.getElem?_modify, if_pos, hh]
    rfl
end
end Go.Bd
