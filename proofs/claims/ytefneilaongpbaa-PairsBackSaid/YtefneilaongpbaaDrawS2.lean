/-
  REGIONS THAT DRAW THEIR ORDER AND MAKE MEMORY: the rule.
-/
import Derived.Test.YtefneilaongpbaaDrawS
set_option linter.unusedVariables false
set_option linter.unusedSimpArgs false
namespace Go.Bd
open Go.RowKit

section
variable {l : List Oper} {A : List Nat} {m : Nat}
theorem Good.lt : ∀ {π : List Nat}, Good l A m π → ∀ i ∈ π, i < m
  | [], _, i, hi => nomatch hi
  | k :: r, h, i, hi => by
    rcases List.mem_cons.1 hi with e | e
    · subst e; exact h.1
    · exact Good.lt h.2.2.2.2.2 i e
theorem Good.tail : ∀ {d t : List Nat}, Good l A m (d ++ t) → Good l A m t
  | [], t, h => h
  | k :: d, t, h => Good.tail (d := d) h.2.2.2.2.2
theorem Good.looks : ∀ {d t : List Nat}, Good l A m (d ++ t) → ∀ i ∈ d, ∀ j ∈ t, dstAt l j ∉ (opAt l i).looksAt l.toArray
  | [], t, h, i, hi => nomatch hi
  | k :: d, t, h, i, hi => by
    intro j hj
    rcases List.mem_cons.1 hi with e | e
    · subst e; exact h.2.2.1 j (by simp [hj])
    · exact Good.looks (d := d) h.2.2.2.2.2 i e j hj
theorem Good.ne : ∀ {d t : List Nat}, Good l A m (d ++ t) → ∀ i ∈ d, ∀ j ∈ t, j ≠ i
  | [], t, h, i, hi => nomatch hi
  | k :: d, t, h, i, hi => by
    intro j hj
    rcases List.mem_cons.1 hi with e | e
    · subst e; exact h.2.2.2.1 j (by simp [hj])
    · exact Good.ne (d := d) h.2.2.2.2.2 i e j hj
theorem Good.sel : ∀ {π : List Nat}, Good l A m π → ∀ i ∈ π, ∀ cs b, (opAt l i).op ≠ .select cs b
  | [], _, i, hi => nomatch hi
  | k :: r, h, i, hi => by
    rcases List.mem_cons.1 hi with e | e
    · subst e; exact h.2.1
    · exact Good.sel h.2.2.2.2.2 i e
end

section
variable (P : Program) (l : List Oper) (A : List Nat) (Q : Act → World → Prop) (π : List Nat) (a : Act)
structure InvS (d t : List Nat) (V : Act) (wb : World) (val : Nat → Value) (listed : Array Bool) (a' : Act) (w' : World) : Prop where
  parts : π = d ++ t
  closed : Closed l.toArray listed
  head : ∀ h r, t = h :: r → A.contains h = true
  un : ∀ i ∈ t, listed.getD i false = false
  walk : wpS P l.toArray Q (flags l A t) V wb
  ext : Ext wb w'
  vd : V.defers = a.defers
  vs : V.tmps.size = a.tmps.size
  vval : ∀ i ∈ d, V.tmps[dstAt l i]? = some (val i)
  voth : ∀ s, (∀ i ∈ d, dstAt l i ≠ s) → V.tmps[s]? = a.tmps[s]?
  yq : ∀ i ∈ d, listed.getD i false = false → Yq P l.toArray (opAt l i) V wb (val i)
  ad : a'.defers = a.defers
  asz : a'.tmps.size = a.tmps.size
  aval : ∀ i ∈ d, listed.getD i false = true → a'.tmps[dstAt l i]? = some (val i)
  aoth : ∀ s, (∀ i ∈ d, listed.getD i false = true → dstAt l i ≠ s) → a'.tmps[s]? = a.tmps[s]?
end
section
variable (P : Program) (n : Sz) (Q : Act → World → Prop)
def GS (ops : Array Oper) (rest : List (Oper × Bool)) (f : Fr) (w : World) : Prop := ∀ a, St n f a → wpS P ops Q rest a w
end
section
variable {P : Program} {fn : Func} {E : Fin} {n : Sz} {Q : Act → World → Prop} {k : List Item} {f : Fr} {w : World} {ops : Array Oper} {rest : List Oper}
theorem G.drawS {id : Nat} {l : List Oper} (m : Nat) (π A : List Nat) (hfo : P.follows .mixedOrders = true) (hm : Nat.ble m l.length = true) (hB : tailB l m = true) (hS : slotsB l m n.size = true) (hO : operB l m = true) (hG : goodB l A m (masks l []) π = true) (hperm : ((List.range m).all fun i => π.contains i) = true)
    (h : GS P n (fun a w' => wpX P l.toArray (GoA P fn E n k) (l.drop m) a w') l.toArray (flags l A π) f w) : G P fn E n (.code (.region id l.toArray true) :: k) f w := by
  refine G.anyOrder hfo fun a ha => ?_
  have hm' : m ≤ l.length := by simpa [Nat.ble_eq] using hm
  obtain ⟨hs1, hs2⟩ := slots_spec hS
  have hop := operB_spec hO
  have hgood := good_of π hG
  have hmem : ∀ i, i < m → i ∈ π := fun i hi => by
    have := List.all_eq_true.1 hperm i (by simpa using hi)
    simpa using this
  have hopat : ∀ i o, l[i]? = some o → opAt l i = o := fun i o ho => by simp [opAt, List.getD, ho]
  have hdst : ∀ i, i < m → (opAt l i).dst = some (dstAt l i) := fun i hi => by
    obtain ⟨o, h1, h2, _⟩ := hs1 i hi
    rw [hopat i o h1]; exact h2
  have hsz : ∀ i, i < m → dstAt l i < a.tmps.size := fun i hi => by
    obtain ⟨o, _, _, h3⟩ := hs1 i hi
    rw [ha.size]; simpa [Nat.blt_eq] using h3
  have hne : ∀ i j, i < m → j < m → i ≠ j → dstAt l i ≠ dstAt l j := fun i j h1 h2 h3 => hs2 i j h1 h2 h3
  have hlt := hgood.lt
  -- the frames agree on what an operation looks at
  have agree : ∀ {d t V wb val listed a' w'}, InvS P l A (fun a w' => wpX P l.toArray (GoA P fn E n k) (l.drop m) a w') π a d t V wb val listed a' w' → ∀ i, i < m → (∀ j, depOn l.toArray i j → listed.getD j false = true) → ∀ s ∈ (opAt l i).looksAt l.toArray, a'.tmps[s]? = V.tmps[s]? := by
    intro d t V wb val listed a' w' hI i hi hdep s hs
    obtain ⟨o, ho, _, _⟩ := hs1 i hi
    rw [hopat i o ho] at hs
    by_cases hex : ∃ j, j < m ∧ dstAt l j = s
    · obtain ⟨j, hj, rfl⟩ := hex
      have hlj := hdep j ((hop i o hi ho).2 _ hs j hj rfl)
      have hjd : j ∈ d := by
        have := hmem j hj
        rw [hI.parts, List.mem_append] at this
        rcases this with h1 | h1
        · exact h1
        · rw [hI.un j h1] at hlj; cases hlj
      rw [hI.aval j hjd hlj, hI.vval j hjd]
    · have hno : ∀ j, j < m → dstAt l j ≠ s := fun j hj e => hex ⟨j, hj, e⟩
      have hd : ∀ j ∈ d, j < m := fun j hj => hlt j (by rw [hI.parts]; simp [hj])
      rw [hI.aoth s fun j hj _ => hno j (hd j hj), hI.voth s fun j hj => hno j (hd j hj)]
  obtain ⟨d, t, V, val, e1, e2, e3, e4, e5, e6, e7, e8⟩ := settle hdst hne π a w hgood (fun i hi => hsz i (hlt i hi)) (h a ha)
  have hrep : ∀ (N j : Nat), (Array.replicate N false).getD j false = false := fun N j => by
    rw [Array.getD_eq_getD_getElem?, Array.getElem?_replicate]; split <;> rfl
  refine xAny_start (m := m) hm' hB (fun listed a' w' => ∃ d t V wb val, InvS P l A (fun a w' => wpX P l.toArray (GoA P fn E n k) (l.drop m) a w') π a d t V wb val listed a' w') ?_ ?_ ?_
  · exact ⟨d, t, V, w, val, e1, fun i j h => (by rw [hrep] at h; cases h), e2, fun i _ => hrep _ i, e3, ext_draw w, e4, e5, e6, e7, fun i hi _ => e8 i hi, rfl, rfl, fun i _ h => (by rw [hrep] at h; cases h), fun _ _ => rfl⟩
  · rintro listed a' w' i o ho hi hls hun hdep ⟨d, t, V, wb, val, hI⟩
    have hag := agree hI i hi hdep
    have hoi := hopat i o ho
    have hun' : listed.getD i false = false := by rw [getD_swap (by omega) false true]; exact hun
    have hcl := closed_set (i := i) (by omega) hI.closed hdep
    have hset : ∀ j, (listed.setIfInBounds i true).getD j false = if i = j then true else listed.getD j false := fun j => getD_set _ _ _ (by omega) false
    have hip := hmem i hi
    rw [hI.parts, List.mem_append] at hip
    have hsel := hgood.sel i (hmem i hi)
    have hdl := hsz i hi
    have hd' : o.dst = some (dstAt l i) := by rw [← hoi]; exact hdst i hi
    unfold xOp
    rw [show l.toArray[i]? = some o by simpa using ho]
    simp only
    rw [← hoi]
    rw [← hoi] at hd'
    have hwc := wanted_congr (ops := l.toArray) hag
    have hdm : ∀ j ∈ d, j < m := fun j hj => hlt j (by rw [hI.parts]; simp [hj])
    have hgp : Good l A m (d ++ t) := hI.parts ▸ hgood
    rcases hip with hid | hit
    · obtain ⟨vi, hvi⟩ : ∃ vi, vi = val i := ⟨_, rfl⟩
      have hnew : ∀ w'', Ext w' w'' → ∃ d t V wb val, InvS P l A (fun a w' => wpX P l.toArray (GoA P fn E n k) (l.drop m) a w') π a d t V wb val (listed.setIfInBounds i true) (a'.put (opAt l i).dst vi) w'' := by
        intro w'' he
        subst hvi
        refine ⟨d, t, V, wb, val, hI.parts, hcl, hI.head, fun j hj => ?_, hI.walk, hI.ext.trans he, hI.vd, hI.vs, hI.vval, hI.voth, fun j hj hlj => ?_, ?_, ?_, fun j hj hlj => ?_, fun s hs => ?_⟩
        · rw [hset, if_neg (fun e => hgp.ne i hid j hj e.symm)]; exact hI.un j hj
        · rw [hset] at hlj
          split at hlj
          · cases hlj
          · exact hI.yq j hj hlj
        · rw [hd']; exact hI.ad
        · rw [hd']; simpa [Act.put] using hI.asz
        · rw [hd']
          by_cases e : i = j
          · subst e; simp [Act.put, hI.asz, hdl]
          · rw [hset, if_neg e] at hlj
            simp only [Act.put]
            rw [Array.getElem?_setIfInBounds_ne (hne i j hi (hdm j hj) e)]
            exact hI.aval j hj hlj
        · rw [hd']
          have h1 := hs i hid (by rw [hset, if_pos rfl])
          simp only [Act.put]
          rw [Array.getElem?_setIfInBounds_ne h1]
          exact hI.aoth s fun j hj hlj => hs j hj (by rw [hset]; split <;> simp_all)
      rcases hI.yq i hid hun' with ⟨h1, h2⟩ | ⟨h1, h2⟩
      · rw [if_pos (hwc.trans h1), opX_congr (exec_congr (ops := l.toArray) hsel hag)]
        refine upx_mono (fun u w'' hu => ?_) (h2 w' hI.ext)
        obtain ⟨rfl, he⟩ := hu
        rw [← hvi]
        exact hnew w'' he
      · rw [if_neg (by rw [hwc, h1]; simp)]
        have := hnew w' (Ext.refl _)
        rw [hvi, h2] at this
        exact this
    · obtain ⟨h0, r, rfl⟩ : ∃ h0 r, t = h0 :: r := by
        cases t with
        | nil => cases hit
        | cons h0 r => exact ⟨h0, r, rfl⟩
      have hA0 := hI.head h0 r rfl
      have hgt := hgp.tail
      obtain ⟨hg1, hg2, hg3, hg4, hg5, hg6⟩ := hgt
      have hih : i = h0 := by
        rcases List.mem_cons.1 hit with e | e
        · exact e
        · have := reach_listed hI.closed (hg5 hA0 i e) hdep
          rw [hI.un h0 (by simp)] at this
          cases this
      subst hih
      have hw := hI.walk
      simp only [flags, List.map_cons, wpS, hA0] at hw
      have hnew : ∀ v wb' w'', Ext wb wb' → Ext wb' w'' → Ext w' w'' → wpS P l.toArray (fun a w' => wpX P l.toArray (GoA P fn E n k) (l.drop m) a w') (flags l A r) (V.put (opAt l i).dst v) wb' →
          ∃ d t V wb val, InvS P l A (fun a w' => wpX P l.toArray (GoA P fn E n k) (l.drop m) a w') π a d t V wb val (listed.setIfInBounds i true) (a'.put (opAt l i).dst v) w'' := by
        intro v wb' w'' h1 h2 h3 h4
        rw [hd'] at h4 ⊢
        obtain ⟨d', t', V', val', e1, e2, e3, e4, e5, e6, e7, e8⟩ := settle hdst hne r (V.put (some (dstAt l i)) v) wb' hg6 (fun j hj => by simpa [Act.put, hI.vs] using hsz j (hg6.lt j hj)) h4
        subst e1
        have hdm' : ∀ j ∈ d', j < m := fun j hj => hg6.lt j (by simp [hj])
        have hdi : ∀ j ∈ d', j ≠ i := fun j hj => hg4 j (by simp [hj])
        have hdd : ∀ j ∈ d, j ≠ i := fun j hj e => hgp.ne j hj i (by simp) e.symm
        have hdd' : ∀ j ∈ d, j ∉ d' := fun j hj hj' => hgp.ne j hj j (by simp [hj']) rfl
        have hti : ∀ j ∈ t', j ≠ i := fun j hj => hg4 j (by simp [hj])
        have hVi : V'.tmps[dstAt l i]? = some v := by
          rw [e7 _ fun q hq => hne q i (hdm' q hq) hi (hdi q hq)]
          simp [Act.put, hI.vs, hdl]
        refine ⟨d ++ i :: d', t', V', wb', fun j => if j = i then v else if j ∈ d' then val' j else val j, by rw [hI.parts]; simp, hcl, e2, fun j hj => ?_, e3, h2, by rw [e4]; exact hI.vd, by rw [e5]; simpa [Act.put] using hI.vs, fun j hj => ?_, fun s hs => ?_, fun j hj hlj => ?_, hI.ad, by simpa [Act.put] using hI.asz, fun j hj hlj => ?_, fun s hs => ?_⟩
        · rw [hset, if_neg (fun e => hti j hj e.symm)]; exact hI.un j (by simp [hj])
        · simp only [List.mem_append, List.mem_cons] at hj
          rcases hj with hj | rfl | hj
          · simp only [if_neg (hdd j hj), if_neg (hdd' j hj)]
            rw [e7 _ fun q hq => hne q j (hdm' q hq) (hdm j hj) (fun e => hdd' j hj (e ▸ hq))]
            simp only [Act.put]
            rw [Array.getElem?_setIfInBounds_ne (hne i j hi (hdm j hj) (fun e => hdd j hj e.symm))]
            exact hI.vval j hj
          · simp only [if_true]; exact hVi
          · simp only [if_neg (hdi j hj), if_pos hj]; exact e6 j hj
        · rw [e7 s fun q hq => hs q (by simp [hq])]
          simp only [Act.put]
          rw [Array.getElem?_setIfInBounds_ne (hs i (by simp))]
          exact hI.voth s fun q hq => hs q (by simp [hq])
        · simp only [List.mem_append, List.mem_cons] at hj
          rw [hset] at hlj
          split at hlj
          · cases hlj
          rename_i hij
          rcases hj with hj | rfl | hj
          · simp only [if_neg (hdd j hj), if_neg (hdd' j hj)]
            refine (hI.yq j hj hlj).congr (hgood.sel j (hmem j (hdm j hj))) (fun s hs => ?_) h1
            rw [e7 s fun q hq e => hgp.looks j hj q (by simp [hq]) (by rw [e]; exact hs)]
            simp only [Act.put]
            rw [Array.getElem?_setIfInBounds_ne (fun e => hgp.looks j hj i (by simp) (by rw [e]; exact hs))]
          · exact absurd rfl hij
          · simp only [if_neg (hdi j hj), if_pos hj]; exact e8 j hj
        · simp only [List.mem_append, List.mem_cons] at hj
          rcases hj with hj | rfl | hj
          · simp only [if_neg (hdd j hj), if_neg (hdd' j hj)]
            rw [hset, if_neg (fun e => hdd j hj e.symm)] at hlj
            simp only [Act.put]
            rw [Array.getElem?_setIfInBounds_ne (hne i j hi (hdm j hj) (fun e => hdd j hj e.symm))]
            exact hI.aval j hj hlj
          · simp [Act.put, hI.asz, hdl]
          · rw [hset, if_neg (fun e => hdi j hj e.symm), hI.un j (by simp [hj])] at hlj
            cases hlj
        · have h5 := hs i (by simp) (by rw [hset, if_pos rfl])
          simp only [Act.put]
          rw [Array.getElem?_setIfInBounds_ne h5]
          exact hI.aoth s fun j hj hlj => hs j (by simp [hj]) (by rw [hset]; split <;> simp_all)
      by_cases hwn : Region.wanted (opAt l i) (yielded l.toArray V.tmps) = true
      · rw [if_pos hwn] at hw
        rw [if_pos (hwc.trans hwn), opX_congr (exec_congr (ops := l.toArray) hsel hag)]
        refine upx_mono (fun v w'' hv => ?_) (hw w' hI.ext)
        exact hnew v w'' w'' (hI.ext.trans hv.1) (Ext.refl _) hv.1 hv.2
      · rw [if_neg hwn] at hw
        rw [if_neg (by rw [hwc]; exact hwn)]
        exact hnew undef wb w' (Ext.refl _) hI.ext (Ext.refl _) hw
  · rintro listed a' w' hall ⟨d, t, V, wb, val, hI⟩
    have ht : t = [] := by
      cases t with
      | nil => rfl
      | cons h0 r =>
        have h1 := hI.un h0 (by simp)
        have h2 : h0 < m := hlt h0 (by rw [hI.parts]; simp)
        rw [hall h0 h2] at h1
        cases h1
    subst ht
    have hwalk := hI.walk
    simp only [flags, List.map_nil, wpS] at hwalk
    have hdm : ∀ j ∈ d, j < m := fun j hj => hlt j (by rw [hI.parts]; simp [hj])
    have ea : a' = V := by
      have et : a'.tmps = V.tmps := by
        apply Array.ext_getElem?
        intro s
        by_cases hex : ∃ j, j ∈ d ∧ dstAt l j = s
        · obtain ⟨j, hj, rfl⟩ := hex
          rw [hI.aval j hj (hall j (hdm j hj)), hI.vval j hj]
        · have hno : ∀ j ∈ d, dstAt l j ≠ s := fun j hj e => hex ⟨j, hj, e⟩
          rw [hI.aoth s fun j hj _ => hno j hj, hI.voth s hno]
      have ed : a'.defers = V.defers := by rw [hI.ad, hI.vd]
      cases a' with
      | mk t1 d1 =>
        cases V with
        | mk t2 d2 => simp only at et ed; rw [et, ed]
    rw [ea]
    exact hwalk w' hI.ext
end
end Go.Bd
