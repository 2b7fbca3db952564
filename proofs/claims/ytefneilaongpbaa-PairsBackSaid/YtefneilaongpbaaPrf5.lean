/-
  Comparing bytes, digests, proofs.
-/
import Derived.Test.YtefneilaongpbaaPrf4
set_option linter.unusedVariables false
set_option linter.unusedSimpArgs false
set_option maxRecDepth 100000
set_option maxHeartbeats 4000000
namespace Go.Proofs.Ytefneilaongpbaa
open Go Go.Bd Go.RowKit
attribute [local irreducible] G GL GQ

theorem all_eq {α : Type} [DecidableEq α] {xs ys : List α} (hl : xs.length = ys.length) (h : ∀ i, i < xs.length → xs[i]? = ys[i]?) : decide (xs = ys) = true := by
  rw [decide_eq_true_iff]
  apply List.ext_getElem?
  intro i
  by_cases hi : i < xs.length
  · exact h i hi
  · rw [List.getElem?_eq_none (by omega), List.getElem?_eq_none (by omega)]
theorem not_eq_at {α : Type} [DecidableEq α] {xs ys : List α} {i : Nat} (h : xs[i]? ≠ ys[i]?) : decide (xs = ys) = false := by
  rw [decide_eq_false_iff_not]
  intro e
  exact h (by rw [e])
theorem not_eq_len {α : Type} [DecidableEq α] {xs ys : List α} (h : xs.length ≠ ys.length) : decide (xs = ys) = false := by
  rw [decide_eq_false_iff_not]
  intro e
  exact h (by rw [e])
theorem getD_at {bs : Bytes} {i : Nat} (h : i < bs.length) : bs[i]? = some (bs.getD i 0) := by
  simp [List.getD, List.getElem?_eq_getElem h]

theorem equalB_call (v u : Value) (xs ys : Bytes) (S S' : Where) (w : World) (h : RdB S w v xs) (h' : RdB S' w u ys) (hmax : xs.length ≤ 4294967296) :
    Does Try.prog 48 #[v, u] w fun r w' => r = .bool (decide (xs = ys)) ∧ Ext w w' := by
  refine call_walk Try.func48 (by kernel_rfl) rfl Try.ntmps48 rfl ?_
  obtain ⟨p, c, rfl, hc⟩ := RdF.isSlice h
  obtain ⟨p', c', rfl, hc'⟩ := RdF.isSlice h'
  refine St0 ?_
  by_cases hl : (xs.length : Int) = ys.length
  · have hl' : xs.length = ys.length := by omega
    refine St0 ?_
    refine G.sub (f' := [(13, iv ((0 : Nat) : Int)), (12, iv (xs.length : Nat)), (0, .slice p xs.length c), (1, .slice p' ys.length c')]) (by (repeat (first | exact Fr.sub_nil _ | refine Fr.sub_cons rfl ?_))) ?_
    refine G.rounds (α := Nat) (fun j f w' => j ≤ xs.length ∧ Ext w w' ∧ (∀ i, i < j → xs[i]? = ys[i]?) ∧ f = [(13, iv j), (12, iv (xs.length : Nat)), (0, .slice p xs.length c), (1, .slice p' ys.length c')]) (fun j => xs.length - j) ?round 0 ⟨by omega, Ext.refl w, fun i hi => by omega, rfl⟩
    rintro j f w1 ⟨hj, he1, heq, rfl⟩ again
    by_cases hlt : (j : Int) < xs.length
    · obtain ⟨b, o, c2, hv, hA⟩ := (RdB.ext h he1).elem (i := j) (by omega)
      obtain ⟨b', o', c2', hv', hA'⟩ := (RdB.ext h' he1).elem (i := j) (by omega)
      cases hv
      cases hv'
      refine St0 ?_
      refine G.quiet follows (by kernel_rfl) ?_
      refine QSt0 ?_
      (refine GQ.indexSlice (j) 1 ((o + j)) hT rfl rfl rfl rfl rfl rfl rfl rfl ?_ ?_ ?_ ?_; (focus omega); (focus omega); (focus omega))
      refine QSt1 (hA) ?_
      (refine GQ.indexSlice (j) 1 ((o' + j)) hT rfl rfl rfl rfl rfl rfl rfl rfl ?_ ?_ ?_ ?_; (focus omega); (focus omega); (focus omega))
      refine QSt1 (hA') ?_
      by_cases hb : ((xs.getD j 0).toNat : Int) = (ys.getD j 0).toNat
      · refine QSt0 ?_
        refine GQ.nil fun w2 he2 => ?_
        refine St0 ?_
        refine G.sub (by (repeat (first | exact Fr.sub_nil _ | refine Fr.sub_cons rfl ?_))) (again (j + 1) _ _ (by omega) ⟨by omega, he1.trans he2, ?_, rfl⟩)
        intro i hi
        rcases Nat.lt_or_eq_of_le (Nat.lt_succ_iff.1 hi) with h1 | h1
        · exact heq i h1
        · subst h1
          rw [getD_at (by omega), getD_at (by omega)]
          congr 1
          exact UInt8.toNat_inj.1 (by omega)
      · refine QSt0 ?_
        refine GQ.nil fun w2 he2 => ?_
        refine St0 ?_
        refine G.ret1 rfl rfl rfl rfl ⟨?_, he1.trans he2⟩
        rw [not_eq_at (i := j)]
        rw [getD_at (by omega), getD_at (by omega)]
        intro e
        simp only [Option.some.injEq] at e
        rw [e] at hb
        exact hb rfl
    · refine St0 ?_
      refine G.ret1 rfl rfl rfl rfl ⟨?_, he1⟩
      rw [all_eq hl' fun i hi => heq i (by omega)]
  · refine St0 ?_
    refine G.ret1 rfl rfl rfl rfl ⟨?_, Ext.refl w⟩
    rw [not_eq_len (by omega)]

theorem equalD_call (v u : Value) (xs ys : List Dig) (S S' : Where) (w : World) (h : RdD S w v xs) (h' : RdD S' w u ys) (hmax : xs.length ≤ 4294967296) :
    Does Try.prog 49 #[v, u] w fun r w' => r = .bool (decide (xs = ys)) ∧ Ext w w' := by
  refine call_walk Try.func49 (by kernel_rfl) rfl Try.ntmps49 rfl ?_
  obtain ⟨p, c, rfl, hc⟩ := RdF.isSlice h
  obtain ⟨p', c', rfl, hc'⟩ := RdF.isSlice h'
  refine St0 ?_
  by_cases hl : (xs.length : Int) = ys.length
  · have hl' : xs.length = ys.length := by omega
    refine St0 ?_
    refine G.sub (f' := [(13, iv ((0 : Nat) : Int)), (12, iv (xs.length : Nat)), (0, .slice p xs.length c), (1, .slice p' ys.length c')]) (by (repeat (first | exact Fr.sub_nil _ | refine Fr.sub_cons rfl ?_))) ?_
    refine G.rounds (α := Nat) (fun j f w' => j ≤ xs.length ∧ Ext w w' ∧ (∀ i, i < j → xs[i]? = ys[i]?) ∧ f = [(13, iv j), (12, iv (xs.length : Nat)), (0, .slice p xs.length c), (1, .slice p' ys.length c')]) (fun j => xs.length - j) ?round 0 ⟨by omega, Ext.refl w, fun i hi => by omega, rfl⟩
    rintro j f w1 ⟨hj, he1, heq, rfl⟩ again
    by_cases hlt : (j : Int) < xs.length
    · obtain ⟨x, hx⟩ : ∃ x, xs[j]? = some x := ⟨_, List.getElem?_eq_getElem (by omega)⟩
      obtain ⟨y, hy⟩ : ∃ y, ys[j]? = some y := ⟨_, List.getElem?_eq_getElem (by omega)⟩
      obtain ⟨b, o, c2, hv, hA⟩ := (RdD.ext h he1).elem hx
      obtain ⟨b', o', c2', hv', hA'⟩ := (RdD.ext h' he1).elem hy
      cases hv
      cases hv'
      refine St0 ?_
      refine G.quiet follows (by kernel_rfl) ?_
      refine QSt0 ?_
      (refine GQ.indexSlice (j) 32 ((o + j * 32)) hT rfl rfl rfl rfl rfl rfl rfl rfl ?_ ?_ ?_ ?_; (focus omega); (focus omega); (focus omega))
      refine QSt1 (hA) ?_
      (refine GQ.indexSlice (j) 32 ((o' + j * 32)) hT rfl rfl rfl rfl rfl rfl rfl rfl ?_ ?_ ?_ ?_; (focus omega); (focus omega); (focus omega))
      refine QSt1 (hA') ?_
      by_cases hb : x = y
      · refine QSt0 ?_
        refine GQ.nil fun w2 he2 => ?_
        refine St0 ?_
        refine G.sub (by (repeat (first | exact Fr.sub_nil _ | refine Fr.sub_cons rfl ?_))) (again (j + 1) _ _ (by omega) ⟨by omega, he1.trans he2, ?_, rfl⟩)
        intro i hi
        rcases Nat.lt_or_eq_of_le (Nat.lt_succ_iff.1 hi) with h1 | h1
        · exact heq i h1
        · subst h1
          rw [hx, hy, hb]
      · refine QSt0 ?_
        refine GQ.nil fun w2 he2 => ?_
        refine St0 ?_
        refine G.ret1 rfl rfl rfl rfl ⟨?_, he1.trans he2⟩
        rw [not_eq_at (i := j)]
        rw [hx, hy]
        simpa using hb
    · refine St0 ?_
      refine G.ret1 rfl rfl rfl rfl ⟨?_, he1⟩
      rw [all_eq hl' fun i hi => heq i (by omega)]
  · refine St0 ?_
    refine G.ret1 rfl rfl rfl rfl ⟨?_, Ext.refl w⟩
    rw [not_eq_len (by omega)]

theorem sameD_call (v u : Value) (xs ys : List Dig) (S S' : Where) (w : World) (h : RdD S w v xs) (h' : RdD S' w u ys) (hmax : xs.length ≤ 4294967296) :
    Does Try.prog 50 #[v, u] w fun r w' => r = .bool (decide (xs = ys)) ∧ Ext w w' := by
  refine call_walk Try.func50 (by kernel_rfl) rfl Try.ntmps50 rfl ?_
  obtain ⟨p, c, rfl, hc⟩ := RdF.isSlice h
  obtain ⟨p', c', rfl, hc'⟩ := RdF.isSlice h'
  refine St0 ?_
  by_cases hl : (xs.length : Int) = ys.length
  · have hl' : xs.length = ys.length := by omega
    refine St0 ?_
    refine G.sub (f' := [(5, iv ((0 : Nat) : Int)), (0, .slice p xs.length c), (1, .slice p' ys.length c')]) (by (repeat (first | exact Fr.sub_nil _ | refine Fr.sub_cons rfl ?_))) ?_
    refine G.rounds (α := Nat) (fun j f w' => j ≤ xs.length ∧ Ext w w' ∧ (∀ i, i < j → xs[i]? = ys[i]?) ∧ f = [(5, iv j), (0, .slice p xs.length c), (1, .slice p' ys.length c')]) (fun j => xs.length - j) ?round 0 ⟨by omega, Ext.refl w, fun i hi => by omega, rfl⟩
    rintro j f w1 ⟨hj, he1, heq, rfl⟩ again
    by_cases hlt : (j : Int) < xs.length
    · obtain ⟨x, hx⟩ : ∃ x, xs[j]? = some x := ⟨_, List.getElem?_eq_getElem (by omega)⟩
      obtain ⟨y, hy⟩ : ∃ y, ys[j]? = some y := ⟨_, List.getElem?_eq_getElem (by omega)⟩
      obtain ⟨b, o, c2, hv, hA⟩ := (RdD.ext h he1).elem hx
      obtain ⟨b', o', c2', hv', hA'⟩ := (RdD.ext h' he1).elem hy
      cases hv
      cases hv'
      refine St0 ?_
      refine G.quiet follows (by kernel_rfl) ?_
      refine QSt0 ?_
      (refine GQ.indexSlice (j) 32 ((o + j * 32)) hT rfl rfl rfl rfl rfl rfl rfl rfl ?_ ?_ ?_ ?_; (focus omega); (focus omega); (focus omega))
      refine QSt1 (hA) ?_
      (refine GQ.indexSlice (j) 32 ((o' + j * 32)) hT rfl rfl rfl rfl rfl rfl rfl rfl ?_ ?_ ?_ ?_; (focus omega); (focus omega); (focus omega))
      refine QSt1 (hA') ?_
      by_cases hb : x = y
      · refine QSt0 ?_
        refine GQ.nil fun w2 he2 => ?_
        refine St0 ?_
        refine G.sub (by (repeat (first | exact Fr.sub_nil _ | refine Fr.sub_cons rfl ?_))) (again (j + 1) _ _ (by omega) ⟨by omega, he1.trans he2, ?_, rfl⟩)
        intro i hi
        rcases Nat.lt_or_eq_of_le (Nat.lt_succ_iff.1 hi) with h1 | h1
        · exact heq i h1
        · subst h1
          rw [hx, hy, hb]
      · refine QSt0 ?_
        refine GQ.nil fun w2 he2 => ?_
        refine St0 ?_
        refine G.ret1 rfl rfl rfl rfl ⟨?_, he1.trans he2⟩
        rw [not_eq_at (i := j)]
        rw [hx, hy]
        simpa using hb
    · refine St0 ?_
      refine G.ret1 rfl rfl rfl rfl ⟨?_, he1⟩
      rw [all_eq hl' fun i hi => heq i (by omega)]
  · refine St0 ?_
    refine G.ret1 rfl rfl rfl rfl ⟨?_, Ext.refl w⟩
    rw [not_eq_len (by omega)]
instance : DecidableEq Prf := fun a b => by
  cases a with | mk k e o v s => 
  cases b with | mk k' e' o' v' s' =>
  exact decidable_of_iff (k = k' ∧ e = e' ∧ o = o' ∧ v = v' ∧ s = s') (by simp)
theorem prf_eq (a b : Prf) : decide (a = b) = (decide (a.key = b.key) && (decide (a.en = b.en) && (decide (a.other = b.other) && (decide (a.val = b.val) && decide (a.sides = b.sides))))) := by
  rw [Bool.eq_iff_iff]
  cases a
  cases b
  simp

theorem pSame_call (a b : Prf) (ua sa ub sb : Value) (S S' : Where) (w : World) (ha : PrfM S w a ua sa) (hb : PrfM S' w b ub sb) (hav : a.val.length ≤ 4294967296) (hasd : a.sides.length ≤ 4294967296) :
    Does Try.prog 15 #[prv a ua sa, prv b ub sb] w fun r w' => r = .bool (decide (a = b)) ∧ Ext w w' := by
  refine call_walk Try.func15 (by kernel_rfl) rfl Try.ntmps15 rfl ?_
  rw [prf_eq]
  refine St0 ?_
  refine GL.box rfl rfl rfl rfl fun b1 w1 hb1 hB1 he1 => ?_
  refine GL.box rfl rfl rfl rfl fun b2 w2 hb2 hB2 he2 => ?_
  replace hB1 := hB1.ext he2
  have he := he1.trans he2
  obtain ⟨ak, ae, ao, av, asd⟩ := pat hB1.all
  obtain ⟨bk, be, bo, bv', bs⟩ := pat hB2.all
  replace ha := ha.ext he
  replace hb := hb.ext he
  refine St2 (ak) (bk) ?_
  by_cases h1 : a.key = b.key
  · refine St10 (ak) (ae) (ao) (av) (asd) (bk) (be) (bo) (bv') (bs) ?_
    by_cases h2 : (a.en.toNat : Int) = b.en.toNat
    · have h2' := (en_eq _ _).1 h2
      refine St10 (ak) (ae) (ao) (av) (asd) (bk) (be) (bo) (bv') (bs) ?_
      by_cases h3 : a.other = b.other
      · refine St10 (ak) (ae) (ao) (av) (asd) (bk) (be) (bo) (bv') (bs) ?_
        refine GL.call rfl rfl rfl (equalB_call _ _ _ _ _ _ w2 ha.val hb.val hav) ?_
        rintro r w3 ⟨rfl, he3⟩
        replace asd := asd.ext he3
        replace bs := bs.ext he3
        cases h4 : decide (a.val = b.val)
        · refine St0 ?_
          exact G.ret1 rfl rfl rfl rfl ⟨by simp, he.trans he3⟩
        · refine St2 (asd) (bs) ?_
          refine GL.call rfl rfl rfl (equalD_call _ _ _ _ _ _ w3 (ha.sides.ext he3) (hb.sides.ext he3) hasd) ?_
          rintro r w4 ⟨rfl, he4⟩
          refine St0 ?_
          exact G.ret1 rfl rfl rfl rfl ⟨by simp [h1, h2', h3], (he.trans he3).trans he4⟩
      · refine St0 ?_
        exact G.ret1 rfl rfl rfl rfl ⟨by simp [h3], he⟩
    · refine St0 ?_
      exact G.ret1 rfl rfl rfl rfl ⟨by simp [mt (en_eq _ _).2 h2], he⟩
  · refine St0 ?_
    exact G.ret1 rfl rfl rfl rfl ⟨by simp [h1], he⟩

theorem ref7Same_call (a b : Prf) (ua sa ub sb : Value) (S S' : Where) (w : World) (ha : PrfM S w a ua sa) (hb : PrfM S' w b ub sb) (hav : a.val.length ≤ 4294967296) (hasd : a.sides.length ≤ 4294967296) :
    Does Try.prog 16 #[prv a ua sa, prv b ub sb] w fun r w' => r = .bool (decide (a = b)) ∧ Ext w w' := by
  refine call_walk Try.func16 (by kernel_rfl) rfl Try.ntmps16 rfl ?_
  rw [prf_eq]
  refine St0 ?_
  refine GL.box rfl rfl rfl rfl fun b1 w1 hb1 hB1 he1 => ?_
  refine GL.box rfl rfl rfl rfl fun b2 w2 hb2 hB2 he2 => ?_
  replace hB1 := hB1.ext he2
  have he := he1.trans he2
  obtain ⟨ak, ae, ao, av, asd⟩ := pat hB1.all
  obtain ⟨bk, be, bo, bv', bs⟩ := pat hB2.all
  replace ha := ha.ext he
  replace hb := hb.ext he
  refine St2 (ak) (bk) ?_
  by_cases h1 : a.key = b.key
  · refine St10 (ak) (ae) (ao) (av) (asd) (bk) (be) (bo) (bv') (bs) ?_
    by_cases h2 : (a.en.toNat : Int) = b.en.toNat
    · have h2' := (en_eq _ _).1 h2
      refine St10 (ak) (ae) (ao) (av) (asd) (bk) (be) (bo) (bv') (bs) ?_
      by_cases h3 : a.other = b.other
      · refine St10 (ak) (ae) (ao) (av) (asd) (bk) (be) (bo) (bv') (bs) ?_
        refine GL.call rfl rfl rfl (same_call _ _ _ _ _ _ w2 ha.val hb.val) ?_
        rintro r w3 ⟨rfl, rfl⟩
        cases h4 : decide (a.val = b.val)
        · refine St0 ?_
          exact G.ret1 rfl rfl rfl rfl ⟨by simp, he⟩
        · refine St2 (asd) (bs) ?_
          refine GL.call rfl rfl rfl (sameD_call _ _ _ _ _ _ _ ha.sides hb.sides hasd) ?_
          rintro r w4 ⟨rfl, he4⟩
          refine St0 ?_
          exact G.ret1 rfl rfl rfl rfl ⟨by simp [h1, h2', h3], he.trans he4⟩
      · refine St0 ?_
        exact G.ret1 rfl rfl rfl rfl ⟨by simp [h3], he⟩
    · refine St0 ?_
      exact G.ret1 rfl rfl rfl rfl ⟨by simp [mt (en_eq _ _).2 h2], he⟩
  · refine St0 ?_
    exact G.ret1 rfl rfl rfl rfl ⟨by simp [h1], he⟩
end Go.Proofs.Ytefneilaongpbaa
