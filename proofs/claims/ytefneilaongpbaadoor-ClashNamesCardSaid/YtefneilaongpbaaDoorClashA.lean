import Derived.Test.YtefneilaongpbaaDoorVerA
/-
  A clash: the first unlike pair of two lists; the program's search for it.
-/
set_option linter.unusedVariables false
set_option linter.unusedSimpArgs false
set_option maxRecDepth 100000
set_option maxHeartbeats 4000000
namespace Go.Proofs.YtefneilaongpbaaDoor
open Go Go.Bd Go.RowKit
attribute [local irreducible] G GL GQ GS shaD

/-! plain -/
def firstDiff : List Bytes → List Bytes → Option (Bytes × Bytes)
  | x :: xs, y :: ys => if x = y then firstDiff xs ys else some (x, y)
  | _, _ => none
theorem firstDiff_at : ∀ {xs ys : List Bytes} {i : Nat} {x y : Bytes}, (∀ j, j < i → xs[j]? = ys[j]?) → xs[i]? = some x → ys[i]? = some y → x ≠ y → firstDiff xs ys = some (x, y)
  | [], _, i, x, y, _, hx, _, _ => by simp at hx
  | _ :: _, [], i, x, y, _, _, hy, _ => by simp at hy
  | a :: xs, b :: ys, 0, x, y, _, hx, hy, hne => by
    simp only [List.getElem?_cons_zero, Option.some.injEq] at hx hy
    subst hx; subst hy
    simp [firstDiff, hne]
  | a :: xs, b :: ys, i + 1, x, y, h, hx, hy, hne => by
    have h0 := h 0 (by omega)
    simp only [List.getElem?_cons_zero, Option.some.injEq] at h0
    subst h0
    simp only [firstDiff, if_pos]
    exact firstDiff_at (i := i) (fun j hj => by have := h (j + 1) (by omega); simpa using this) (by simpa using hx) (by simpa using hy) hne
theorem firstDiff_none : ∀ {xs ys : List Bytes}, (∀ j, j < min xs.length ys.length → xs[j]? = ys[j]?) → firstDiff xs ys = none
  | [], _, _ => rfl
  | _ :: _, [], _ => rfl
  | a :: xs, b :: ys, h => by
    have h0 := h 0 (by simp)
    simp only [List.getElem?_cons_zero, Option.some.injEq] at h0
    subst h0
    simp only [firstDiff, if_pos]
    exact firstDiff_none fun j hj => by have := h (j + 1) (by simp at hj ⊢; omega); simpa using this
/-- Unlike things told. -/
def unlikeB (a b : Prf) : Bool := (toldB a != toldB b) || !decide (toldV a = toldV b)
def win (B U : Nat) : Where := fun b _ => B ≤ b ∧ b < U
theorem at_win {S : Where} {w : World} {b o : Nat} {vs : List Value} {B U : Nat} (h : At S w b o vs) (hS : ∀ b fr, S b fr → B ≤ b) (hU : w.heap.size ≤ U) : At (win B U) w b o vs := by
  obtain ⟨c, T, fr, h1, h2, h3⟩ := h
  exact ⟨c, T, fr, h1, ⟨hS _ _ h2, by have := (Array.getElem?_eq_some_iff.1 h1).1; omega⟩, h3⟩
theorem rdF_win {S : Where} {w : World} {v : Value} {n : Nat} {cs : List Value} {B U : Nat} (h : RdF S w v n cs) (hS : ∀ b fr, S b fr → B ≤ b) (hU : w.heap.size ≤ U) : RdF (win B U) w v n cs := by
  obtain ⟨p, c, hv, hc, h⟩ := h
  exact ⟨p, c, hv, hc, h.imp id fun ⟨b, o, hp, hA⟩ => ⟨b, o, hp, at_win hA hS hU⟩⟩
theorem rdBs_win {S : Where} {w : World} {v : Value} {xs : List Bytes} {B U : Nat} (h : RdBs S w v xs) (hS : ∀ b fr, S b fr → B ≤ b) (hU : w.heap.size ≤ U) : RdBs (win B U) w v xs := by
  obtain ⟨es, h1, h2⟩ := h
  exact ⟨es, h1.imp fun e x ⟨u, hu, hb⟩ => ⟨u, hu, rdF_win hb hS hU⟩, rdF_win h2 hS hU⟩

/-! the pairs of two lists -/
theorem both1_call (l : Nat) (va vb : Value) (xs ys : List Bytes) (b2 b3 : Nat) (S : Where) (I : Nat → World → Prop) (Fin : World → Prop) (w : World) (h0 : I 0 w) (hI : ∀ i w' w'', I i w' → Ext w' w'' → I i w'')
    (hB : ∀ i w', I i w' → At any w' b2 0 [va] ∧ At any w' b3 0 [vb] ∧ RdBs S w' va xs ∧ RdBs S w' vb ys) (hxl : xs.length ≤ 4294967296) (hyl : ys.length ≤ 4294967296)
    (hy : ∀ i w' u v x y, xs[i]? = some x → ys[i]? = some y → RdB S w' u x → RdB S w' v y → I i w' → YieldC Tryd.prog l [u, v] w' (fun r w'' => (r = .bool true ∧ I (i + 1) w'') ∨ (r = .bool false ∧ Fin w''))) :
    Does Tryd.prog 150 #[yieldv l, ptr b2 0, ptr b3 0] w fun r w' => I (min xs.length ys.length) w' ∨ Fin w' := by
  refine call_walk Tryd.func150 (by kernel_rfl) rfl Tryd.ntmps150 rfl ?_
  obtain ⟨hA, hA', hx, hy'⟩ := hB 0 w h0
  obtain ⟨p, c, rfl, hc⟩ := hx.isSlice
  obtain ⟨p', c', rfl, hc'⟩ := hy'.isSlice
  have hmin : (if (ys.length : Int) < (xs.length : Int) then (ys.length : Int) else (xs.length : Int)) = ((min xs.length ys.length : Nat) : Int) := by split <;> omega
  refine St2 (hA) (hA') ?_
  refine GL.min rfl rfl rfl rfl ?_
  rw [hmin]
  generalize hN : min xs.length ys.length = N
  refine St0 ?_
  refine G.sub (f' := [(10, iv ((0 : Nat) : Int)), (9, iv (N : Nat)), (0, yieldv l), (1, ptr b2 0), (2, ptr b3 0)]) (by (repeat (first | exact Fr.sub_nil _ | refine Fr.sub_cons rfl ?_))) ?_
  refine G.rounds (α := Nat) (fun i f w' => i ≤ N ∧ I i w' ∧ f = [(10, iv i), (9, iv (N : Nat)), (0, yieldv l), (1, ptr b2 0), (2, ptr b3 0)]) (fun i => N - i) ?round 0 ⟨by omega, h0, rfl⟩
  rintro i f w2 ⟨hi, hIi, rfl⟩ again
  by_cases hlt : (i : Int) < N
  · obtain ⟨x, hxi⟩ : ∃ x, xs[i]? = some x := ⟨_, List.getElem?_eq_getElem (by omega)⟩
    obtain ⟨y, hyy⟩ : ∃ y, ys[i]? = some y := ⟨_, List.getElem?_eq_getElem (by omega)⟩
    obtain ⟨hA, hA', hxr, hyr⟩ := hB i w2 hIi
    obtain ⟨b, o, c2, u, hv, hu, hAu⟩ := hxr.elem hxi
    obtain ⟨b', o', c2', v, hv', hv2, hAv⟩ := hyr.elem hyy
    cases hv
    cases hv'
    refine St0 ?_
    refine G.quietTail 9 follows (by kernel_rfl) (by kernel_rfl) (by kernel_rfl) (by kernel_rfl) ?_
    refine QSt1 (hA) ?_
    (refine GQ.indexSlice (i) 1 ((o + i)) hT rfl rfl rfl rfl rfl rfl rfl rfl ?_ ?_ ?_ ?_; (focus omega); (focus omega); (focus omega))
    refine QSt2 (hAu) (hA') ?_
    (refine GQ.indexSlice (i) 1 ((o' + i)) hT rfl rfl rfl rfl rfl rfl rfl rfl ?_ ?_ ?_ ?_; (focus omega); (focus omega); (focus omega))
    refine QSt1 (hAv) ?_
    refine GQ.tail fun w3 he3 => ?_
    refine GL.yieldc rfl rfl rfl rfl (hy i w3 u v x y hxi hyy (RdB.ext hu he3) (RdB.ext hv2 he3) (hI i w2 w3 hIi he3)) ?_
    rintro r w4 (⟨rfl, h4⟩ | ⟨rfl, h4⟩)
    · refine St0 ?_
      exact G.sub (by (repeat (first | exact Fr.sub_nil _ | refine Fr.sub_cons rfl ?_))) (again (i + 1) _ _ (by omega) ⟨by omega, h4, rfl⟩)
    · refine St0 ?_
      exact G.ret0 rfl rfl rfl (.inr h4)
  · obtain rfl : i = N := by omega
    refine St0 ?_
    exact G.end0 rfl rfl rfl (.inl hIi)

theorem unlike_eq (a b : Prf) : unlikeB a b = ((toldB a != toldB b) || !decide (toldV a = toldV b)) := rfl
theorem cunlike_call (a b : Prf) (u s u' s' : Value) (S S' : Where) (w : World) (ha : PrfM S w a u s) (hb : PrfM S' w b u' s') (hal : a.val.length ≤ 1000) (hbl : b.val.length ≤ 1000) :
    Does Tryd.prog 103 #[prv a u s, prv b u' s'] w fun r w' => r = .bool (decide (a.key = b.key) && unlikeB a b) ∧ Ext w w' := by
  refine call_walk Tryd.func103 (by kernel_rfl) rfl Tryd.ntmps103 rfl ?_
  refine St0 ?_
  refine GL.box rfl rfl rfl rfl fun b2 w1 hb2 hB2 he1 => ?_
  refine GL.box rfl rfl rfl rfl fun b3 w2 hb3 hB3 he2 => ?_
  replace hB2 := hB2.ext he2
  have he12 := he1.trans he2
  refine St1 (hB2.all) ?_
  refine GL.call rfl rfl rfl (told_call a u s _ w2 (ha.ext he12) (by omega)) ?_
  rintro r w3 ⟨va, rfl, hva, he3⟩
  replace hB2 := hB2.ext he3
  replace hB3 := hB3.ext he3
  refine St1 (hB3.all) ?_
  refine GL.call rfl rfl rfl (told_call b u' s' _ w3 (hb.ext (he12.trans he3)) (by omega)) ?_
  rintro r w4 ⟨vb, rfl, hvb, he4⟩
  replace hB2 := hB2.ext he4
  replace hB3 := hB3.ext he4
  replace hva := hva.ext he4
  have e4 := he12.trans (he3.trans he4)
  obtain ⟨hk, _⟩ := pat hB2.all
  obtain ⟨hk', _⟩ := pat hB3.all
  have hvl : (toldV a).length ≤ 4294967296 := by
    unfold toldV
    split
    · omega
    · simp
  by_cases hkk : a.key = b.key
  · refine St2 (hk) (hk') ?_
    cases ht : toldB a <;> cases ht' : toldB b
    · --
      refine St0 ?_
      refine GL.call rfl rfl rfl (equalB_call va vb _ _ _ _ w4 hva.fresh hvb.fresh hvl) ?_
      rintro r w5 ⟨rfl, he5⟩
      cases hd : decide (toldV a = toldV b)
      · refine St0 ?_
        exact G.ret1 rfl rfl rfl rfl ⟨by simp [hkk, unlike_eq, ht, ht', hd], e4.trans he5⟩
      · refine St0 ?_
        exact G.ret1 rfl rfl rfl rfl ⟨by simp [hkk, unlike_eq, ht, ht', hd], e4.trans he5⟩
    · refine St0 ?_
      exact G.ret1 rfl rfl rfl rfl ⟨by simp [hkk, unlike_eq, ht, ht'], e4⟩
    · refine St0 ?_
      exact G.ret1 rfl rfl rfl rfl ⟨by simp [hkk, unlike_eq, ht, ht'], e4⟩
    · --
      refine St0 ?_
      refine GL.call rfl rfl rfl (equalB_call va vb _ _ _ _ w4 hva.fresh hvb.fresh hvl) ?_
      rintro r w5 ⟨rfl, he5⟩
      cases hd : decide (toldV a = toldV b)
      · refine St0 ?_
        exact G.ret1 rfl rfl rfl rfl ⟨by simp [hkk, unlike_eq, ht, ht', hd], e4.trans he5⟩
      · refine St0 ?_
        exact G.ret1 rfl rfl rfl rfl ⟨by simp [hkk, unlike_eq, ht, ht', hd], e4.trans he5⟩
  · refine St2 (hk) (hk') ?_
    exact G.ret1 rfl rfl rfl rfl ⟨by simp [hkk], e4⟩
theorem lunlike_call (a b : Prf) (u s u' s' : Value) (S S' : Where) (w : World) (ha : PrfM S w a u s) (hb : PrfM S' w b u' s') (hal : a.val.length ≤ 1000) (hbl : b.val.length ≤ 1000) :
    Does Tryd.prog 47 #[prv a u s, prv b u' s'] w fun r w' => r = .bool (unlikeB a b) ∧ Ext w w' := by
  refine call_walk Tryd.func47 (by kernel_rfl) rfl Tryd.ntmps47 rfl ?_
  refine St0 ?_
  refine GL.box rfl rfl rfl rfl fun b2 w1 hb2 hB2 he1 => ?_
  refine GL.box rfl rfl rfl rfl fun b3 w2 hb3 hB3 he2 => ?_
  replace hB2 := hB2.ext he2
  have he12 := he1.trans he2
  refine St1 (hB2.all) ?_
  refine GL.call rfl rfl rfl (told_call a u s _ w2 (ha.ext he12) (by omega)) ?_
  rintro r w3 ⟨va, rfl, hva, he3⟩
  replace hB2 := hB2.ext he3
  replace hB3 := hB3.ext he3
  refine St1 (hB3.all) ?_
  refine GL.call rfl rfl rfl (told_call b u' s' _ w3 (hb.ext (he12.trans he3)) (by omega)) ?_
  rintro r w4 ⟨vb, rfl, hvb, he4⟩
  replace hB2 := hB2.ext he4
  replace hB3 := hB3.ext he4
  replace hva := hva.ext he4
  have e4 := he12.trans (he3.trans he4)
  cases ht : toldB a <;> cases ht' : toldB b
  · --
    refine St0 ?_
    refine GL.call rfl rfl rfl (same_call va vb _ _ _ _ w4 hva.fresh hvb.fresh) ?_
    rintro r w5 ⟨rfl, rfl⟩
    cases hd : decide (toldV a = toldV b)
    · refine St0 ?_
      exact G.ret1 rfl rfl rfl rfl ⟨by simp [unlike_eq, ht, ht', hd], e4⟩
    · refine St0 ?_
      exact G.ret1 rfl rfl rfl rfl ⟨by simp [unlike_eq, ht, ht', hd], e4⟩
  · refine St0 ?_
    exact G.ret1 rfl rfl rfl rfl ⟨by simp [unlike_eq, ht, ht'], e4⟩
  · refine St0 ?_
    exact G.ret1 rfl rfl rfl rfl ⟨by simp [unlike_eq, ht, ht'], e4⟩
  · --
    refine St0 ?_
    refine GL.call rfl rfl rfl (same_call va vb _ _ _ _ w4 hva.fresh hvb.fresh) ?_
    rintro r w5 ⟨rfl, rfl⟩
    cases hd : decide (toldV a = toldV b)
    · refine St0 ?_
      exact G.ret1 rfl rfl rfl rfl ⟨by simp [unlike_eq, ht, ht', hd], e4⟩
    · refine St0 ?_
      exact G.ret1 rfl rfl rfl rfl ⟨by simp [unlike_eq, ht, ht', hd], e4⟩

theorem both_call (p p' : Option Addr) (m c m' c' : Nat) (w : World) :
    Does Tryd.prog 104 #[.slice p m c, .slice p' m' c'] w fun r w' => ∃ b2 b3, r = .func (.func 150) #[] #[ptr b2 0, ptr b3 0] ∧ Blk w' b2 38 [.slice p m c] ∧ Blk w' b3 38 [.slice p' m' c'] ∧ w.heap.size ≤ b2 ∧ w.heap.size ≤ b3 ∧ Ext w w' := by
  refine call_walk Tryd.func104 (by kernel_rfl) rfl Tryd.ntmps104 rfl ?_
  refine St0 ?_
  refine GL.box (vs := [.slice p m c]) rfl rfl rfl rfl fun b2 w1 hb2 hB2 he1 => ?_
  refine GL.box (vs := [.slice p' m' c']) rfl rfl rfl rfl fun b3 w2 hb3 hB3 he2 => ?_
  have s1 := he1.size
  refine St0 ?_
  exact G.ret1 rfl rfl rfl rfl ⟨b2, b3, rfl, hB2.ext he2, hB3, by omega, by omega, he1.trans he2⟩
noncomputable def seekR (a b : Prf) : Bytes × Bytes × Nat :=
  if mayB a && mayB b then (if decide (a.key = b.key) && unlikeB a b then (match firstDiff (fromP a) (fromP b) with | some (x, y) => (x, y, 0) | none => ([], [], 2)) else ([], [], 2)) else ([], [], 8)
theorem seek_call (a b : Prf) (u s u' s' : Value) (S S' : Where) (w : World) (ha : PrfM S w a u s) (hb : PrfM S' w b u' s') (hal : a.val.length ≤ 1000) (hbl : b.val.length ≤ 1000) (has : a.sides.length ≤ 300) (hbs : b.sides.length ≤ 300) (hK : Kt w) :
    Does Tryd.prog 46 #[prv a u s, prv b u' s'] w fun r w' => ∃ vx vy, r = .tuple #[vx, vy, iv (seekR a b).2.2] ∧ RdB any w' vx (seekR a b).1 ∧ RdB any w' vy (seekR a b).2.1 ∧ Ext w w' := by
  refine call_walk Tryd.func46 (by kernel_rfl) rfl Tryd.ntmps46 rfl ?_
  refine St0 ?_
  refine GL.box rfl rfl rfl rfl fun b2 w1 hb2 hB2 he1 => ?_
  refine GL.box rfl rfl rfl rfl fun b3 w2 hb3 hB3 he2 => ?_
  refine GL.alloc hT rfl rfl rfl fun b4 w3 hb4 hB4 he3 => ?_
  refine GL.alloc hT rfl rfl rfl fun b5 w4 hb5 hB5 he4 => ?_
  refine GL.alloc hT rfl rfl rfl fun b6 w5 hb6 hB6 he5 => ?_
  have q2 := hB2.lt
  have q3 := hB3.lt
  have q4 := hB4.lt
  have q5 := hB5.lt
  replace hB2 := hB2.ext he2
  replace hB2 := hB2.ext he3
  replace hB3 := hB3.ext he3
  replace hB2 := hB2.ext he4
  replace hB3 := hB3.ext he4
  replace hB4 := hB4.ext he4
  replace hB2 := hB2.ext he5
  replace hB3 := hB3.ext he5
  replace hB4 := hB4.ext he5
  replace hB5 := hB5.ext he5
  have e5 := he1.trans (he2.trans (he3.trans (he4.trans he5)))
  have s1 := he1.size
  have s2 := he2.size
  have s3 := he3.size
  have s4 := he4.size
  have s5 := he5.size
  have l6 := hB6.lt
  refine St0 ?_
  refine GL.loadN hT rfl rfl rfl rfl rfl hB2.all (pcells_len a u s) ?_
  refine GL.call rfl rfl rfl (inputs_call a u s _ w5 (ha.ext e5) hal has (hK.ext e5)) ?_
  rintro r w6 ⟨va, rfl, hva, he6⟩
  replace hB2 := hB2.ext he6
  replace hB3 := hB3.ext he6
  replace hB4 := hB4.ext he6
  replace hB5 := hB5.ext he6
  replace hB6 := hB6.ext he6
  have s6 := he6.size
  refine St0 ?_
  refine GL.store1 hT rfl rfl rfl rfl rfl rfl rfl hB6 (by show 0 < 1; omega) fun w7 hc7 hB6 => ?_
  replace hB6 : Blk w7 b6 26 [iv (badE (mayB a))] := hB6
  have n4 : b4 ≠ b6 := by omega
  have n5 : b5 ≠ b6 := by omega
  have n45 : b4 ≠ b5 := by omega
  replace hB2 := hB2.chg hc7 (by omega)
  replace hB3 := hB3.chg hc7 (by omega)
  replace hB4 := hB4.chg hc7 n4
  replace hB5 := hB5.chg hc7 n5
  have s7 := hc7.size
  have e7 : Ext w w7 := hc7.below (by omega) (e5.trans he6)
  have hwa : RdBs (win w5.heap.size w6.heap.size) w6 va (inputsP a) := rdBs_win hva.rd (fun b fr h => h.1) (Nat.le_refl _)
  replace hwa := hwa.keep (w' := w7) fun b fr h => hc7.block b (by have := h.1; omega)
  refine St1 (hB3.all) ?_
  refine GL.call rfl rfl rfl (inputs_call b u' s' _ w7 (hb.ext e7) hbl hbs (hK.ext e7)) ?_
  rintro r w8 ⟨vb, rfl, hvb, he8⟩
  replace hB2 := hB2.ext he8
  replace hB3 := hB3.ext he8
  replace hB4 := hB4.ext he8
  replace hB5 := hB5.ext he8
  replace hB6 := hB6.ext he8
  replace hwa := hwa.ext he8
  have s8 := he8.size
  have e8 := e7.trans he8
  have hwb : RdBs (win w5.heap.size w8.heap.size) w8 vb (inputsP b) := rdBs_win hvb.rd (fun b fr h => by have := h.1; omega) (Nat.le_refl _)
  replace hwa : RdBs (win w5.heap.size w8.heap.size) w8 va (inputsP a) := hwa.imp fun b fr h => ⟨h.1, by have := h.2; omega⟩
  clear he1 he2 he3 he4 he5 he6 he8 hc7 hva hvb q2 q3 q4 q5
  cases hma : mayB a
  · have hR : seekR a b = ([], [], 8) := by simp [seekR, hma]
    have e1 : badE false = 8 := rfl
    rw [hma, e1] at hB6
    refine St1 (hB6.all) ?_
    refine St0 ?_
    refine GL.store1 hT rfl rfl rfl rfl rfl rfl rfl hB4 (by show 0 < 1; omega) fun w9 hc9 hB4 => ?_
    replace hB5 := hB5.chg hc9 (fun e => n45 e.symm)
    replace hB6 := hB6.chg hc9 (fun e => n4 e.symm)
    refine GL.store1 hT rfl rfl rfl rfl rfl rfl rfl hB5 (by show 0 < 1; omega) fun w10 hc10 hB5 => ?_
    replace hB4 := hB4.chg hc10 n45
    replace hB6 := hB6.chg hc10 (fun e => n5 e.symm)
    refine GL.store1 hT rfl rfl rfl rfl rfl rfl rfl hB6 (by show 0 < 1; omega) fun w11 hc11 hB6 => ?_
    replace hB4 := hB4.chg hc11 n4
    replace hB5 := hB5.chg hc11 n5
    refine St0 ?_
    exact G.ret_of rfl rfl (run_result3c hT rfl rfl rfl rfl rfl rfl rfl rfl rfl rfl hB4.all hB5.all hB6.all) ⟨_, _, by rw [hR]; rfl, by rw [hR]; exact RdF.nil _ _ _ _, by rw [hR]; exact RdF.nil _ _ _ _, hc11.below (by omega) (hc10.below (by omega) (hc9.below (by omega) e8))⟩
  have e0 : badE true = 0 := rfl
  rw [hma, e0] at hB6
  cases hmb : mayB b
  · have hR : seekR a b = ([], [], 8) := by simp [seekR, hmb]
    have e1 : badE false = 8 := rfl
    rw [e1]
    refine St1 (hB6.all) ?_
    refine St0 ?_
    refine GL.store1 hT rfl rfl rfl rfl rfl rfl rfl hB4 (by show 0 < 1; omega) fun w9 hc9 hB4 => ?_
    replace hB5 := hB5.chg hc9 (fun e => n45 e.symm)
    replace hB6 := hB6.chg hc9 (fun e => n4 e.symm)
    refine GL.store1 hT rfl rfl rfl rfl rfl rfl rfl hB5 (by show 0 < 1; omega) fun w10 hc10 hB5 => ?_
    replace hB4 := hB4.chg hc10 n45
    replace hB6 := hB6.chg hc10 (fun e => n5 e.symm)
    refine GL.store1 hT rfl rfl rfl rfl rfl rfl rfl hB6 (by show 0 < 1; omega) fun w11 hc11 hB6 => ?_
    replace hB4 := hB4.chg hc11 n4
    replace hB5 := hB5.chg hc11 n5
    refine St0 ?_
    exact G.ret_of rfl rfl (run_result3c hT rfl rfl rfl rfl rfl rfl rfl rfl rfl rfl hB4.all hB5.all hB6.all) ⟨_, _, by rw [hR]; rfl, by rw [hR]; exact RdF.nil _ _ _ _, by rw [hR]; exact RdF.nil _ _ _ _, hc11.below (by omega) (hc10.below (by omega) (hc9.below (by omega) e8))⟩
  rw [e0]
  refine St1 (hB6.all) ?_
  refine GL.loadN hT rfl rfl rfl rfl rfl hB2.all (pcells_len a u s) ?_
  refine GL.loadN hT rfl rfl rfl rfl rfl hB3.all (pcells_len b u' s') ?_
  refine GL.call rfl rfl rfl (cunlike_call a b u s u' s' _ _ w8 (ha.ext e8) (hb.ext e8) hal hbl) ?_
  rintro r w12 ⟨rfl, he12⟩
  replace hB2 := hB2.ext he12
  replace hB3 := hB3.ext he12
  replace hB4 := hB4.ext he12
  replace hB5 := hB5.ext he12
  replace hB6 := hB6.ext he12
  replace hwa := hwa.ext he12
  replace hwb := hwb.ext he12
  have s12 := he12.size
  have e12 := e8.trans he12
  cases hun : decide (a.key = b.key) && unlikeB a b
  · have hR : seekR a b = ([], [], 2) := by simp only [seekR, hma, hmb, hun]; rfl
    refine St0 ?_
    refine GL.store1 hT rfl rfl rfl rfl rfl rfl rfl hB4 (by show 0 < 1; omega) fun w9 hc9 hB4 => ?_
    replace hB5 := hB5.chg hc9 (fun e => n45 e.symm)
    replace hB6 := hB6.chg hc9 (fun e => n4 e.symm)
    refine GL.store1 hT rfl rfl rfl rfl rfl rfl rfl hB5 (by show 0 < 1; omega) fun w10 hc10 hB5 => ?_
    replace hB4 := hB4.chg hc10 n45
    replace hB6 := hB6.chg hc10 (fun e => n5 e.symm)
    refine GL.store1 hT rfl rfl rfl rfl rfl rfl rfl hB6 (by show 0 < 1; omega) fun w11 hc11 hB6 => ?_
    replace hB4 := hB4.chg hc11 n4
    replace hB5 := hB5.chg hc11 n5
    refine St0 ?_
    exact G.ret_of rfl rfl (run_result3c hT rfl rfl rfl rfl rfl rfl rfl rfl rfl rfl hB4.all hB5.all hB6.all) ⟨_, _, by rw [hR]; rfl, by rw [hR]; exact RdF.nil _ _ _ _, by rw [hR]; exact RdF.nil _ _ _ _, hc11.below (by omega) (hc10.below (by omega) (hc9.below (by omega) e12))⟩
  have hin : inputsP a = fromP a := by rw [inputsP, hma]; rfl
  have hinb : inputsP b = fromP b := by rw [inputsP, hmb]; rfl
  rw [hin] at hwa
  rw [hinb] at hwb
  have hla : (fromP a).length ≤ 301 := by rw [fromP, fromL_len]; omega
  have hlb : (fromP b).length ≤ 301 := by rw [fromP, fromL_len]; omega
  have hva0 : ∀ x ∈ fromP a, x.length ≤ 2000 := fromL_small a hal 0 a.sides
  obtain ⟨pa, ca, rfl, hca⟩ := hwa.isSlice
  obtain ⟨pb, cb, rfl, hcb⟩ := hwb.isSlice
  refine St0 ?_
  refine GL.call rfl rfl rfl (both_call _ _ _ _ _ _ w12) ?_
  rintro r w13 ⟨c2, c3, rfl, hC2, hC3, hc2, hc3, he13⟩
  replace hB4 := hB4.ext he13
  replace hB5 := hB5.ext he13
  replace hB6 := hB6.ext he13
  replace hwa := hwa.ext he13
  replace hwb := hwb.ext he13
  have s13 := he13.size
  have e13 := e12.trans he13
  have lc2 := hC2.lt
  have lc3 := hC3.lt
  have l4 := hB4.lt
  have l5 := hB5.lt
  have l6' := hB6.lt
  have hz : w.heap.size ≤ w13.heap.size := e13.size
  clear he12 he13 e12 e8 e7
  refine St0 ?_
  refine G.rangeFunc (Θ := fun L _ w' => (Below w13.heap.size w13 w' ∧ L.At w' .ready none ∧ NoDefers w' L.r ∧ ∀ j, j < min (fromP a).length (fromP b).length → (fromP a)[j]? = (fromP b)[j]?) ∨
    (Below w.heap.size w w' ∧ L.At w' .done (some .ret) ∧ NoDefers w' L.r ∧ ∃ u v x y, Blk w' b4 32 [u] ∧ Blk w' b5 32 [v] ∧ Blk w' b6 26 [iv 0] ∧ RdB (win w5.heap.size w8.heap.size) w' u x ∧ RdB (win w5.heap.size w8.heap.size) w' v y ∧ firstDiff (fromP a) (fromP b) = some (x, y))) rfl rfl ?hit ?hk
  case hit =>
    intro L w14 hD hps has' hbo hr hl he14 hLat hnd
    have s14 := he14.size
    have lL := hLat.lt
    have hc := both1_call L.l _ _ (fromP a) (fromP b) c2 c3 (win w5.heap.size w8.heap.size) (fun i w' => Below w13.heap.size w13 w' ∧ L.At w' .ready none ∧ NoDefers w' L.r ∧ ∀ j, j < i → (fromP a)[j]? = (fromP b)[j]?)
      (fun w' => Below w.heap.size w w' ∧ L.At w' .done (some .ret) ∧ NoDefers w' L.r ∧ ∃ u v x y, Blk w' b4 32 [u] ∧ Blk w' b5 32 [v] ∧ Blk w' b6 26 [iv 0] ∧ RdB (win w5.heap.size w8.heap.size) w' u x ∧ RdB (win w5.heap.size w8.heap.size) w' v y ∧ firstDiff (fromP a) (fromP b) = some (x, y)) w14
      ⟨he14, hLat, hnd, fun j hj => by omega⟩
      (fun i w' w'' ⟨h1, h2, h3, h4⟩ he => ⟨Below.trans h1 (Below.mono he h1.size), h2.ext he, h3.ext he, h4⟩)
      (fun i w' ⟨h1, _, _, _⟩ => ⟨(hC2.ext h1).all, (hC3.ext h1).all, hwa.ext h1, hwb.ext h1⟩) (by omega) (by omega) ?_
    · exact hc.mono fun v w' h => h
    · intro i w15 ux vy x y hx hy hux hvy ⟨h15, hL15, hn15, heq⟩
      have lL15 := hL15.lt
      have s15 := h15.size
      refine Lo.yield (L := L) hL15 hD ?_ ?_ ?_
      · rw [hps]; rfl
      · rw [hps]; rfl
      rw [hps, has', hbo]
      obtain ⟨pu, cu, rfl, hcu⟩ := RdF.isSlice hux
      obtain ⟨pv', cv, rfl, hcv⟩ := RdF.isSlice hvy
      refine St0 ?_
      refine G.beginRound rfl hL15 fun w16 hc16 hL16 => ?_
      have hux16 : RdB (win w5.heap.size w8.heap.size) w16 _ x := RdB.keep hux (w' := w16) fun b fr h => hc16.block b (by have := h.2; omega)
      have hvy16 : RdB (win w5.heap.size w8.heap.size) w16 _ y := RdB.keep hvy (w' := w16) fun b fr h => hc16.block b (by have := h.2; omega)
      have hn16 := hn15.chg hc16 (by omega)
      have s16 := hc16.size
      have h16 : Below w13.heap.size w13 w16 := hc16.below (by omega) h15
      have hxl := hva0 x (List.mem_of_getElem? hx)
      refine St0 ?_
      refine GL.call rfl rfl rfl (equalB_call _ _ x y _ _ w16 hux16 hvy16 (by omega)) ?_
      rintro r w17 ⟨rfl, he17⟩
      have s17 := he17.size
      have hL17 := hL16.ext he17
      have hn17 := hn16.ext he17
      have h17 : Below w13.heap.size w13 w17 := Below.trans h16 (Below.mono he17 h16.size)
      by_cases hxy : x = y
      · rw [show decide (x = y) = true by simpa using hxy]
        refine St0 ?_
        refine G.roundEnd (L := L) rfl hL17 fun w18 hc18 hL18 => .inl ⟨rfl, hc18.below (by omega) h17, hL18, hn17.chg hc18 (by omega), fun j hj => ?_⟩
        rcases Nat.lt_or_eq_of_le (Nat.lt_succ_iff.1 hj) with h1 | h1
        · exact heq j h1
        · subst h1; rw [hx, hy, hxy]
      · rw [show decide (x = y) = false by simpa using hxy]
        have hfd := firstDiff_at heq hx hy hxy
        have hB4' := hB4.ext h17
        have hB5' := hB5.ext h17
        have hB6' := hB6.ext h17
        have hux17 := RdB.ext hux16 he17
        have hvy17 := RdB.ext hvy16 he17
        refine St0 ?_
        refine GL.store1 hT rfl rfl rfl rfl rfl rfl rfl hB4' (by show 0 < 1; omega) fun w18 hc18 hB4' => ?_
        replace hB5' := hB5'.chg hc18 (fun e => n45 e.symm)
        replace hB6' := hB6'.chg hc18 (fun e => n4 e.symm)
        refine GL.store1 hT rfl rfl rfl rfl rfl rfl rfl hB5' (by show 0 < 1; omega) fun w19 hc19 hB5' => ?_
        replace hB4' := hB4'.chg hc19 n45
        replace hB6' := hB6'.chg hc19 (fun e => n5 e.symm)
        refine GL.store1 hT rfl rfl rfl rfl rfl rfl rfl hB6' (by show 0 < 1; omega) fun w20 hc20 hB6' => ?_
        replace hB4' := hB4'.chg hc20 n4
        replace hB5' := hB5'.chg hc20 n5
        have hk20 : ∀ b, b ≠ b4 → b ≠ b5 → b ≠ b6 → w20.heap[b]? = w17.heap[b]? := fun b x1 x2 x3 => (hc20.block b x3).trans ((hc19.block b x2).trans (hc18.block b x1))
        have hL20 := hL17.keep (hk20 _ (by omega) (by omega) (by omega))
        have hn20 : NoDefers w20 L.r := ((hn17.chg hc18 (by omega)).chg hc19 (by omega)).chg hc20 (by omega)
        have h20 : Below w.heap.size w w20 := hc20.below (by omega) (hc19.below (by omega) (hc18.below (by omega) (Below.trans e13 (Below.mono h17 hz))))
        refine St0 ?_
        refine G.roundRet (L := L) rfl hL20 fun w21 hc21 hL21 => .inr ⟨rfl, hc21.below (by omega) h20, hL21, hn20.chg hc21 (by omega), _, _, x, y, hB4'.chg hc21 (by omega), hB5'.chg hc21 (by omega), hB6'.chg hc21 (by omega), ?_, ?_, hfd⟩
        · exact (RdB.keep hux17 (w' := w21) fun b fr h => (hc21.block b (by have := h.2; omega)).trans (hk20 b (by have := h.1; omega) (by have := h.1; omega) (by have := h.1; omega)))
        · exact (RdB.keep hvy17 (w' := w21) fun b fr h => (hc21.block b (by have := h.2; omega)).trans (hk20 b (by have := h.1; omega) (by have := h.1; omega) (by have := h.1; omega)))
  case hk =>
    rintro L v w14 hr hl (⟨h14, hLat, hnd, heq⟩ | ⟨h14, hLat, hnd, ux, vy, x, y, hB4', hB5', hB6', hux, hvy, hfd⟩)
    · refine ⟨.ready, none, hLat, by simp, fun w15 hc15 => ?_⟩
      have hR : seekR a b = ([], [], 2) := by simp only [seekR, hma, hmb, hun, firstDiff_none heq]; rfl
      have s14 := h14.size
      replace hB4 := (hB4.ext h14).chg hc15 (by omega)
      replace hB5 := (hB5.ext h14).chg hc15 (by omega)
      replace hB6 := (hB6.ext h14).chg hc15 (by omega)
      replace hnd := hnd.chg hc15 (by omega)
      have e15 : Below w.heap.size w w15 := hc15.below (by omega) (Below.trans e13 (Below.mono h14 hz))
      refine St0 ?_
      refine GL.store1 hT rfl rfl rfl rfl rfl rfl rfl hB4 (by show 0 < 1; omega) fun w18 hc18 hB4 => ?_
      replace hB5 := hB5.chg hc18 (fun e => n45 e.symm)
      replace hB6 := hB6.chg hc18 (fun e => n4 e.symm)
      refine GL.store1 hT rfl rfl rfl rfl rfl rfl rfl hB5 (by show 0 < 1; omega) fun w19 hc19 hB5 => ?_
      replace hB4 := hB4.chg hc19 n45
      replace hB6 := hB6.chg hc19 (fun e => n5 e.symm)
      refine GL.store1 hT rfl rfl rfl rfl rfl rfl rfl hB6 (by show 0 < 1; omega) fun w20 hc20 hB6 => ?_
      replace hB4 := hB4.chg hc20 n4
      replace hB5 := hB5.chg hc20 n5
      replace hnd := ((hnd.chg hc18 (by omega)).chg hc19 (by omega)).chg hc20 (by omega)
      have e20 : Below w.heap.size w w20 := hc20.below (by omega) (hc19.below (by omega) (hc18.below (by omega) e15))
      refine St0 ?_
      refine G.ret_coll rfl rfl hnd (fun a' w21 ha hc => run_result3c hT rfl rfl rfl rfl rfl rfl rfl rfl rfl rfl (hB4.chg hc (by omega)).all (hB5.chg hc (by omega)).all (hB6.chg hc (by omega)).all a' ha) fun w21 hc21 => ⟨_, _, by rw [hR]; rfl, by rw [hR]; exact RdF.nil _ _ _ _, by rw [hR]; exact RdF.nil _ _ _ _, hc21.below (by omega) e20⟩
    · refine ⟨.done, some .ret, hLat, by simp, fun w15 hc15 => ?_⟩
      have hR : seekR a b = (x, y, 0) := by simp only [seekR, hma, hmb, hun, hfd]; rfl
      replace hB4' := hB4'.chg hc15 (by omega)
      replace hB5' := hB5'.chg hc15 (by omega)
      replace hB6' := hB6'.chg hc15 (by omega)
      replace hnd := hnd.chg hc15 (by omega)
      have e15 : Below w.heap.size w w15 := hc15.below (by omega) h14
      show G _ _ _ _ (.code .ret :: _) _ _
      refine G.ret_coll rfl rfl hnd (fun a' w21 ha hc => run_result3c hT rfl rfl rfl rfl rfl rfl rfl rfl rfl rfl (hB4'.chg hc (by omega)).all (hB5'.chg hc (by omega)).all (hB6'.chg hc (by omega)).all a' ha) fun w21 hc21 => ⟨_, _, by rw [hR]; rfl, ?_, ?_, hc21.below (by omega) e15⟩
      · rw [hR]
        exact (RdB.keep hux (w' := w21) fun b fr h => (hc21.block b (by have := h.2; omega)).trans (hc15.block b (by have := h.2; omega))).imp fun _ _ _ => trivial
      · rw [hR]
        exact (RdB.keep hvy (w' := w21) fun b fr h => (hc21.block b (by have := h.2; omega)).trans (hc15.block b (by have := h.2; omega))).imp fun _ _ _ => trivial
end Go.Proofs.YtefneilaongpbaaDoor
/-
  The first unlike pair of two proofs of one root is a clash: the plain law; the law's walk.
-/
set_option linter.unusedVariables false
set_option linter.unusedSimpArgs false
set_option maxRecDepth 100000
set_option maxHeartbeats 4000000
namespace Go.Proofs.YtefneilaongpbaaDoor
open Go Go.Bd Go.RowKit
attribute [local irreducible] G GL GQ GS shaD

theorem tag2_form (k : UInt8) (x y : Bytes) : tagB k [x, y] = k :: (be4 x.length ++ (x ++ (be4 y.length ++ y))) := by simp [tagB]
theorem tag2_inj {k k' : UInt8} {x y x' y' : Bytes} (h : tagB k [x, y] = tagB k' [x', y']) (hl : x.length = x'.length) : k = k' ∧ x = x' ∧ y = y' := by
  rw [tag2_form, tag2_form] at h
  simp only [List.cons.injEq] at h
  obtain ⟨h0, h⟩ := h
  rw [hl] at h
  have h1 := List.append_cancel_left h
  obtain ⟨h2, h3⟩ := List.append_inj h1 hl
  obtain ⟨_, h4⟩ := List.append_inj h3 rfl
  exact ⟨h0, h2, h4⟩
theorem tag2_head {k k' : UInt8} {x y : Bytes} {l : Bytes} (h : tagB k [x, y] = k' :: l) : k = k' := by
  rw [tag2_form] at h
  simp only [List.cons.injEq] at h
  exact h.1
theorem low_head (x : Prf) : ∃ c l, lowF x = c :: l ∧ c ≠ 2 := by
  unfold lowF
  split
  · exact ⟨1, _, tag2_form _ _ _, by decide⟩
  · split
    · exact ⟨1, _, tag2_form _ _ _, by decide⟩
    · exact ⟨0, _, rfl, by decide⟩
theorem up_head (x : Prf) (i : Nat) (a b : Dig) : ∃ l, upB x i a b = 2 :: l := by
  unfold upB
  split <;> exact ⟨_, tag2_form _ _ _⟩
theorem low_up (x y : Prf) (i : Nat) (a b : Dig) : lowF x ≠ upB y i a b := by
  obtain ⟨c, l, h1, h2⟩ := low_head x
  obtain ⟨l', h3⟩ := up_head y i a b
  rw [h1, h3]
  intro e
  simp only [List.cons.injEq] at e
  exact h2 e.1
theorem dig_len2 (a b : Dig) : a.1.length = b.1.length := by rw [a.2, b.2]
theorem up_inj {x y : Prf} (hk : x.key = y.key) {i : Nat} {a b c d : Dig} (h : upB x i a b = upB y i c d) : a = c ∧ b = d := by
  unfold upB at h
  rw [hk] at h
  split at h
  · obtain ⟨_, h1, h2⟩ := tag2_inj h (dig_len2 _ _)
    exact ⟨Subtype.ext h1, Subtype.ext h2⟩
  · obtain ⟨_, h1, h2⟩ := tag2_inj h (dig_len2 _ _)
    exact ⟨Subtype.ext h2, Subtype.ext h1⟩
theorem from_diff {a b : Prf} (hk : a.key = b.key) : ∀ (ss ts : List Dig) (i : Nat),
    (firstDiff (fromL a i ss) (fromL b i ts) = none → lowF a = lowF b) ∧
    ∀ x y, firstDiff (fromL a i ss) (fromL b i ts) = some (x, y) → x ≠ y ∧ (shaD ((fromL a i ss).headD []) = shaD ((fromL b i ts).headD []) → shaD x = shaD y)
  | [], [], i => by
    simp only [fromL, firstDiff, List.headD_cons]
    by_cases h : lowF a = lowF b
    · rw [if_pos h]; exact ⟨fun _ => h, fun x y hx => (by cases hx)⟩
    · rw [if_neg h]
      exact ⟨fun hx => (by cases hx), fun x y hx => (by cases hx; exact ⟨h, id⟩)⟩
  | [], t :: ts, i => by
    simp only [fromL, firstDiff, List.headD_cons]
    have h := low_up a b i (shaD ((fromL b (i + 1) ts).headD [])) t
    rw [if_neg h]
    exact ⟨fun hx => (by cases hx), fun x y hx => (by cases hx; exact ⟨h, id⟩)⟩
  | s :: ss, [], i => by
    simp only [fromL, firstDiff, List.headD_cons]
    have h := fun e => low_up b a i (shaD ((fromL a (i + 1) ss).headD [])) s (Eq.symm e)
    rw [if_neg h]
    exact ⟨fun hx => (by cases hx), fun x y hx => (by cases hx; exact ⟨h, id⟩)⟩
  | s :: ss, t :: ts, i => by
    obtain ⟨h1, h2⟩ := from_diff hk ss ts (i + 1)
    simp only [fromL, firstDiff, List.headD_cons]
    by_cases h : upB a i (shaD ((fromL a (i + 1) ss).headD [])) s = upB b i (shaD ((fromL b (i + 1) ts).headD [])) t
    · rw [if_pos h]
      obtain ⟨h3, _⟩ := up_inj hk h
      exact ⟨h1, fun x y hx => ⟨(h2 x y hx).1, fun _ => (h2 x y hx).2 h3⟩⟩
    · rw [if_neg h]
      exact ⟨fun hx => (by cases hx), fun x y hx => (by cases hx; exact ⟨h, id⟩)⟩
theorem low_like {a b : Prf} (ha : mayB a = true) (hb : mayB b = true) (hk : a.key = b.key) (h : lowF a = lowF b) : unlikeB a b = false := by
  have hoth : ∀ x : Prf, mayB x = true → x.en = 2 → x.other ≠ x.key := fun x hx he e => by
    simp only [mayB, Bool.and_eq_true] at hx
    have := hx.2
    unfold endB at this
    rw [he] at this
    simp [e] at this
  have low1 : ∀ x : Prf, x.en = 1 → lowF x = tagB 1 [x.key.1, x.val] := fun x he => by rw [lowF, if_pos he]
  have key : ∀ x y : Prf, mayB x = true → mayB y = true → x.key = y.key → lowF x = lowF y → x.en = 1 → y.en = 1 ∧ x.val = y.val := by
    intro x y hx hy hk h he
    rw [low1 x he] at h
    by_cases h1 : y.en = 1
    · rw [low1 y h1] at h
      exact ⟨h1, (tag2_inj h (dig_len2 _ _)).2.2⟩
    · exfalso
      rw [lowF, if_neg h1] at h
      split at h
      · rename_i h2
        have h3 := (tag2_inj h (dig_len2 _ _)).2.1
        exact hoth y hy h2 ((Subtype.ext h3).symm.trans hk)
      · exact absurd (tag2_head h) (by decide)
  by_cases h1 : a.en = 1
  · obtain ⟨h2, h3⟩ := key a b ha hb hk h h1
    simp [unlikeB, toldB, toldV, ha, hb, h1, h2, h3]
  · by_cases h2 : b.en = 1
    · exact absurd (key b a hb ha hk.symm h.symm h2).1 h1
    · simp [unlikeB, toldB, toldV, h1, h2]
theorem seek_law {a b : Prf} (ha : mayB a = true) (hb : mayB b = true) (hk : a.key = b.key) (hu : unlikeB a b = true) :
    ∃ x y, firstDiff (fromP a) (fromP b) = some (x, y) ∧ x ≠ y ∧ (rootV a = rootV b → shaD x = shaD y) := by
  obtain ⟨h1, h2⟩ := from_diff hk a.sides b.sides 0
  cases hf : firstDiff (fromL a 0 a.sides) (fromL b 0 b.sides) with
  | none =>
    rw [low_like ha hb hk (h1 hf)] at hu
    cases hu
  | some xy =>
    obtain ⟨x, y⟩ := xy
    obtain ⟨h3, h4⟩ := h2 x y hf
    exact ⟨x, y, hf, h3, fun he => h4 (by rw [rootV, ha, if_pos rfl, rootV, hb, if_pos rfl] at he; exact he)⟩

/-! the law -/
def ownPrf : Prf := ⟨Dig.zero, 1, Dig.zero, [97], []⟩
theorem own_call (w : World) : Does Tryd.prog 84 #[] w fun r w' => ∃ u, r = prv ownPrf u nil ∧ RdB any w' u [97] ∧ Ext w w' := by
  refine call_walk (vs := []) Tryd.func84 (by kernel_rfl) rfl Tryd.ntmps84 rfl ?_
  refine St0 ?_
  refine GL.alloc hT rfl rfl rfl fun b0 w1 hb0 hB0 he1 => ?_
  have l0 := hB0.lt
  refine St0 ?_
  refine GL.buildSlice [bv 97] hT rfl rfl rfl rfl rfl rfl rfl (fillL_one rfl rfl (madeLen _ _)) fun b1 w2 hb1 hB1 he2 => ?_
  refine GL.markK (cs := [bv 97]) hT rfl rfl rfl rfl rfl rfl rfl hB1 fun w3 hc3 hfr => ?_
  obtain ⟨fr', hfr'⟩ := hfr
  have s1 := he1.size
  have s2 := he2.size
  have he3 : Ext w1 w3 := hc3.below (by omega) he2
  replace hB0 := hB0.ext he3
  refine GL.build (pcells ownPrf (.slice (some ⟨b1, 0, none⟩) 1 1) nil) hT rfl rfl rfl rfl rfl rfl (by show _ = some (Dig.zero.cells ++ (bv 1 :: (Dig.zero.cells ++ [_, nil]))); rw [Dig.zero_cells]; rfl) ?_
  refine GL.storeVar hT rfl rfl rfl rfl rfl (pcells_len ownPrf _ _) (pcells_one ownPrf rfl rfl) hB0 (by rw [pcells_len]; decide) fun w4 hc4 hB4 => ?_
  refine St0 ?_
  refine G.retN rfl rfl hT rfl rfl rfl rfl hB4.all (pcells_len ownPrf _ _) ⟨_, rfl, ?_, hc4.below (by omega) (he1.trans he3)⟩
  exact ⟨_, 1, rfl, Nat.le_refl _, .inr ⟨b1, 0, rfl, _, _, fr', (hc4.block b1 (by omega)).trans hfr', trivial, fun j v hj => by rw [Nat.zero_add, List.getElem?_toArray]; exact hj⟩⟩
theorem alive9_seek : seekR noPrf ownPrf = ([0], tagB 1 [Dig.zero.1, [97]], 0) := by
  have h1 : mayB noPrf = true := by rfl
  have h2 : mayB ownPrf = true := by rfl
  have h3 : (decide (noPrf.key = ownPrf.key) && unlikeB noPrf ownPrf) = true := by rfl
  have h4 : firstDiff (fromP noPrf) (fromP ownPrf) = some ([0], tagB 1 [Dig.zero.1, [97]]) := by rfl
  simp only [seekR, h1, h2, h3, h4]
  rfl
theorem alive9_call (w : World) (hK : Kt w) : Does Tryd.prog 45 #[] w fun r w' => r = .bool true ∧ Ext w w' := by
  refine call_walk (vs := []) Tryd.func45 (by kernel_rfl) rfl Tryd.ntmps45 rfl ?_
  refine St0 ?_
  refine GL.build (pcells noPrf nil nil) hT rfl rfl rfl rfl rfl rfl (by show _ = some (Dig.zero.cells ++ (bv 0 :: (Dig.zero.cells ++ [nil, nil]))); rw [Dig.zero_cells]; rfl) ?_
  refine GL.call rfl rfl rfl (vs := []) (own_call w) ?_
  rintro r w1 ⟨u, rfl, hu, he1⟩
  refine GL.call rfl rfl rfl (seek_call noPrf ownPrf nil nil u nil any any w1 (noPrf_m w1) ⟨hu, RdF.nil _ _ _ _⟩ (by decide) (by decide) (by decide) (by decide) (hK.ext he1)) ?_
  rintro r w2 ⟨vx, vy, rfl, hvx, hvy, he2⟩
  have q1 : (seekR noPrf ownPrf).1 = [0] := by rw [alive9_seek]
  have q2 : (seekR noPrf ownPrf).2.1 = tagB 1 [Dig.zero.1, [97]] := by rw [alive9_seek]
  have q3 : (((seekR noPrf ownPrf).2.2 : Nat) : Int) = 0 := by rw [alive9_seek]; rfl
  rw [q1] at hvx
  rw [q2] at hvy
  rw [q3]
  have he12 := he1.trans he2
  have s12 := he12.size
  refine St0 ?_
  refine GL.alloc hT rfl rfl rfl fun b4 w3 hb4 hB4 he3 => ?_
  have e3 := he12.trans he3
  refine St0 ?_
  refine GL.buildSlice [bv 0] hT rfl rfl rfl rfl rfl rfl rfl (fillL_one rfl rfl (madeLen _ _)) fun b16 w4 hb16 hB16 he4 => ?_
  have he34 := he3.trans he4
  refine GL.call rfl rfl rfl (same_call vx _ [0] [0] _ any w4 (RdB.ext hvx he34) ⟨_, 1, rfl, Nat.le_refl _, .inr ⟨b16, 0, rfl, hB16.all⟩⟩) ?_
  rintro r w5 ⟨rfl, rfl⟩
  rw [show decide (([0] : Bytes) = [0]) = true from rfl]
  refine St0 ?_
  refine GL.buildSlice [bv 97] hT rfl rfl rfl rfl rfl rfl rfl (fillL_one rfl rfl (madeLen _ _)) fun b22 w6 hb22 hB22 he6 => ?_
  have s5 := he34.size
  have s6 := he6.size
  refine GL.markK (cs := [bv 97]) hT rfl rfl rfl rfl rfl rfl rfl hB22 fun w7 hc7 hfr => ?_
  obtain ⟨fr', hfr'⟩ := hfr
  have he7 : Ext w5 w7 := hc7.below (by omega) he6
  have hA22 : At any w7 b22 0 (bcells [97]) := ⟨_, _, fr', hfr', trivial, fun j v hj => by rw [Nat.zero_add, List.getElem?_toArray]; exact hj⟩
  refine GL.buildSlice ([.slice (some ⟨b4, 0, none⟩) 32 32] ++ [.slice (some ⟨b22, 0, none⟩) 1 1]) hT rfl rfl rfl rfl rfl rfl rfl (fillL_two rfl rfl rfl rfl (madeLen _ _)) fun b24 w8 hb24 hB24 he8 => ?_
  have e38 : Ext w3 w8 := he4.trans (he7.trans he8)
  have hz : At any w8 b4 0 Dig.zero.cells := by have := (hB4.ext e38).all; rw [Dig.zero_cells]; exact this
  refine GL.call rfl rfl rfl (tagBytes_call 1 _ [Dig.zero.1, [97]] any w8 (bs2 hB24 (rdKey hz) ⟨_, 1, rfl, Nat.le_refl _, .inr ⟨b22, 0, rfl, hA22.ext he8⟩⟩) (by simp) (by decide)) ?_
  rintro r w9 ⟨hr, he9⟩
  refine GL.call rfl rfl rfl (same_call vy r _ _ _ _ w9 (RdB.ext hvy (he34.trans (he7.trans (he8.trans he9)))) hr.fresh) ?_
  rintro r w10 ⟨rfl, rfl⟩
  rw [show decide (tagB 1 [Dig.zero.1, [97]] = tagB 1 [Dig.zero.1, [97]]) = true by simp]
  refine St0 ?_
  exact G.ret1 rfl rfl rfl rfl ⟨rfl, he12.trans (he34.trans (he7.trans (he8.trans he9)))⟩
theorem clashSeeks_call (a b : Prf) (u s u' s' : Value) (w : World) (ha : PrfM any w a u s) (hb : PrfM any w b u' s') (hK : Kt w) :
    Does Tryd.prog 7 #[prv a u s, prv b u' s'] w fun r w' => r = .bool true ∧ Ext w w' := by
  refine call_walk Tryd.func7 (by kernel_rfl) rfl Tryd.ntmps7 rfl ?_
  refine St0 ?_
  refine GL.box rfl rfl rfl rfl fun b2 w1 hb2 hB2 he1 => ?_
  refine GL.box rfl rfl rfl rfl fun b3 w2 hb3 hB3 he2 => ?_
  replace hB2 := hB2.ext he2
  have he12 := he1.trans he2
  refine St0 ?_
  refine GL.call rfl rfl rfl (vs := []) (alive9_call w2 (hK.ext he12)) ?_
  rintro r w3 ⟨rfl, he3⟩
  replace hB2 := hB2.ext he3
  replace hB3 := hB3.ext he3
  have e3 := he12.trans he3
  refine St1 (hB2.all) ?_
  refine GL.call rfl rfl rfl (great7_call a u s _ w3 (ha.ext e3)) ?_
  rintro r w4 ⟨rfl, he4⟩
  replace hB2 := hB2.ext he4
  replace hB3 := hB3.ext he4
  have e4 := e3.trans he4
  cases hga : decide (100 < a.val.length) || decide (300 < a.sides.length)
  case true =>
    refine St0 ?_
    exact G.ret1 rfl rfl rfl rfl ⟨rfl, e4⟩
  refine St1 (hB3.all) ?_
  refine GL.call rfl rfl rfl (great7_call b u' s' _ w4 (hb.ext e4)) ?_
  rintro r w5 ⟨rfl, he5⟩
  replace hB2 := hB2.ext he5
  replace hB3 := hB3.ext he5
  have e5 := e4.trans he5
  cases hgb : decide (100 < b.val.length) || decide (300 < b.sides.length)
  case true =>
    refine St0 ?_
    exact G.ret1 rfl rfl rfl rfl ⟨rfl, e5⟩
  have hav : a.val.length ≤ 100 ∧ a.sides.length ≤ 300 := by simpa using hga
  have hbv : b.val.length ≤ 100 ∧ b.sides.length ≤ 300 := by simpa using hgb
  obtain ⟨hk, _⟩ := pat hB2.all
  obtain ⟨hk', _⟩ := pat hB3.all
  by_cases hkk : a.key = b.key
  case neg =>
    refine St2 (hk) (hk') ?_
    exact G.ret1 rfl rfl rfl rfl ⟨rfl, e5⟩
  refine St4 (hk) (hk') (hB2.all) (hB3.all) ?_
  refine GL.call rfl rfl rfl (seek_call a b u s u' s' any any w5 (ha.ext e5) (hb.ext e5) (by omega) (by omega) (by omega) (by omega) (hK.ext e5)) ?_
  rintro r w6 ⟨vx, vy, rfl, hvx, hvy, he6⟩
  replace hB2 := hB2.ext he6
  replace hB3 := hB3.ext he6
  have e6 := e5.trans he6
  refine St1 (hB2.all) ?_
  refine GL.call rfl rfl rfl (vroot_call a u s _ w6 (ha.ext e6) (by omega) (by omega) (hK.ext e6)) ?_
  rintro r w7 ⟨rfl, he7⟩
  replace hB2 := hB2.ext he7
  replace hB3 := hB3.ext he7
  have e7 := e6.trans he7
  refine St0 ?_
  refine GL.alloc hT rfl rfl rfl fun b9 w8 hb9 hB9 he8 => ?_
  have l9 := hB9.lt
  have l2 := hB2.lt
  have l3 := hB3.lt
  have s7 := e7.size
  replace hB2 := hB2.ext he8
  replace hB3 := hB3.ext he8
  refine GL.storeVar hT rfl rfl rfl rfl rfl (Dig.len _) (Dig.one _) hB9 (by rw [Dig.len]; rfl) fun w9 hc9 hB9 => ?_
  replace hB2 := hB2.chg hc9 (by omega)
  replace hB3 := hB3.chg hc9 (by omega)
  have s8 := he8.size
  have s9 := hc9.size
  have e79 : Ext w7 w9 := hc9.below (by omega) he8
  have e9 := e7.trans e79
  refine St1 (hB3.all) ?_
  refine GL.call rfl rfl rfl (vroot_call b u' s' _ w9 (hb.ext e9) (by omega) (by omega) (hK.ext e9)) ?_
  rintro r w10 ⟨rfl, he10⟩
  replace hB2 := hB2.ext he10
  replace hB3 := hB3.ext he10
  replace hB9 := hB9.ext he10
  have e10 := e9.trans he10
  refine St0 ?_
  refine GL.alloc hT rfl rfl rfl fun b11 w11 hb11 hB11 he11 => ?_
  have l11 := hB11.lt
  have m2 := hB2.lt
  have m3 := hB3.lt
  have m9 := hB9.lt
  have s10 := e10.size
  replace hB2 := hB2.ext he11
  replace hB3 := hB3.ext he11
  replace hB9 := hB9.ext he11
  refine GL.storeVar hT rfl rfl rfl rfl rfl (Dig.len _) (Dig.one _) hB11 (by rw [Dig.len]; rfl) fun w12 hc12 hB11 => ?_
  replace hB2 := hB2.chg hc12 (by omega)
  replace hB3 := hB3.chg hc12 (by omega)
  replace hB9 := hB9.chg hc12 (by omega)
  have e1012 : Ext w10 w12 := hc12.below (by omega) he11
  have e12 := e10.trans e1012
  have e612 : Ext w6 w12 := he7.trans (e79.trans (he10.trans e1012))
  clear hc9 hc12 s8 s9 m2 m3 m9 l2 l3 l9 l11
  have e80 : badE false = 8 := rfl
  have e00 : badE true = 0 := rfl
  cases hma : mayB a
  · have hR : seekR a b = ([], [], 8) := by simp [seekR, hma]
    rw [show (((seekR a b).2.2 : Nat) : Int) = 8 by rw [hR]; rfl, e80]
    refine St0 ?_
    exact G.ret1 rfl rfl rfl rfl ⟨rfl, e12⟩
  cases hmb : mayB b
  · have hR : seekR a b = ([], [], 8) := by simp [seekR, hmb]
    rw [show (((seekR a b).2.2 : Nat) : Int) = 8 by rw [hR]; rfl, e80, e00]
    refine St0 ?_
    exact G.ret1 rfl rfl rfl rfl ⟨rfl, e12⟩
  rw [e00]
  refine St2 (hB2.all) (hB3.all) ?_
  refine GL.call rfl rfl rfl (lunlike_call a b u s u' s' _ _ w12 (ha.ext e12) (hb.ext e12) (by omega) (by omega)) ?_
  rintro r w13 ⟨rfl, he13⟩
  replace hB9 := hB9.ext he13
  replace hB11 := hB11.ext he13
  have e13 := e12.trans he13
  cases hun : unlikeB a b
  · have hR : seekR a b = ([], [], 2) := by simp [seekR, hma, hmb, hun]
    rw [show (((seekR a b).2.2 : Nat) : Int) = 2 by rw [hR]; rfl]
    refine St0 ?_
    exact G.ret1 rfl rfl rfl rfl ⟨rfl, e13⟩
  obtain ⟨x, y, hfd, hne, himp⟩ := seek_law hma hmb hkk hun
  have hR : seekR a b = (x, y, 0) := by simp [seekR, hma, hmb, hun, hkk, hfd]
  have hmem : ∀ {l m : List Bytes} {x y : Bytes}, firstDiff l m = some (x, y) → x ∈ l ∧ y ∈ m := by
    intro l
    induction l with
    | nil => intro m x y h; cases h
    | cons c l ih =>
      intro m x y h
      cases m with
      | nil => cases h
      | cons d m =>
        simp only [firstDiff] at h
        split at h
        · obtain ⟨h1, h2⟩ := ih h
          exact ⟨List.mem_cons_of_mem _ h1, List.mem_cons_of_mem _ h2⟩
        · cases h; exact ⟨List.mem_cons_self .., List.mem_cons_self ..⟩
  have hxl := fromL_small a (by omega : a.val.length ≤ 1000) 0 a.sides x (hmem hfd).1
  have hyl := fromL_small b (by omega : b.val.length ≤ 1000) 0 b.sides y (hmem hfd).2
  have hfa := fromL_small a (by omega : a.val.length ≤ 1000) 0 a.sides
  rw [hR] at hvx hvy
  rw [show (((seekR a b).2.2 : Nat) : Int) = 0 by rw [hR]; rfl]
  refine St0 ?_
  refine GL.call rfl rfl rfl (same_call vx vy x y _ _ w13 (RdB.ext hvx (e612.trans he13)) (RdB.ext hvy (e612.trans he13))) ?_
  rintro r w14 ⟨rfl, rfl⟩
  rw [show decide (x = y) = false by simpa using hne]
  by_cases hpq : rootV a = rootV b
  · have hxy := himp hpq
    refine St2 (hB9.all) (hB11.all) ?_
    refine GL.buildSlice [vx] hT rfl rfl rfl rfl rfl rfl rfl (fillL_one (RdF.some hvx) rfl (madeLen _ _)) fun b86 w15 hb86 hB86 he15 => ?_
    have e15 := e13.trans he15
    have hw615 := e612.trans (he13.trans he15)
    refine GL.call rfl rfl rfl (shaOf_call _ x any w15 (bs1 hB86 (RdB.ext hvx hw615)) (by omega) (hK.ext e15)) ?_
    rintro r w16 ⟨rfl, he16⟩
    refine St0 ?_
    refine GL.buildSlice [vy] hT rfl rfl rfl rfl rfl rfl rfl (fillL_one (RdF.some hvy) rfl (madeLen _ _)) fun b89 w17 hb89 hB89 he17 => ?_
    have e17 := e15.trans (he16.trans he17)
    refine GL.call rfl rfl rfl (shaOf_call _ y any w17 (bs1 hB89 (RdB.ext hvy (hw615.trans (he16.trans he17)))) (by omega) (hK.ext e17)) ?_
    rintro r w18 ⟨rfl, he18⟩
    rw [hxy]
    have hqq : shaD y = shaD y := rfl
    refine St0 ?_
    exact G.ret1 rfl rfl rfl rfl ⟨rfl, e17.trans he18⟩
  · refine St2 (hB9.all) (hB11.all) ?_
    exact G.ret1 rfl rfl rfl rfl ⟨rfl, e13⟩
end Go.Proofs.YtefneilaongpbaaDoor
