/-
  A clash: the first unlike pair of two lists; the program's search for it.
-/
import Derived.Test.YtefneilaongpbaaDoorVerD
set_option linter.unusedVariables false
set_option linter.unusedSimpArgs false
set_option maxRecDepth 100000
set_option maxHeartbeats 4000000
namespace Go.Bd
section
variable {P : Program} {fn : Func} {f : Fr} {w : World} {tt : List (Nat × Ti)} {n : Sz}
/-- Three results, each in a variable of one cell. -/
theorem run_result3c {t1 t2 t3 : Tmp} {y1 y2 y3 : TypeId} {i1 i2 i3 : Ti} {b1 b2 b3 : Nat} {v1 v2 v3 : Value} {S1 S2 S3 : Nat → Nat × Nat → Prop} (hT : Tys P tt) (h1 : TT.get tt y1 = some i1) (h2 : TT.get tt y2 = some i2) (h3 : TT.get tt y3 = some i3) (g1 : i1.desc.agg = false) (g2 : i2.desc.agg = false) (g3 : i3.desc.agg = false)
    (hr : fn.results = #[.cell t1 y1, .cell t2 y2, .cell t3 y3]) (x1 : Fr.get f t1 = some (ptr b1 0)) (x2 : Fr.get f t2 = some (ptr b2 0)) (x3 : Fr.get f t3 = some (ptr b3 0)) (A1 : At S1 w b1 0 [v1]) (A2 : At S2 w b2 0 [v2]) (A3 : At S3 w b3 0 [v3]) :
    ∀ a, St n f a → (results fn a.tmps).run P w = .ok (.tuple #[v1, v2, v3]) w := fun a ha => by
  have c1 : w.cell? ⟨b1, 0, none⟩ = some v1 := by have := A1.cell (j := 0) (v := v1) rfl; simpa using this
  have c2 : w.cell? ⟨b2, 0, none⟩ = some v2 := by have := A2.cell (j := 0) (v := v2) rfl; simpa using this
  have c3 : w.cell? ⟨b3, 0, none⟩ = some v3 := by have := A3.cell (j := 0) (v := v3) rfl; simpa using this
  have r1 := run_load1 (P := P) hT h1 g1 c1
  have r2 := run_load1 (P := P) hT h2 g2 c2
  have r3 := run_load1 (P := P) hT h3 g3 c3
  have e1 : a.tmps[t1]? = some (ptr b1 0) := ha.at_ t1 _ x1
  have e2 : a.tmps[t2]? = some (ptr b2 0) := ha.at_ t2 _ x2
  have e3 : a.tmps[t3]? = some (ptr b3 0) := ha.at_ t3 _ x3
  simp [results, hr, e1, e2, e3, asAddr, r1, r2, r3]
end
end Go.Bd
namespace Go.Proofs.YtefneilaongpbaaDoor
open Go Go.Bd Go.RowKit
attribute [local irreducible] G GL GQ GS shaD

/-! plain -/
def firstDiff : List Bytes → List Bytes → Option (Bytes × Bytes)
  | x :: xs, y :: ys => if x = y then firstDiff xs ys else some (x, y)
  | _, _ => none
theorem firstDiff_at : ∀ {xs ys : List Bytes} {i : Nat} {x y : Bytes}, (∀ j, j < i → xs[j]? = ys[j]?) → xs[i]? = some x → ys[i]? = some y → x ≠ y → firstDiff xs ys = some (x, y)
  | [], _, i, x, y, _, hx, _, _ => by simp at hx
  | _ :: _, [], i, x, y, _, _, hy, _ => by simp at hy
  | a :: xs, b :: ys, 0, x, y, _, hx, hy, hne => by
    simp only [List.getElem?_cons_zero, Option.some.injEq] at hx hy
    subst hx; subst hy
    simp [firstDiff, hne]
  | a :: xs, b :: ys, i + 1, x, y, h, hx, hy, hne => by
    have h0 := h 0 (by omega)
    simp only [List.getElem?_cons_zero, Option.some.injEq] at h0
    subst h0
    simp only [firstDiff, if_pos]
    exact firstDiff_at (i := i) (fun j hj => by have := h (j + 1) (by omega); simpa using this) (by simpa using hx) (by simpa using hy) hne
theorem firstDiff_none : ∀ {xs ys : List Bytes}, (∀ j, j < min xs.length ys.length → xs[j]? = ys[j]?) → firstDiff xs ys = none
  | [], _, _ => rfl
  | _ :: _, [], _ => rfl
  | a :: xs, b :: ys, h => by
    have h0 := h 0 (by simp)
    simp only [List.getElem?_cons_zero, Option.some.injEq] at h0
    subst h0
    simp only [firstDiff, if_pos]
    exact firstDiff_none fun j hj => by have := h (j + 1) (by simp at hj ⊢; omega); simpa using this
/-- Unlike things told. -/
def unlikeB (a b : Prf) : Bool := (toldB a != toldB b) || !decide (toldV a = toldV b)
def win (B U : Nat) : Where := fun b _ => B ≤ b ∧ b < U
theorem at_win {S : Where} {w : World} {b o : Nat} {vs : List Value} {B U : Nat} (h : At S w b o vs) (hS : ∀ b fr, S b fr → B ≤ b) (hU : w.heap.size ≤ U) : At (win B U) w b o vs := by
  obtain ⟨c, T, fr, h1, h2, h3⟩ := h
  exact ⟨c, T, fr, h1, ⟨hS _ _ h2, by have := (Array.getElem?_eq_some_iff.1 h1).1; omega⟩, h3⟩
theorem rdF_win {S : Where} {w : World} {v : Value} {n : Nat} {cs : List Value} {B U : Nat} (h : RdF S w v n cs) (hS : ∀ b fr, S b fr → B ≤ b) (hU : w.heap.size ≤ U) : RdF (win B U) w v n cs := by
  obtain ⟨p, c, hv, hc, h⟩ := h
  exact ⟨p, c, hv, hc, h.imp id fun ⟨b, o, hp, hA⟩ => ⟨b, o, hp, at_win hA hS hU⟩⟩
theorem rdBs_win {S : Where} {w : World} {v : Value} {xs : List Bytes} {B U : Nat} (h : RdBs S w v xs) (hS : ∀ b fr, S b fr → B ≤ b) (hU : w.heap.size ≤ U) : RdBs (win B U) w v xs := by
  obtain ⟨es, h1, h2⟩ := h
  exact ⟨es, h1.imp fun e x ⟨u, hu, hb⟩ => ⟨u, hu, rdF_win hb hS hU⟩, rdF_win h2 hS hU⟩

/-! the pairs of two lists -/
theorem both1_call (l : Nat) (va vb : Value) (xs ys : List Bytes) (b2 b3 : Nat) (S : Where) (I : Nat → World → Prop) (Fin : World → Prop) (w : World) (h0 : I 0 w) (hI : ∀ i w' w'', I i w' → Ext w' w'' → I i w'')
    (hB : ∀ i w', I i w' → At any w' b2 0 [va] ∧ At any w' b3 0 [vb] ∧ RdBs S w' va xs ∧ RdBs S w' vb ys) (hxl : xs.length ≤ 4294967296) (hyl : ys.length ≤ 4294967296)
    (hy : ∀ i w' u v x y, xs[i]? = some x → ys[i]? = some y → RdB S w' u x → RdB S w' v y → I i w' → YieldC Tryd.prog l [u, v] w' (fun r w'' => (r = .bool true ∧ I (i + 1) w'') ∨ (r = .bool false ∧ Fin w''))) :
    Does Tryd.prog 150 #[yieldv l, ptr b2 0, ptr b3 0] w fun r w' => I (min xs.length ys.length) w' ∨ Fin w' := by
  refine call_walk Tryd.func150 (by kernel_rfl) rfl Tryd.ntmps150 rfl ?_
  obtain ⟨hA, hA', hx, hy'⟩ := hB 0 w h0
  obtain ⟨p, c, rfl, hc⟩ := hx.isSlice
  obtain ⟨p', c', rfl, hc'⟩ := hy'.isSlice
  have hmin : (if (ys.length : Int) < (xs.length : Int) then (ys.length : Int) else (xs.length : Int)) = ((min xs.length ys.length : Nat) : Int) := by split <;> omega
  refine St2 (hA) (hA') ?_
  refine GL.min rfl rfl rfl rfl ?_
  rw [hmin]
  generalize hN : min xs.length ys.length = N
  refine St0 ?_
  refine G.sub (f' := [(10, iv ((0 : Nat) : Int)), (9, iv (N : Nat)), (0, yieldv l), (1, ptr b2 0), (2, ptr b3 0)]) (by (repeat (first | exact Fr.sub_nil _ | refine Fr.sub_cons rfl ?_))) ?_
  refine G.rounds (α := Nat) (fun i f w' => i ≤ N ∧ I i w' ∧ f = [(10, iv i), (9, iv (N : Nat)), (0, yieldv l), (1, ptr b2 0), (2, ptr b3 0)]) (fun i => N - i) ?round 0 ⟨by omega, h0, rfl⟩
  rintro i f w2 ⟨hi, hIi, rfl⟩ again
  by_cases hlt : (i : Int) < N
  · obtain ⟨x, hxi⟩ : ∃ x, xs[i]? = some x := ⟨_, List.getElem?_eq_getElem (by omega)⟩
    obtain ⟨y, hyy⟩ : ∃ y, ys[i]? = some y := ⟨_, List.getElem?_eq_getElem (by omega)⟩
    obtain ⟨hA, hA', hxr, hyr⟩ := hB i w2 hIi
    obtain ⟨b, o, c2, u, hv, hu, hAu⟩ := hxr.elem hxi
    obtain ⟨b', o', c2', v, hv', hv2, hAv⟩ := hyr.elem hyy
    cases hv
    cases hv'
    refine St0 ?_
    refine G.quietTail 9 follows (by kernel_rfl) (by kernel_rfl) (by kernel_rfl) (by kernel_rfl) ?_
    refine QSt1 (hA) ?_
    (refine GQ.indexSlice (i) 1 ((o + i)) hT rfl rfl rfl rfl rfl rfl rfl rfl ?_ ?_ ?_ ?_; (focus omega); (focus omega); (focus omega))
    refine QSt2 (hAu) (hA') ?_
    (refine GQ.indexSlice (i) 1 ((o' + i)) hT rfl rfl rfl rfl rfl rfl rfl rfl ?_ ?_ ?_ ?_; (focus omega); (focus omega); (focus omega))
    refine QSt1 (hAv) ?_
    refine GQ.tail fun w3 he3 => ?_
    refine GL.yieldc rfl rfl rfl rfl (hy i w3 u v x y hxi hyy (RdB.ext hu he3) (RdB.ext hv2 he3) (hI i w2 w3 hIi he3)) ?_
    rintro r w4 (⟨rfl, h4⟩ | ⟨rfl, h4⟩)
    · refine St0 ?_
      exact G.sub (by (repeat (first | exact Fr.sub_nil _ | refine Fr.sub_cons rfl ?_))) (again (i + 1) _ _ (by omega) ⟨by omega, h4, rfl⟩)
    · refine St0 ?_
      exact G.ret0 rfl rfl rfl (.inr h4)
  · obtain rfl : i = N := by omega
    refine St0 ?_
    exact G.end0 rfl rfl rfl (.inl hIi)

theorem unlike_eq (a b : Prf) : unlikeB a b = ((toldB a != toldB b) || !decide (toldV a = toldV b)) := rfl
theorem cunlike_call (a b : Prf) (u s u' s' : Value) (S S' : Where) (w : World) (ha : PrfM S w a u s) (hb : PrfM S' w b u' s') (hal : a.val.length ≤ 1000) (hbl : b.val.length ≤ 1000) :
    Does Tryd.prog 103 #[prv a u s, prv b u' s'] w fun r w' => r = .bool (decide (a.key = b.key) && unlikeB a b) ∧ Ext w w' := by
  refine call_walk Tryd.func103 (by kernel_rfl) rfl Tryd.ntmps103 rfl ?_
  refine St0 ?_
  refine GL.box rfl rfl rfl rfl fun b2 w1 hb2 hB2 he1 => ?_
  refine GL.box rfl rfl rfl rfl fun b3 w2 hb3 hB3 he2 => ?_
  replace hB2 := hB2.ext he2
  have he12 := he1.trans he2
  refine St1 (hB2.all) ?_
  refine GL.call rfl rfl rfl (told_call a u s _ w2 (ha.ext he12) (by omega)) ?_
  rintro r w3 ⟨va, rfl, hva, he3⟩
  replace hB2 := hB2.ext he3
  replace hB3 := hB3.ext he3
  refine St1 (hB3.all) ?_
  refine GL.call rfl rfl rfl (told_call b u' s' _ w3 (hb.ext (he12.trans he3)) (by omega)) ?_
  rintro r w4 ⟨vb, rfl, hvb, he4⟩
  replace hB2 := hB2.ext he4
  replace hB3 := hB3.ext he4
  replace hva := hva.ext he4
  have e4 := he12.trans (he3.trans he4)
  obtain ⟨hk, _⟩ := pat hB2.all
  obtain ⟨hk', _⟩ := pat hB3.all
  have hvl : (toldV a).length ≤ 4294967296 := by
    unfold toldV
    split
    · omega
    · simp
  by_cases hkk : a.key = b.key
  · refine St2 (hk) (hk') ?_
    cases ht : toldB a <;> cases ht' : toldB b
    · --
      refine St0 ?_
      refine GL.call rfl rfl rfl (equalB_call va vb _ _ _ _ w4 hva.fresh hvb.fresh hvl) ?_
      rintro r w5 ⟨rfl, he5⟩
      cases hd : decide (toldV a = toldV b)
      · refine St0 ?_
        exact G.ret1 rfl rfl rfl rfl ⟨by simp [hkk, unlike_eq, ht, ht', hd], e4.trans he5⟩
      · refine St0 ?_
        exact G.ret1 rfl rfl rfl rfl ⟨by simp [hkk, unlike_eq, ht, ht', hd], e4.trans he5⟩
    · refine St0 ?_
      exact G.ret1 rfl rfl rfl rfl ⟨by simp [hkk, unlike_eq, ht, ht'], e4⟩
    · refine St0 ?_
      exact G.ret1 rfl rfl rfl rfl ⟨by simp [hkk, unlike_eq, ht, ht'], e4⟩
    · --
      refine St0 ?_
      refine GL.call rfl rfl rfl (equalB_call va vb _ _ _ _ w4 hva.fresh hvb.fresh hvl) ?_
      rintro r w5 ⟨rfl, he5⟩
      cases hd : decide (toldV a = toldV b)
      · refine St0 ?_
        exact G.ret1 rfl rfl rfl rfl ⟨by simp [hkk, unlike_eq, ht, ht', hd], e4.trans he5⟩
      · refine St0 ?_
        exact G.ret1 rfl rfl rfl rfl ⟨by simp [hkk, unlike_eq, ht, ht', hd], e4.trans he5⟩
  · refine St2 (hk) (hk') ?_
    exact G.ret1 rfl rfl rfl rfl ⟨by simp [hkk], e4⟩
theorem lunlike_call (a b : Prf) (u s u' s' : Value) (S S' : Where) (w : World) (ha : PrfM S w a u s) (hb : PrfM S' w b u' s') (hal : a.val.length ≤ 1000) (hbl : b.val.length ≤ 1000) :
    Does Tryd.prog 47 #[prv a u s, prv b u' s'] w fun r w' => r = .bool (unlikeB a b) ∧ Ext w w' := by
  refine call_walk Tryd.func47 (by kernel_rfl) rfl Tryd.ntmps47 rfl ?_
  refine St0 ?_
  refine GL.box rfl rfl rfl rfl fun b2 w1 hb2 hB2 he1 => ?_
  refine GL.box rfl rfl rfl rfl fun b3 w2 hb3 hB3 he2 => ?_
  replace hB2 := hB2.ext he2
  have he12 := he1.trans he2
  refine St1 (hB2.all) ?_
  refine GL.call rfl rfl rfl (told_call a u s _ w2 (ha.ext he12) (by omega)) ?_
  rintro r w3 ⟨va, rfl, hva, he3⟩
  replace hB2 := hB2.ext he3
  replace hB3 := hB3.ext he3
  refine St1 (hB3.all) ?_
  refine GL.call rfl rfl rfl (told_call b u' s' _ w3 (hb.ext (he12.trans he3)) (by omega)) ?_
  rintro r w4 ⟨vb, rfl, hvb, he4⟩
  replace hB2 := hB2.ext he4
  replace hB3 := hB3.ext he4
  replace hva := hva.ext he4
  have e4 := he12.trans (he3.trans he4)
  cases ht : toldB a <;> cases ht' : toldB b
  · --
    refine St0 ?_
    refine GL.call rfl rfl rfl (same_call va vb _ _ _ _ w4 hva.fresh hvb.fresh) ?_
    rintro r w5 ⟨rfl, rfl⟩
    cases hd : decide (toldV a = toldV b)
    · refine St0 ?_
      exact G.ret1 rfl rfl rfl rfl ⟨by simp [unlike_eq, ht, ht', hd], e4⟩
    · refine St0 ?_
      exact G.ret1 rfl rfl rfl rfl ⟨by simp [unlike_eq, ht, ht', hd], e4⟩
  · refine St0 ?_
    exact G.ret1 rfl rfl rfl rfl ⟨by simp [unlike_eq, ht, ht'], e4⟩
  · refine St0 ?_
    exact G.ret1 rfl rfl rfl rfl ⟨by simp [unlike_eq, ht, ht'], e4⟩
  · --
    refine St0 ?_
    refine GL.call rfl rfl rfl (same_call va vb _ _ _ _ w4 hva.fresh hvb.fresh) ?_
    rintro r w5 ⟨rfl, rfl⟩
    cases hd : decide (toldV a = toldV b)
    · refine St0 ?_
      exact G.ret1 rfl rfl rfl rfl ⟨by simp [unlike_eq, ht, ht', hd], e4⟩
    · refine St0 ?_
      exact G.ret1 rfl rfl rfl rfl ⟨by simp [unlike_eq, ht, ht', hd], e4⟩

theorem both_call (p p' : Option Addr) (m c m' c' : Nat) (w : World) :
    Does Tryd.prog 104 #[.slice p m c, .slice p' m' c'] w fun r w' => ∃ b2 b3, r = .func (.func 150) #[] #[ptr b2 0, ptr b3 0] ∧ Blk w' b2 38 [.slice p m c] ∧ Blk w' b3 38 [.slice p' m' c'] ∧ w.heap.size ≤ b2 ∧ w.heap.size ≤ b3 ∧ Ext w w' := by
  refine call_walk Tryd.func104 (by kernel_rfl) rfl Tryd.ntmps104 rfl ?_
  refine St0 ?_
  refine GL.box (vs := [.slice p m c]) rfl rfl rfl rfl fun b2 w1 hb2 hB2 he1 => ?_
  refine GL.box (vs := [.slice p' m' c']) rfl rfl rfl rfl fun b3 w2 hb3 hB3 he2 => ?_
  have s1 := he1.size
  refine St0 ?_
  exact G.ret1 rfl rfl rfl rfl ⟨b2, b3, rfl, hB2.ext he2, hB3, by omega, by omega, he1.trans he2⟩
noncomputable def seekR (a b : Prf) : Bytes × Bytes × Nat :=
  if mayB a && mayB b then (if decide (a.key = b.key) && unlikeB a b then (match firstDiff (fromP a) (fromP b) with | some (x, y) => (x, y, 0) | none => ([], [], 2)) else ([], [], 2)) else ([], [], 8)
theorem seek_call (a b : Prf) (u s u' s' : Value) (S S' : Where) (w : World) (ha : PrfM S w a u s) (hb : PrfM S' w b u' s') (hal : a.val.length ≤ 1000) (hbl : b.val.length ≤ 1000) (has : a.sides.length ≤ 300) (hbs : b.sides.length ≤ 300) (hK : Kt w) :
    Does Tryd.prog 46 #[prv a u s, prv b u' s'] w fun r w' => ∃ vx vy, r = .tuple #[vx, vy, iv (seekR a b).2.2] ∧ RdB any w' vx (seekR a b).1 ∧ RdB any w' vy (seekR a b).2.1 ∧ Ext w w' := by
  refine call_walk Tryd.func46 (by kernel_rfl) rfl Tryd.ntmps46 rfl ?_
  refine St0 ?_
  refine GL.box rfl rfl rfl rfl fun b2 w1 hb2 hB2 he1 => ?_
  refine GL.box rfl rfl rfl rfl fun b3 w2 hb3 hB3 he2 => ?_
  refine GL.alloc hT rfl rfl rfl fun b4 w3 hb4 hB4 he3 => ?_
  refine GL.alloc hT rfl rfl rfl fun b5 w4 hb5 hB5 he4 => ?_
  refine GL.alloc hT rfl rfl rfl fun b6 w5 hb6 hB6 he5 => ?_
  have q2 := hB2.lt
  have q3 := hB3.lt
  have q4 := hB4.lt
  have q5 := hB5.lt
  replace hB2 := hB2.ext he2
  replace hB2 := hB2.ext he3
  replace hB3 := hB3.ext he3
  replace hB2 := hB2.ext he4
  replace hB3 := hB3.ext he4
  replace hB4 := hB4.ext he4
  replace hB2 := hB2.ext he5
  replace hB3 := hB3.ext he5
  replace hB4 := hB4.ext he5
  replace hB5 := hB5.ext he5
  have e5 := he1.trans (he2.trans (he3.trans (he4.trans he5)))
  have s1 := he1.size
  have s2 := he2.size
  have s3 := he3.size
  have s4 := he4.size
  have s5 := he5.size
  have l6 := hB6.lt
  refine St0 ?_
  refine GL.loadN hT rfl rfl rfl rfl rfl hB2.all (pcells_len a u s) ?_
  refine GL.call rfl rfl rfl (inputs_call a u s _ w5 (ha.ext e5) hal has (hK.ext e5)) ?_
  rintro r w6 ⟨va, rfl, hva, he6⟩
  replace hB2 := hB2.ext he6
  replace hB3 := hB3.ext he6
  replace hB4 := hB4.ext he6
  replace hB5 := hB5.ext he6
  replace hB6 := hB6.ext he6
  have s6 := he6.size
  refine St0 ?_
  refine GL.store1 hT rfl rfl rfl rfl rfl rfl rfl hB6 (by show 0 < 1; omega) fun w7 hc7 hB6 => ?_
  replace hB6 : Blk w7 b6 26 [iv (badE (mayB a))] := hB6
  have n4 : b4 ≠ b6 := by omega
  have n5 : b5 ≠ b6 := by omega
  have n45 : b4 ≠ b5 := by omega
  replace hB2 := hB2.chg hc7 (by omega)
  replace hB3 := hB3.chg hc7 (by omega)
  replace hB4 := hB4.chg hc7 n4
  replace hB5 := hB5.chg hc7 n5
  have s7 := hc7.size
  have e7 : Ext w w7 := hc7.below (by omega) (e5.trans he6)
  have hwa : RdBs (win w5.heap.size w6.heap.size) w6 va (inputsP a) := rdBs_win hva.rd (fun b fr h => h.1) (Nat.le_refl _)
  replace hwa := hwa.keep (w' := w7) fun b fr h => hc7.block b (by have := h.1; omega)
  refine St1 (hB3.all) ?_
  refine GL.call rfl rfl rfl (inputs_call b u' s' _ w7 (hb.ext e7) hbl hbs (hK.ext e7)) ?_
  rintro r w8 ⟨vb, rfl, hvb, he8⟩
  replace hB2 := hB2.ext he8
  replace hB3 := hB3.ext he8
  replace hB4 := hB4.ext he8
  replace hB5 := hB5.ext he8
  replace hB6 := hB6.ext he8
  replace hwa := hwa.ext he8
  have s8 := he8.size
  have e8 := e7.trans he8
  have hwb : RdBs (win w5.heap.size w8.heap.size) w8 vb (inputsP b) := rdBs_win hvb.rd (fun b fr h => by have := h.1; omega) (Nat.le_refl _)
  replace hwa : RdBs (win w5.heap.size w8.heap.size) w8 va (inputsP a) := hwa.imp fun b fr h => ⟨h.1, by have := h.2; omega⟩
  clear he1 he2 he3 he4 he5 he6 he8 hc7 hva hvb q2 q3 q4 q5
  cases hma : mayB a
  · have hR : seekR a b = ([], [], 8) := by simp [seekR, hma]
    have e1 : badE false = 8 := rfl
    rw [hma, e1] at hB6
    refine St1 (hB6.all) ?_
    refine St0 ?_
    refine GL.store1 hT rfl rfl rfl rfl rfl rfl rfl hB4 (by show 0 < 1; omega) fun w9 hc9 hB4 => ?_
    replace hB5 := hB5.chg hc9 (fun e => n45 e.symm)
    replace hB6 := hB6.chg hc9 (fun e => n4 e.symm)
    refine GL.store1 hT rfl rfl rfl rfl rfl rfl rfl hB5 (by show 0 < 1; omega) fun w10 hc10 hB5 => ?_
    replace hB4 := hB4.chg hc10 n45
    replace hB6 := hB6.chg hc10 (fun e => n5 e.symm)
    refine GL.store1 hT rfl rfl rfl rfl rfl rfl rfl hB6 (by show 0 < 1; omega) fun w11 hc11 hB6 => ?_
    replace hB4 := hB4.chg hc11 n4
    replace hB5 := hB5.chg hc11 n5
    refine St0 ?_
    exact G.ret_of rfl rfl (run_result3c hT rfl rfl rfl rfl rfl rfl rfl rfl rfl rfl hB4.all hB5.all hB6.all) ⟨_, _, by rw [hR]; rfl, by rw [hR]; exact RdF.nil _ _ _ _, by rw [hR]; exact RdF.nil _ _ _ _, hc11.below (by omega) (hc10.below (by omega) (hc9.below (by omega) e8))⟩
  have e0 : badE true = 0 := rfl
  rw [hma, e0] at hB6
  cases hmb : mayB b
  · have hR : seekR a b = ([], [], 8) := by simp [seekR, hmb]
    have e1 : badE false = 8 := rfl
    rw [e1]
    refine St1 (hB6.all) ?_
    refine St0 ?_
    refine GL.store1 hT rfl rfl rfl rfl rfl rfl rfl hB4 (by show 0 < 1; omega) fun w9 hc9 hB4 => ?_
    replace hB5 := hB5.chg hc9 (fun e => n45 e.symm)
    replace hB6 := hB6.chg hc9 (fun e => n4 e.symm)
    refine GL.store1 hT rfl rfl rfl rfl rfl rfl rfl hB5 (by show 0 < 1; omega) fun w10 hc10 hB5 => ?_
    replace hB4 := hB4.chg hc10 n45
    replace hB6 := hB6.chg hc10 (fun e => n5 e.symm)
    refine GL.store1 hT rfl rfl rfl rfl rfl rfl rfl hB6 (by show 0 < 1; omega) fun w11 hc11 hB6 => ?_
    replace hB4 := hB4.chg hc11 n4
    replace hB5 := hB5.chg hc11 n5
    refine St0 ?_
    exact G.ret_of rfl rfl (run_result3c hT rfl rfl rfl rfl rfl rfl rfl rfl rfl rfl hB4.all hB5.all hB6.all) ⟨_, _, by rw [hR]; rfl, by rw [hR]; exact RdF.nil _ _ _ _, by rw [hR]; exact RdF.nil _ _ _ _, hc11.below (by omega) (hc10.below (by omega) (hc9.below (by omega) e8))⟩
  rw [e0]
  refine St1 (hB6.all) ?_
  refine GL.loadN hT rfl rfl rfl rfl rfl hB2.all (pcells_len a u s) ?_
  refine GL.loadN hT rfl rfl rfl rfl rfl hB3.all (pcells_len b u' s') ?_
  refine GL.call rfl rfl rfl (cunlike_call a b u s u' s' _ _ w8 (ha.ext e8) (hb.ext e8) hal hbl) ?_
  rintro r w12 ⟨rfl, he12⟩
  replace hB2 := hB2.ext he12
  replace hB3 := hB3.ext he12
  replace hB4 := hB4.ext he12
  replace hB5 := hB5.ext he12
  replace hB6 := hB6.ext he12
  replace hwa := hwa.ext he12
  replace hwb := hwb.ext he12
  have s12 := he12.size
  have e12 := e8.trans he12
  cases hun : decide (a.key = b.key) && unlikeB a b
  · have hR : seekR a b = ([], [], 2) := by simp only [seekR, hma, hmb, hun]; rfl
    refine St0 ?_
    refine GL.store1 hT rfl rfl rfl rfl rfl rfl rfl hB4 (by show 0 < 1; omega) fun w9 hc9 hB4 => ?_
    replace hB5 := hB5.chg hc9 (fun e => n45 e.symm)
    replace hB6 := hB6.chg hc9 (fun e => n4 e.symm)
    refine GL.store1 hT rfl rfl rfl rfl rfl rfl rfl hB5 (by show 0 < 1; omega) fun w10 hc10 hB5 => ?_
    replace hB4 := hB4.chg hc10 n45
    replace hB6 := hB6.chg hc10 (fun e => n5 e.symm)
    refine GL.store1 hT rfl rfl rfl rfl rfl rfl rfl hB6 (by show 0 < 1; omega) fun w11 hc11 hB6 => ?_
    replace hB4 := hB4.chg hc11 n4
    replace hB5 := hB5.chg hc11 n5
    refine St0 ?_
    exact G.ret_of rfl rfl (run_result3c hT rfl rfl rfl rfl rfl rfl rfl rfl rfl rfl hB4.all hB5.all hB6.all) ⟨_, _, by rw [hR]; rfl, by rw [hR]; exact RdF.nil _ _ _ _, by rw [hR]; exact RdF.nil _ _ _ _, hc11.below (by omega) (hc10.below (by omega) (hc9.below (by omega) e12))⟩
  have hin : inputsP a = fromP a := by rw [inputsP, hma]; rfl
  have hinb : inputsP b = fromP b := by rw [inputsP, hmb]; rfl
  rw [hin] at hwa
  rw [hinb] at hwb
  have hla : (fromP a).length ≤ 301 := by rw [fromP, fromL_len]; omega
  have hlb : (fromP b).length ≤ 301 := by rw [fromP, fromL_len]; omega
  have hva0 : ∀ x ∈ fromP a, x.length ≤ 2000 := fromL_small a hal 0 a.sides
  obtain ⟨pa, ca, rfl, hca⟩ := hwa.isSlice
  obtain ⟨pb, cb, rfl, hcb⟩ := hwb.isSlice
  refine St0 ?_
  refine GL.call rfl rfl rfl (both_call _ _ _ _ _ _ w12) ?_
  rintro r w13 ⟨c2, c3, rfl, hC2, hC3, hc2, hc3, he13⟩
  replace hB4 := hB4.ext he13
  replace hB5 := hB5.ext he13
  replace hB6 := hB6.ext he13
  replace hwa := hwa.ext he13
  replace hwb := hwb.ext he13
  have s13 := he13.size
  have e13 := e12.trans he13
  have lc2 := hC2.lt
  have lc3 := hC3.lt
  have l4 := hB4.lt
  have l5 := hB5.lt
  have l6' := hB6.lt
  have hz : w.heap.size ≤ w13.heap.size := e13.size
  clear he12 he13 e12 e8 e7
  refine St0 ?_
  refine G.rangeFunc (Θ := fun L _ w' => (Below w13.heap.size w13 w' ∧ L.At w' .ready none ∧ NoDefers w' L.r ∧ ∀ j, j < min (fromP a).length (fromP b).length → (fromP a)[j]? = (fromP b)[j]?) ∨
    (Below w.heap.size w w' ∧ L.At w' .done (some .ret) ∧ NoDefers w' L.r ∧ ∃ u v x y, Blk w' b4 32 [u] ∧ Blk w' b5 32 [v] ∧ Blk w' b6 26 [iv 0] ∧ RdB (win w5.heap.size w8.heap.size) w' u x ∧ RdB (win w5.heap.size w8.heap.size) w' v y ∧ firstDiff (fromP a) (fromP b) = some (x, y))) rfl rfl ?hit ?hk
  case hit =>
    intro L w14 hD hps has' hbo hr hl he14 hLat hnd
    have s14 := he14.size
    have lL := hLat.lt
    have hc := both1_call L.l _ _ (fromP a) (fromP b) c2 c3 (win w5.heap.size w8.heap.size) (fun i w' => Below w13.heap.size w13 w' ∧ L.At w' .ready none ∧ NoDefers w' L.r ∧ ∀ j, j < i → (fromP a)[j]? = (fromP b)[j]?)
      (fun w' => Below w.heap.size w w' ∧ L.At w' .done (some .ret) ∧ NoDefers w' L.r ∧ ∃ u v x y, Blk w' b4 32 [u] ∧ Blk w' b5 32 [v] ∧ Blk w' b6 26 [iv 0] ∧ RdB (win w5.heap.size w8.heap.size) w' u x ∧ RdB (win w5.heap.size w8.heap.size) w' v y ∧ firstDiff (fromP a) (fromP b) = some (x, y)) w14
      ⟨he14, hLat, hnd, fun j hj => by omega⟩
      (fun i w' w'' ⟨h1, h2, h3, h4⟩ he => ⟨Below.trans h1 (Below.mono he h1.size), h2.ext he, h3.ext he, h4⟩)
      (fun i w' ⟨h1, _, _, _⟩ => ⟨(hC2.ext h1).all, (hC3.ext h1).all, hwa.ext h1, hwb.ext h1⟩) (by omega) (by omega) ?_
    · exact hc.mono fun v w' h => h
    · intro i w15 ux vy x y hx hy hux hvy ⟨h15, hL15, hn15, heq⟩
      have lL15 := hL15.lt
      have s15 := h15.size
      refine Lo.yield (L := L) hL15 hD ?_ ?_ ?_
      · rw [hps]; rfl
      · rw [hps]; rfl
      rw [hps, has', hbo]
      obtain ⟨pu, cu, rfl, hcu⟩ := RdF.isSlice hux
      obtain ⟨pv', cv, rfl, hcv⟩ := RdF.isSlice hvy
      refine St0 ?_
      refine G.beginRound rfl hL15 fun w16 hc16 hL16 => ?_
      have hux16 : RdB (win w5.heap.size w8.heap.size) w16 _ x := RdB.keep hux (w' := w16) fun b fr h => hc16.block b (by have := h.2; omega)
      have hvy16 : RdB (win w5.heap.size w8.heap.size) w16 _ y := RdB.keep hvy (w' := w16) fun b fr h => hc16.block b (by have := h.2; omega)
      have hn16 := hn15.chg hc16 (by omega)
      have s16 := hc16.size
      have h16 : Below w13.heap.size w13 w16 := hc16.below (by omega) h15
      have hxl := hva0 x (List.mem_of_getElem? hx)
      refine St0 ?_
      refine GL.call rfl rfl rfl (equalB_call _ _ x y _ _ w16 hux16 hvy16 (by omega)) ?_
      rintro r w17 ⟨rfl, he17⟩
      have s17 := he17.size
      have hL17 := hL16.ext he17
      have hn17 := hn16.ext he17
      have h17 : Below w13.heap.size w13 w17 := Below.trans h16 (Below.mono he17 h16.size)
      by_cases hxy : x = y
      · rw [show decide (x = y) = true by simpa using hxy]
        refine St0 ?_
        refine G.roundEnd (L := L) rfl hL17 fun w18 hc18 hL18 => .inl ⟨rfl, hc18.below (by omega) h17, hL18, hn17.chg hc18 (by omega), fun j hj => ?_⟩
        rcases Nat.lt_or_eq_of_le (Nat.lt_succ_iff.1 hj) with h1 | h1
        · exact heq j h1
        · subst h1; rw [hx, hy, hxy]
      · rw [show decide (x = y) = false by simpa using hxy]
        have hfd := firstDiff_at heq hx hy hxy
        have hB4' := hB4.ext h17
        have hB5' := hB5.ext h17
        have hB6' := hB6.ext h17
        have hux17 := RdB.ext hux16 he17
        have hvy17 := RdB.ext hvy16 he17
        refine St0 ?_
        refine GL.store1 hT rfl rfl rfl rfl rfl rfl rfl hB4' (by show 0 < 1; omega) fun w18 hc18 hB4' => ?_
        replace hB5' := hB5'.chg hc18 (fun e => n45 e.symm)
        replace hB6' := hB6'.chg hc18 (fun e => n4 e.symm)
        refine GL.store1 hT rfl rfl rfl rfl rfl rfl rfl hB5' (by show 0 < 1; omega) fun w19 hc19 hB5' => ?_
        replace hB4' := hB4'.chg hc19 n45
        replace hB6' := hB6'.chg hc19 (fun e => n5 e.symm)
        refine GL.store1 hT rfl rfl rfl rfl rfl rfl rfl hB6' (by show 0 < 1; omega) fun w20 hc20 hB6' => ?_
        replace hB4' := hB4'.chg hc20 n4
        replace hB5' := hB5'.chg hc20 n5
        have hk20 : ∀ b, b ≠ b4 → b ≠ b5 → b ≠ b6 → w20.heap[b]? = w17.heap[b]? := fun b x1 x2 x3 => (hc20.block b x3).trans ((hc19.block b x2).trans (hc18.block b x1))
        have hL20 := hL17.keep (hk20 _ (by omega) (by omega) (by omega))
        have hn20 : NoDefers w20 L.r := ((hn17.chg hc18 (by omega)).chg hc19 (by omega)).chg hc20 (by omega)
        have h20 : Below w.heap.size w w20 := hc20.below (by omega) (hc19.below (by omega) (hc18.below (by omega) (Below.trans e13 (Below.mono h17 hz))))
        refine St0 ?_
        refine G.roundRet (L := L) rfl hL20 fun w21 hc21 hL21 => .inr ⟨rfl, hc21.below (by omega) h20, hL21, hn20.chg hc21 (by omega), _, _, x, y, hB4'.chg hc21 (by omega), hB5'.chg hc21 (by omega), hB6'.chg hc21 (by omega), ?_, ?_, hfd⟩
        · exact (RdB.keep hux17 (w' := w21) fun b fr h => (hc21.block b (by have := h.2; omega)).trans (hk20 b (by have := h.1; omega) (by have := h.1; omega) (by have := h.1; omega)))
        · exact (RdB.keep hvy17 (w' := w21) fun b fr h => (hc21.block b (by have := h.2; omega)).trans (hk20 b (by have := h.1; omega) (by have := h.1; omega) (by have := h.1; omega)))
  case hk =>
    rintro L v w14 hr hl (⟨h14, hLat, hnd, heq⟩ | ⟨h14, hLat, hnd, ux, vy, x, y, hB4', hB5', hB6', hux, hvy, hfd⟩)
    · refine ⟨.ready, none, hLat, by simp, fun w15 hc15 => ?_⟩
      have hR : seekR a b = ([], [], 2) := by simp only [seekR, hma, hmb, hun, firstDiff_none heq]; rfl
      have s14 := h14.size
      replace hB4 := (hB4.ext h14).chg hc15 (by omega)
      replace hB5 := (hB5.ext h14).chg hc15 (by omega)
      replace hB6 := (hB6.ext h14).chg hc15 (by omega)
      replace hnd := hnd.chg hc15 (by omega)
      have e15 : Below w.heap.size w w15 := hc15.below (by omega) (Below.trans e13 (Below.mono h14 hz))
      refine St0 ?_
      refine GL.store1 hT rfl rfl rfl rfl rfl rfl rfl hB4 (by show 0 < 1; omega) fun w18 hc18 hB4 => ?_
      replace hB5 := hB5.chg hc18 (fun e => n45 e.symm)
      replace hB6 := hB6.chg hc18 (fun e => n4 e.symm)
      refine GL.store1 hT rfl rfl rfl rfl rfl rfl rfl hB5 (by show 0 < 1; omega) fun w19 hc19 hB5 => ?_
      replace hB4 := hB4.chg hc19 n45
      replace hB6 := hB6.chg hc19 (fun e => n5 e.symm)
      refine GL.store1 hT rfl rfl rfl rfl rfl rfl rfl hB6 (by show 0 < 1; omega) fun w20 hc20 hB6 => ?_
      replace hB4 := hB4.chg hc20 n4
      replace hB5 := hB5.chg hc20 n5
      replace hnd := ((hnd.chg hc18 (by omega)).chg hc19 (by omega)).chg hc20 (by omega)
      have e20 : Below w.heap.size w w20 := hc20.below (by omega) (hc19.below (by omega) (hc18.below (by omega) e15))
      refine St0 ?_
      refine G.ret_coll rfl rfl hnd (fun a' w21 ha hc => run_result3c hT rfl rfl rfl rfl rfl rfl rfl rfl rfl rfl (hB4.chg hc (by omega)).all (hB5.chg hc (by omega)).all (hB6.chg hc (by omega)).all a' ha) fun w21 hc21 => ⟨_, _, by rw [hR]; rfl, by rw [hR]; exact RdF.nil _ _ _ _, by rw [hR]; exact RdF.nil _ _ _ _, hc21.below (by omega) e20⟩
    · refine ⟨.done, some .ret, hLat, by simp, fun w15 hc15 => ?_⟩
      have hR : seekR a b = (x, y, 0) := by simp only [seekR, hma, hmb, hun, hfd]; rfl
      replace hB4' := hB4'.chg hc15 (by omega)
      replace hB5' := hB5'.chg hc15 (by omega)
      replace hB6' := hB6'.chg hc15 (by omega)
      replace hnd := hnd.chg hc15 (by omega)
      have e15 : Below w.heap.size w w15 := hc15.below (by omega) h14
      show G _ _ _ _ (.code .ret :: _) _ _
      refine G.ret_coll rfl rfl hnd (fun a' w21 ha hc => run_result3c hT rfl rfl rfl rfl rfl rfl rfl rfl rfl rfl (hB4'.chg hc (by omega)).all (hB5'.chg hc (by omega)).all (hB6'.chg hc (by omega)).all a' ha) fun w21 hc21 => ⟨_, _, by rw [hR]; rfl, ?_, ?_, hc21.below (by omega) e15⟩
      · rw [hR]
        exact (RdB.keep hux (w' := w21) fun b fr h => (hc21.block b (by have := h.2; omega)).trans (hc15.block b (by have := h.2; omega))).imp fun _ _ _ => trivial
      · rw [hR]
        exact (RdB.keep hvy (w' := w21) fun b fr h => (hc21.block b (by have := h.2; omega)).trans (hc15.block b (by have := h.2; omega))).imp fun _ _ _ => trivial
end Go.Proofs.YtefneilaongpbaaDoor
