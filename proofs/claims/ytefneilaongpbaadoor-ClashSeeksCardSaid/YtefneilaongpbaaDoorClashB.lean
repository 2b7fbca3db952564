/-
  The first unlike pair of two proofs of one root is a clash: the plain law; the law's walk.
-/
import Derived.Test.YtefneilaongpbaaDoorClashA
set_option linter.unusedVariables false
set_option linter.unusedSimpArgs false
set_option maxRecDepth 100000
set_option maxHeartbeats 4000000
namespace Go.Proofs.YtefneilaongpbaaDoor
open Go Go.Bd Go.RowKit
attribute [local irreducible] G GL GQ GS shaD

theorem tag2_form (k : UInt8) (x y : Bytes) : tagB k [x, y] = k :: (be4 x.length ++ (x ++ (be4 y.length ++ y))) := by simp [tagB]
theorem tag2_inj {k k' : UInt8} {x y x' y' : Bytes} (h : tagB k [x, y] = tagB k' [x', y']) (hl : x.length = x'.length) : k = k' ∧ x = x' ∧ y = y' := by
  rw [tag2_form, tag2_form] at h
  simp only [List.cons.injEq] at h
  obtain ⟨h0, h⟩ := h
  rw [hl] at h
  have h1 := List.append_cancel_left h
  obtain ⟨h2, h3⟩ := List.append_inj h1 hl
  obtain ⟨_, h4⟩ := List.append_inj h3 rfl
  exact ⟨h0, h2, h4⟩
theorem tag2_head {k k' : UInt8} {x y : Bytes} {l : Bytes} (h : tagB k [x, y] = k' :: l) : k = k' := by
  rw [tag2_form] at h
  simp only [List.cons.injEq] at h
  exact h.1
theorem low_head (x : Prf) : ∃ c l, lowF x = c :: l ∧ c ≠ 2 := by
  unfold lowF
  split
  · exact ⟨1, _, tag2_form _ _ _, by decide⟩
  · split
    · exact ⟨1, _, tag2_form _ _ _, by decide⟩
    · exact ⟨0, _, rfl, by decide⟩
theorem up_head (x : Prf) (i : Nat) (a b : Dig) : ∃ l, upB x i a b = 2 :: l := by
  unfold upB
  split <;> exact ⟨_, tag2_form _ _ _⟩
theorem low_up (x y : Prf) (i : Nat) (a b : Dig) : lowF x ≠ upB y i a b := by
  obtain ⟨c, l, h1, h2⟩ := low_head x
  obtain ⟨l', h3⟩ := up_head y i a b
  rw [h1, h3]
  intro e
  simp only [List.cons.injEq] at e
  exact h2 e.1
theorem dig_len2 (a b : Dig) : a.1.length = b.1.length := by rw [a.2, b.2]
theorem up_inj {x y : Prf} (hk : x.key = y.key) {i : Nat} {a b c d : Dig} (h : upB x i a b = upB y i c d) : a = c ∧ b = d := by
  unfold upB at h
  rw [hk] at h
  split at h
  · obtain ⟨_, h1, h2⟩ := tag2_inj h (dig_len2 _ _)
    exact ⟨Subtype.ext h1, Subtype.ext h2⟩
  · obtain ⟨_, h1, h2⟩ := tag2_inj h (dig_len2 _ _)
    exact ⟨Subtype.ext h2, Subtype.ext h1⟩
theorem from_diff {a b : Prf} (hk : a.key = b.key) : ∀ (ss ts : List Dig) (i : Nat),
    (firstDiff (fromL a i ss) (fromL b i ts) = none → lowF a = lowF b) ∧
    ∀ x y, firstDiff (fromL a i ss) (fromL b i ts) = some (x, y) → x ≠ y ∧ (shaD ((fromL a i ss).headD []) = shaD ((fromL b i ts).headD []) → shaD x = shaD y)
  | [], [], i => by
    simp only [fromL, firstDiff, List.headD_cons]
    by_cases h : lowF a = lowF b
    · rw [if_pos h]; exact ⟨fun _ => h, fun x y hx => (by cases hx)⟩
    · rw [if_neg h]
      exact ⟨fun hx => (by cases hx), fun x y hx => (by cases hx; exact ⟨h, id⟩)⟩
  | [], t :: ts, i => by
    simp only [fromL, firstDiff, List.headD_cons]
    have h := low_up a b i (shaD ((fromL b (i + 1) ts).headD [])) t
    rw [if_neg h]
    exact ⟨fun hx => (by cases hx), fun x y hx => (by cases hx; exact ⟨h, id⟩)⟩
  | s :: ss, [], i => by
    simp only [fromL, firstDiff, List.headD_cons]
    have h := fun e => low_up b a i (shaD ((fromL a (i + 1) ss).headD [])) s (Eq.symm e)
    rw [if_neg h]
    exact ⟨fun hx => (by cases hx), fun x y hx => (by cases hx; exact ⟨h, id⟩)⟩
  | s :: ss, t :: ts, i => by
    obtain ⟨h1, h2⟩ := from_diff hk ss ts (i + 1)
    simp only [fromL, firstDiff, List.headD_cons]
    by_cases h : upB a i (shaD ((fromL a (i + 1) ss).headD [])) s = upB b i (shaD ((fromL b (i + 1) ts).headD [])) t
    · rw [if_pos h]
      obtain ⟨h3, _⟩ := up_inj hk h
      exact ⟨h1, fun x y hx => ⟨(h2 x y hx).1, fun _ => (h2 x y hx).2 h3⟩⟩
    · rw [if_neg h]
      exact ⟨fun hx => (by cases hx), fun x y hx => (by cases hx; exact ⟨h, id⟩)⟩
theorem low_like {a b : Prf} (ha : mayB a = true) (hb : mayB b = true) (hk : a.key = b.key) (h : lowF a = lowF b) : unlikeB a b = false := by
  have hoth : ∀ x : Prf, mayB x = true → x.en = 2 → x.other ≠ x.key := fun x hx he e => by
    simp only [mayB, Bool.and_eq_true] at hx
    have := hx.2
    unfold endB at this
    rw [he] at this
    simp [e] at this
  have low1 : ∀ x : Prf, x.en = 1 → lowF x = tagB 1 [x.key.1, x.val] := fun x he => by rw [lowF, if_pos he]
  have key : ∀ x y : Prf, mayB x = true → mayB y = true → x.key = y.key → lowF x = lowF y → x.en = 1 → y.en = 1 ∧ x.val = y.val := by
    intro x y hx hy hk h he
    rw [low1 x he] at h
    by_cases h1 : y.en = 1
    · rw [low1 y h1] at h
      exact ⟨h1, (tag2_inj h (dig_len2 _ _)).2.2⟩
    · exfalso
      rw [lowF, if_neg h1] at h
      split at h
      · rename_i h2
        have h3 := (tag2_inj h (dig_len2 _ _)).2.1
        exact hoth y hy h2 ((Subtype.ext h3).symm.trans hk)
      · exact absurd (tag2_head h) (by decide)
  by_cases h1 : a.en = 1
  · obtain ⟨h2, h3⟩ := key a b ha hb hk h h1
    simp [unlikeB, toldB, toldV, ha, hb, h1, h2, h3]
  · by_cases h2 : b.en = 1
    · exact absurd (key b a hb ha hk.symm h.symm h2).1 h1
    · simp [unlikeB, toldB, toldV, h1, h2]
theorem seek_law {a b : Prf} (ha : mayB a = true) (hb : mayB b = true) (hk : a.key = b.key) (hu : unlikeB a b = true) :
    ∃ x y, firstDiff (fromP a) (fromP b) = some (x, y) ∧ x ≠ y ∧ (rootV a = rootV b → shaD x = shaD y) := by
  obtain ⟨h1, h2⟩ := from_diff hk a.sides b.sides 0
  cases hf : firstDiff (fromL a 0 a.sides) (fromL b 0 b.sides) with
  | none =>
    rw [low_like ha hb hk (h1 hf)] at hu
    cases hu
  | some xy =>
    obtain ⟨x, y⟩ := xy
    obtain ⟨h3, h4⟩ := h2 x y hf
    exact ⟨x, y, hf, h3, fun he => h4 (by rw [rootV, ha, if_pos rfl, rootV, hb, if_pos rfl] at he; exact he)⟩

/-! the law -/
def ownPrf : Prf := ⟨Dig.zero, 1, Dig.zero, [97], []⟩
theorem own_call (w : World) : Does Tryd.prog 84 #[] w fun r w' => ∃ u, r = prv ownPrf u nil ∧ RdB any w' u [97] ∧ Ext w w' := by
  refine call_walk (vs := []) Tryd.func84 (by kernel_rfl) rfl Tryd.ntmps84 rfl ?_
  refine St0 ?_
  refine GL.alloc hT rfl rfl rfl fun b0 w1 hb0 hB0 he1 => ?_
  have l0 := hB0.lt
  refine St0 ?_
  refine GL.buildSlice [bv 97] hT rfl rfl rfl rfl rfl rfl rfl (fillL_one rfl rfl (madeLen _ _)) fun b1 w2 hb1 hB1 he2 => ?_
  refine GL.markK (cs := [bv 97]) hT rfl rfl rfl rfl rfl rfl rfl hB1 fun w3 hc3 hfr => ?_
  obtain ⟨fr', hfr'⟩ := hfr
  have s1 := he1.size
  have s2 := he2.size
  have he3 : Ext w1 w3 := hc3.below (by omega) he2
  replace hB0 := hB0.ext he3
  refine GL.build (pcells ownPrf (.slice (some ⟨b1, 0, none⟩) 1 1) nil) hT rfl rfl rfl rfl rfl rfl (by show _ = some (Dig.zero.cells ++ (bv 1 :: (Dig.zero.cells ++ [_, nil]))); rw [Dig.zero_cells]; rfl) ?_
  refine GL.storeVar hT rfl rfl rfl rfl rfl (pcells_len ownPrf _ _) (pcells_one ownPrf rfl rfl) hB0 (by rw [pcells_len]; decide) fun w4 hc4 hB4 => ?_
  refine St0 ?_
  refine G.retN rfl rfl hT rfl rfl rfl rfl hB4.all (pcells_len ownPrf _ _) ⟨_, rfl, ?_, hc4.below (by omega) (he1.trans he3)⟩
  exact ⟨_, 1, rfl, Nat.le_refl _, .inr ⟨b1, 0, rfl, _, _, fr', (hc4.block b1 (by omega)).trans hfr', trivial, fun j v hj => by rw [Nat.zero_add, List.getElem?_toArray]; exact hj⟩⟩
theorem alive9_seek : seekR noPrf ownPrf = ([0], tagB 1 [Dig.zero.1, [97]], 0) := by
  have h1 : mayB noPrf = true := by rfl
  have h2 : mayB ownPrf = true := by rfl
  have h3 : (decide (noPrf.key = ownPrf.key) && unlikeB noPrf ownPrf) = true := by rfl
  have h4 : firstDiff (fromP noPrf) (fromP ownPrf) = some ([0], tagB 1 [Dig.zero.1, [97]]) := by rfl
  simp only [seekR, h1, h2, h3, h4]
  rfl
theorem alive9_call (w : World) (hK : Kt w) : Does Tryd.prog 45 #[] w fun r w' => r = .bool true ∧ Ext w w' := by
  refine call_walk (vs := []) Tryd.func45 (by kernel_rfl) rfl Tryd.ntmps45 rfl ?_
  refine St0 ?_
  refine GL.build (pcells noPrf nil nil) hT rfl rfl rfl rfl rfl rfl (by show _ = some (Dig.zero.cells ++ (bv 0 :: (Dig.zero.cells ++ [nil, nil]))); rw [Dig.zero_cells]; rfl) ?_
  refine GL.call rfl rfl rfl (vs := []) (own_call w) ?_
  rintro r w1 ⟨u, rfl, hu, he1⟩
  refine GL.call rfl rfl rfl (seek_call noPrf ownPrf nil nil u nil any any w1 (noPrf_m w1) ⟨hu, RdF.nil _ _ _ _⟩ (by decide) (by decide) (by decide) (by decide) (hK.ext he1)) ?_
  rintro r w2 ⟨vx, vy, rfl, hvx, hvy, he2⟩
  have q1 : (seekR noPrf ownPrf).1 = [0] := by rw [alive9_seek]
  have q2 : (seekR noPrf ownPrf).2.1 = tagB 1 [Dig.zero.1, [97]] := by rw [alive9_seek]
  have q3 : (((seekR noPrf ownPrf).2.2 : Nat) : Int) = 0 := by rw [alive9_seek]; rfl
  rw [q1] at hvx
  rw [q2] at hvy
  rw [q3]
  have he12 := he1.trans he2
  have s12 := he12.size
  refine St0 ?_
  refine GL.alloc hT rfl rfl rfl fun b4 w3 hb4 hB4 he3 => ?_
  have e3 := he12.trans he3
  refine St0 ?_
  refine GL.buildSlice [bv 0] hT rfl rfl rfl rfl rfl rfl rfl (fillL_one rfl rfl (madeLen _ _)) fun b16 w4 hb16 hB16 he4 => ?_
  have he34 := he3.trans he4
  refine GL.call rfl rfl rfl (same_call vx _ [0] [0] _ any w4 (RdB.ext hvx he34) ⟨_, 1, rfl, Nat.le_refl _, .inr ⟨b16, 0, rfl, hB16.all⟩⟩) ?_
  rintro r w5 ⟨rfl, rfl⟩
  rw [show decide (([0] : Bytes) = [0]) = true from rfl]
  refine St0 ?_
  refine GL.buildSlice [bv 97] hT rfl rfl rfl rfl rfl rfl rfl (fillL_one rfl rfl (madeLen _ _)) fun b22 w6 hb22 hB22 he6 => ?_
  have s5 := he34.size
  have s6 := he6.size
  refine GL.markK (cs := [bv 97]) hT rfl rfl rfl rfl rfl rfl rfl hB22 fun w7 hc7 hfr => ?_
  obtain ⟨fr', hfr'⟩ := hfr
  have he7 : Ext w5 w7 := hc7.below (by omega) he6
  have hA22 : At any w7 b22 0 (bcells [97]) := ⟨_, _, fr', hfr', trivial, fun j v hj => by rw [Nat.zero_add, List.getElem?_toArray]; exact hj⟩
  refine GL.buildSlice ([.slice (some ⟨b4, 0, none⟩) 32 32] ++ [.slice (some ⟨b22, 0, none⟩) 1 1]) hT rfl rfl rfl rfl rfl rfl rfl (fillL_two rfl rfl rfl rfl (madeLen _ _)) fun b24 w8 hb24 hB24 he8 => ?_
  have e38 : Ext w3 w8 := he4.trans (he7.trans he8)
  have hz : At any w8 b4 0 Dig.zero.cells := by have := (hB4.ext e38).all; rw [Dig.zero_cells]; exact this
  refine GL.call rfl rfl rfl (tagBytes_call 1 _ [Dig.zero.1, [97]] any w8 (bs2 hB24 (rdKey hz) ⟨_, 1, rfl, Nat.le_refl _, .inr ⟨b22, 0, rfl, hA22.ext he8⟩⟩) (by simp) (by decide)) ?_
  rintro r w9 ⟨hr, he9⟩
  refine GL.call rfl rfl rfl (same_call vy r _ _ _ _ w9 (RdB.ext hvy (he34.trans (he7.trans (he8.trans he9)))) hr.fresh) ?_
  rintro r w10 ⟨rfl, rfl⟩
  rw [show decide (tagB 1 [Dig.zero.1, [97]] = tagB 1 [Dig.zero.1, [97]]) = true by simp]
  refine St0 ?_
  exact G.ret1 rfl rfl rfl rfl ⟨rfl, he12.trans (he34.trans (he7.trans (he8.trans he9)))⟩
theorem clashSeeks_call (a b : Prf) (u s u' s' : Value) (w : World) (ha : PrfM any w a u s) (hb : PrfM any w b u' s') (hK : Kt w) :
    Does Tryd.prog 7 #[prv a u s, prv b u' s'] w fun r w' => r = .bool true ∧ Ext w w' := by
  refine call_walk Tryd.func7 (by kernel_rfl) rfl Tryd.ntmps7 rfl ?_
  refine St0 ?_
  refine GL.box rfl rfl rfl rfl fun b2 w1 hb2 hB2 he1 => ?_
  refine GL.box rfl rfl rfl rfl fun b3 w2 hb3 hB3 he2 => ?_
  replace hB2 := hB2.ext he2
  have he12 := he1.trans he2
  refine St0 ?_
  refine GL.call rfl rfl rfl (vs := []) (alive9_call w2 (hK.ext he12)) ?_
  rintro r w3 ⟨rfl, he3⟩
  replace hB2 := hB2.ext he3
  replace hB3 := hB3.ext he3
  have e3 := he12.trans he3
  refine St1 (hB2.all) ?_
  refine GL.call rfl rfl rfl (great7_call a u s _ w3 (ha.ext e3)) ?_
  rintro r w4 ⟨rfl, he4⟩
  replace hB2 := hB2.ext he4
  replace hB3 := hB3.ext he4
  have e4 := e3.trans he4
  cases hga : decide (100 < a.val.length) || decide (300 < a.sides.length)
  case true =>
    refine St0 ?_
    exact G.ret1 rfl rfl rfl rfl ⟨rfl, e4⟩
  refine St1 (hB3.all) ?_
  refine GL.call rfl rfl rfl (great7_call b u' s' _ w4 (hb.ext e4)) ?_
  rintro r w5 ⟨rfl, he5⟩
  replace hB2 := hB2.ext he5
  replace hB3 := hB3.ext he5
  have e5 := e4.trans he5
  cases hgb : decide (100 < b.val.length) || decide (300 < b.sides.length)
  case true =>
    refine St0 ?_
    exact G.ret1 rfl rfl rfl rfl ⟨rfl, e5⟩
  have hav : a.val.length ≤ 100 ∧ a.sides.length ≤ 300 := by simpa using hga
  have hbv : b.val.length ≤ 100 ∧ b.sides.length ≤ 300 := by simpa using hgb
  obtain ⟨hk, _⟩ := pat hB2.all
  obtain ⟨hk', _⟩ := pat hB3.all
  by_cases hkk : a.key = b.key
  case neg =>
    refine St2 (hk) (hk') ?_
    exact G.ret1 rfl rfl rfl rfl ⟨rfl, e5⟩
  refine St4 (hk) (hk') (hB2.all) (hB3.all) ?_
  refine GL.call rfl rfl rfl (seek_call a b u s u' s' any any w5 (ha.ext e5) (hb.ext e5) (by omega) (by omega) (by omega) (by omega) (hK.ext e5)) ?_
  rintro r w6 ⟨vx, vy, rfl, hvx, hvy, he6⟩
  replace hB2 := hB2.ext he6
  replace hB3 := hB3.ext he6
  have e6 := e5.trans he6
  refine St1 (hB2.all) ?_
  refine GL.call rfl rfl rfl (vroot_call a u s _ w6 (ha.ext e6) (by omega) (by omega) (hK.ext e6)) ?_
  rintro r w7 ⟨rfl, he7⟩
  replace hB2 := hB2.ext he7
  replace hB3 := hB3.ext he7
  have e7 := e6.trans he7
  refine St0 ?_
  refine GL.alloc hT rfl rfl rfl fun b9 w8 hb9 hB9 he8 => ?_
  have l9 := hB9.lt
  have l2 := hB2.lt
  have l3 := hB3.lt
  have s7 := e7.size
  replace hB2 := hB2.ext he8
  replace hB3 := hB3.ext he8
  refine GL.storeVar hT rfl rfl rfl rfl rfl (Dig.len _) (Dig.one _) hB9 (by rw [Dig.len]; rfl) fun w9 hc9 hB9 => ?_
  replace hB2 := hB2.chg hc9 (by omega)
  replace hB3 := hB3.chg hc9 (by omega)
  have s8 := he8.size
  have s9 := hc9.size
  have e79 : Ext w7 w9 := hc9.below (by omega) he8
  have e9 := e7.trans e79
  refine St1 (hB3.all) ?_
  refine GL.call rfl rfl rfl (vroot_call b u' s' _ w9 (hb.ext e9) (by omega) (by omega) (hK.ext e9)) ?_
  rintro r w10 ⟨rfl, he10⟩
  replace hB2 := hB2.ext he10
  replace hB3 := hB3.ext he10
  replace hB9 := hB9.ext he10
  have e10 := e9.trans he10
  refine St0 ?_
  refine GL.alloc hT rfl rfl rfl fun b11 w11 hb11 hB11 he11 => ?_
  have l11 := hB11.lt
  have m2 := hB2.lt
  have m3 := hB3.lt
  have m9 := hB9.lt
  have s10 := e10.size
  replace hB2 := hB2.ext he11
  replace hB3 := hB3.ext he11
  replace hB9 := hB9.ext he11
  refine GL.storeVar hT rfl rfl rfl rfl rfl (Dig.len _) (Dig.one _) hB11 (by rw [Dig.len]; rfl) fun w12 hc12 hB11 => ?_
  replace hB2 := hB2.chg hc12 (by omega)
  replace hB3 := hB3.chg hc12 (by omega)
  replace hB9 := hB9.chg hc12 (by omega)
  have e1012 : Ext w10 w12 := hc12.below (by omega) he11
  have e12 := e10.trans e1012
  have e612 : Ext w6 w12 := he7.trans (e79.trans (he10.trans e1012))
  clear hc9 hc12 s8 s9 m2 m3 m9 l2 l3 l9 l11
  have e80 : badE false = 8 := rfl
  have e00 : badE true = 0 := rfl
  cases hma : mayB a
  · have hR : seekR a b = ([], [], 8) := by simp [seekR, hma]
    rw [show (((seekR a b).2.2 : Nat) : Int) = 8 by rw [hR]; rfl, e80]
    refine St0 ?_
    exact G.ret1 rfl rfl rfl rfl ⟨rfl, e12⟩
  cases hmb : mayB b
  · have hR : seekR a b = ([], [], 8) := by simp [seekR, hmb]
    rw [show (((seekR a b).2.2 : Nat) : Int) = 8 by rw [hR]; rfl, e80, e00]
    refine St0 ?_
    exact G.ret1 rfl rfl rfl rfl ⟨rfl, e12⟩
  rw [e00]
  refine St2 (hB2.all) (hB3.all) ?_
  refine GL.call rfl rfl rfl (lunlike_call a b u s u' s' _ _ w12 (ha.ext e12) (hb.ext e12) (by omega) (by omega)) ?_
  rintro r w13 ⟨rfl, he13⟩
  replace hB9 := hB9.ext he13
  replace hB11 := hB11.ext he13
  have e13 := e12.trans he13
  cases hun : unlikeB a b
  · have hR : seekR a b = ([], [], 2) := by simp [seekR, hma, hmb, hun]
    rw [show (((seekR a b).2.2 : Nat) : Int) = 2 by rw [hR]; rfl]
    refine St0 ?_
    exact G.ret1 rfl rfl rfl rfl ⟨rfl, e13⟩
  obtain ⟨x, y, hfd, hne, himp⟩ := seek_law hma hmb hkk hun
  have hR : seekR a b = (x, y, 0) := by simp [seekR, hma, hmb, hun, hkk, hfd]
  have hmem : ∀ {l m : List Bytes} {x y : Bytes}, firstDiff l m = some (x, y) → x ∈ l ∧ y ∈ m := by
    intro l
    induction l with
    | nil => intro m x y h; cases h
    | cons c l ih =>
      intro m x y h
      cases m with
      | nil => cases h
      | cons d m =>
        simp only [firstDiff] at h
        split at h
        · obtain ⟨h1, h2⟩ := ih h
          exact ⟨List.mem_cons_of_mem _ h1, List.mem_cons_of_mem _ h2⟩
        · cases h; exact ⟨List.mem_cons_self .., List.mem_cons_self ..⟩
  have hxl := fromL_small a (by omega : a.val.length ≤ 1000) 0 a.sides x (hmem hfd).1
  have hyl := fromL_small b (by omega : b.val.length ≤ 1000) 0 b.sides y (hmem hfd).2
  have hfa := fromL_small a (by omega : a.val.length ≤ 1000) 0 a.sides
  rw [hR] at hvx hvy
  rw [show (((seekR a b).2.2 : Nat) : Int) = 0 by rw [hR]; rfl]
  refine St0 ?_
  refine GL.call rfl rfl rfl (same_call vx vy x y _ _ w13 (RdB.ext hvx (e612.trans he13)) (RdB.ext hvy (e612.trans he13))) ?_
  rintro r w14 ⟨rfl, rfl⟩
  rw [show decide (x = y) = false by simpa using hne]
  by_cases hpq : rootV a = rootV b
  · have hxy := himp hpq
    refine St2 (hB9.all) (hB11.all) ?_
    refine GL.buildSlice [vx] hT rfl rfl rfl rfl rfl rfl rfl (fillL_one (RdF.some hvx) rfl (madeLen _ _)) fun b86 w15 hb86 hB86 he15 => ?_
    have e15 := e13.trans he15
    have hw615 := e612.trans (he13.trans he15)
    refine GL.call rfl rfl rfl (shaOf_call _ x any w15 (bs1 hB86 (RdB.ext hvx hw615)) (by omega) (hK.ext e15)) ?_
    rintro r w16 ⟨rfl, he16⟩
    refine St0 ?_
    refine GL.buildSlice [vy] hT rfl rfl rfl rfl rfl rfl rfl (fillL_one (RdF.some hvy) rfl (madeLen _ _)) fun b89 w17 hb89 hB89 he17 => ?_
    have e17 := e15.trans (he16.trans he17)
    refine GL.call rfl rfl rfl (shaOf_call _ y any w17 (bs1 hB89 (RdB.ext hvy (hw615.trans (he16.trans he17)))) (by omega) (hK.ext e17)) ?_
    rintro r w18 ⟨rfl, he18⟩
    rw [hxy]
    have hqq : shaD y = shaD y := rfl
    refine St0 ?_
    exact G.ret1 rfl rfl rfl rfl ⟨rfl, e17.trans he18⟩
  · refine St2 (hB9.all) (hB11.all) ?_
    exact G.ret1 rfl rfl rfl rfl ⟨rfl, e13⟩
end Go.Proofs.YtefneilaongpbaaDoor
