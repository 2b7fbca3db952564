import Derived.Test.YtefneilaongpbaaDoorEq
import Derived.Test.YtefneilaongpbaaDoorPath
/-
  Bits of keys: how many two share; math/bits.Len8, LeadingZeros8; the document's At and Shared.
-/
set_option linter.unusedVariables false
set_option linter.unusedSimpArgs false
set_option maxRecDepth 100000
namespace Go.Proofs.YtefneilaongpbaaDoor
open Go Go.Bd Go.RowKit
attribute [local irreducible] G GL GQ

/-- From bit i on, so many of the next n bits are shared. -/
def sharedFrom (a b : Dig) : Nat → Nat → Nat
  | _, 0 => 0
  | i, n + 1 => if a.bit i = b.bit i then sharedFrom a b (i + 1) n + 1 else 0
def sharedB (a b : Dig) : Nat := sharedFrom a b 0 256
theorem sharedFrom_spec (a b : Dig) : ∀ (n i : Nat), sharedFrom a b i n ≤ n ∧ (∀ j, j < sharedFrom a b i n → a.bit (i + j) = b.bit (i + j)) ∧ (sharedFrom a b i n < n → a.bit (i + sharedFrom a b i n) ≠ b.bit (i + sharedFrom a b i n))
  | 0, i => by simp [sharedFrom]
  | n + 1, i => by
    obtain ⟨h1, h2, h3⟩ := sharedFrom_spec a b n (i + 1)
    simp only [sharedFrom]
    by_cases h : a.bit i = b.bit i
    · rw [if_pos h]
      refine ⟨by omega, fun j hj => ?_, fun hlt => ?_⟩
      · cases j with
        | zero => exact h
        | succ j => have := h2 j (by omega); rw [show i + (j + 1) = i + 1 + j by omega]; exact this
      · have := h3 (by omega)
        rw [show i + (sharedFrom a b (i + 1) n + 1) = i + 1 + sharedFrom a b (i + 1) n by omega]
        exact this
    · rw [if_neg h]
      exact ⟨by omega, fun j hj => by omega, fun _ => h⟩
theorem sharedB_le (a b : Dig) : sharedB a b ≤ 256 := (sharedFrom_spec a b 256 0).1
theorem sharedB_eq {a b : Dig} {j : Nat} (h : j < sharedB a b) : a.bit j = b.bit j := by have := (sharedFrom_spec a b 256 0).2.1 j h; simpa using this
theorem sharedB_ne {a b : Dig} (h : sharedB a b < 256) : a.bit (sharedB a b) ≠ b.bit (sharedB a b) := by have := (sharedFrom_spec a b 256 0).2.2 h; simpa [sharedB] using this
theorem sharedB_unique {a b : Dig} {n : Nat} (hn : n ≤ 256) (h : ∀ j, j < n → a.bit j = b.bit j) (h' : n < 256 → a.bit n ≠ b.bit n) : sharedB a b = n := by
  rcases Nat.lt_trichotomy (sharedB a b) n with h1 | h1 | h1
  · exact absurd (h _ h1) (sharedB_ne (by omega))
  · exact h1
  · exact absurd (sharedB_eq h1) (h' (by have := sharedB_le a b; omega))
theorem sharedB_self (a : Dig) : sharedB a a = 256 := sharedB_unique (Nat.le_refl _) (fun _ _ => rfl) (fun h => absurd h (by omega))

def len8 (z : Nat) : Nat := if z = 0 then 0 else Nat.log2 z + 1
theorem len8_le : ∀ z : Fin 256, len8 z.1 ≤ 8 := by decide +kernel
theorem lead8 : ∀ z : Fin 256, z.1 ≠ 0 → 8 - len8 z.1 < 8 ∧ (∀ j : Fin 8, j.1 < 8 - len8 z.1 → Nat.testBit z.1 (7 - j.1) = false) ∧ Nat.testBit z.1 (7 - (8 - len8 z.1)) = true := by decide +kernel
/-- Two bytes that differ: where they do so first. -/
theorem byte_diff (x y : UInt8) (h : x ≠ y) : 8 - len8 (x ^^^ y).toNat < 8 ∧ (∀ j, j < 8 - len8 (x ^^^ y).toNat → x.toNat / 2 ^ (7 - j) % 2 = y.toNat / 2 ^ (7 - j) % 2) ∧ x.toNat / 2 ^ (7 - (8 - len8 (x ^^^ y).toNat)) % 2 ≠ y.toNat / 2 ^ (7 - (8 - len8 (x ^^^ y).toNat)) % 2 := by
  have hz : (x ^^^ y).toNat ≠ 0 := by
    have := (xor_ne x y).2 h
    omega
  have hb : ∀ i, Nat.testBit (x ^^^ y).toNat i = (Nat.testBit x.toNat i != Nat.testBit y.toNat i) := fun i => by rw [UInt8.toNat_xor, Nat.testBit_xor]
  have hd : ∀ (u : Nat) (i : Nat), Nat.testBit u i = decide (u / 2 ^ i % 2 = 1) := fun u i => Nat.testBit_eq_decide_div_mod_eq
  obtain ⟨h1, h2, h3⟩ := lead8 ⟨(x ^^^ y).toNat, (x ^^^ y).toNat_lt⟩ hz
  refine ⟨h1, fun j hj => ?_, ?_⟩
  · have := h2 ⟨j, by omega⟩ hj
    simp only at this
    rw [hb, hd, hd] at this
    have m1 := Nat.mod_two_eq_zero_or_one (x.toNat / 2 ^ (7 - j))
    have m2 := Nat.mod_two_eq_zero_or_one (y.toNat / 2 ^ (7 - j))
    rcases m1 with m1 | m1 <;> rcases m2 with m2 | m2 <;> simp [m1, m2] at this ⊢
  · simp only at h3
    rw [hb, hd, hd] at h3
    intro he
    rw [he, bne_self_eq_false] at h3
    cases h3

theorem len8_call (x : UInt8) (w : World) : Does Tryd.prog 173 #[bv x] w fun v w' => v = iv (len8 x.toNat : Nat) ∧ w' = w := by
  refine call_walk Tryd.func173 (by kernel_rfl) rfl Tryd.ntmps173 rfl ?_
  refine St0 ?_
  refine GL.indexS (b := UInt8.ofNat (len8 x.toNat)) x.toNat Tryd.underlying9 rfl rfl rfl rfl rfl ?_ ?_
  · exact (show ∀ z : Fin 256, (_ : ByteArray)[z.1]? = some (UInt8.ofNat (len8 z.1)) from by decide +kernel) ⟨x.toNat, x.toNat_lt⟩
  have hle := len8_le ⟨x.toNat, x.toNat_lt⟩
  simp only at hle
  have hb : (UInt8.ofNat (len8 x.toNat)).toNat = len8 x.toNat := by rw [UInt8.toNat_ofNat']; exact Nat.mod_eq_of_lt (by omega)
  refine GL.conv_int hT rfl rfl rfl rfl rfl rfl rfl ?_
  refine St0 ?_
  refine G.ret1 rfl rfl rfl rfl ⟨?_, rfl⟩
  rw [hb, wrap_i64 (by omega) (by omega)]
theorem lead8_call (x : UInt8) (w : World) : Does Tryd.prog 153 #[bv x] w fun v w' => v = iv (8 - len8 x.toNat : Nat) ∧ w' = w := by
  refine call_walk Tryd.func153 (by kernel_rfl) rfl Tryd.ntmps153 rfl ?_
  have hle := len8_le ⟨x.toNat, x.toNat_lt⟩
  simp only at hle
  refine St0 ?_
  refine GL.call rfl rfl rfl (len8_call x w) ?_
  rintro v w1 ⟨rfl, rfl⟩
  refine St0 ?_
  refine G.ret1 rfl rfl rfl rfl ⟨?_, rfl⟩
  show iv _ = iv _
  congr 1
  omega

/-- One step of shifting a byte. -/
theorem div2_i (c : Nat) (hc : c < 256) (w : World) {P : Program} {t : TypeId} {a b : Operand} : (do eqGuard .quo t a b (.int .u8 (c : Int)) (.int .u8 2); binOp .quo t (.int .u8 (c : Int)) (.int .u8 2) : Sem Value).run P w = .ok (.int .u8 ((c / 2 : Nat) : Int)) w := by
  have e : ((c : Int)).tdiv 2 = ((c / 2 : Nat) : Int) := by rw [Int.tdiv_eq_ediv_of_nonneg (by omega)]; simp
  simp [eqGuard, binOp, Op.intDiv, e]
  have := wrap_u8 (z := ((c / 2 : Nat) : Int)) (by omega) (by omega)
  simpa using this
theorem mod2_i (c : Nat) (w : World) {P : Program} {t : TypeId} {a b : Operand} : (do eqGuard .rem t a b (.int .u8 (c : Int)) (.int .u8 2); binOp .rem t (.int .u8 (c : Int)) (.int .u8 2) : Sem Value).run P w = .ok (.int .u8 ((c % 2 : Nat) : Int)) w := by
  have e : ((c : Int)).tmod 2 = ((c % 2 : Nat) : Int) := by rw [Int.tmod_eq_emod_of_nonneg (by omega)]; simp
  simp [eqGuard, binOp, Op.intDiv, e]
theorem refAt_call (k : Dig) (i : Nat) (hi : i < 256) (w : World) : Does Tryd.prog 139 #[dv k, iv i] w fun v w' => v = .int .u8 (k.bit i : Nat) ∧ Ext w w' := by
  refine call_walk Tryd.func139 (by kernel_rfl) rfl Tryd.ntmps139 rfl ?_
  refine St0 ?_
  refine GL.box rfl rfl rfl rfl fun b w1 hb hB he => ?_
  refine St0 ?_
  (refine GL.indexArr ((i / 8)) 1 ((i / 8)) hT rfl rfl rfl rfl rfl rfl rfl rfl ?_ ?_ ?_ ?_; (focus omega); (focus omega); (focus omega))
  refine GL.load1 hT rfl rfl rfl rfl rfl (hB.one (k.cell_at (i / 8) (by omega))) ?_
  refine St0 ?_
  have hk := (k.at (i / 8)).toNat_lt
  refine G.sub (f' := [(6, iv ((7 : Nat) : Int)), (5, .int .u8 (((k.at (i / 8)).toNat / 2 ^ (7 - 7) : Nat) : Int)), (1, iv i)]) ?_ ?_
  · rw [show 2 ^ (7 - 7) = 1 from rfl, Nat.div_one]
    (repeat (first | exact Fr.sub_nil _ | refine Fr.sub_cons rfl ?_))
  refine G.rounds (α := Nat) (fun j f w' => i % 8 ≤ j ∧ j ≤ 7 ∧ Ext w w' ∧ f = [(6, iv j), (5, .int .u8 (((k.at (i / 8)).toNat / 2 ^ (7 - j) : Nat) : Int)), (1, iv i)]) (fun j => j) ?round 7 ⟨by omega, by omega, he, rfl⟩
  case round =>
    rintro j f w' ⟨h1, h2, he', rfl⟩ again
    by_cases hlt : (j : Int) > (i : Int) % 8
    · refine St0 ?_
      refine GL.bin rfl rfl rfl rfl (fun w => div2_i _ (Nat.lt_of_le_of_lt (Nat.div_le_self _ _) hk) w) ?_
      refine St0 ?_
      refine G.sub ?_ (again (j - 1) _ _ (by omega) ⟨by omega, by omega, he', rfl⟩)
      have e1 : (iv ((j : Int) - 1)) = iv ((j - 1 : Nat) : Int) := by congr 1; omega
      have e2 : (k.at (i / 8)).toNat / 2 ^ (7 - j) / 2 = (k.at (i / 8)).toNat / 2 ^ (7 - (j - 1)) := by
        rw [Nat.div_div_eq_div_mul, ← Nat.pow_succ]; congr 2; omega
      rw [e1, e2]
      (repeat (first | exact Fr.sub_nil _ | refine Fr.sub_cons rfl ?_))
    · have hj : j = i % 8 := by omega
      refine St0 ?_
      refine GL.bin rfl rfl rfl rfl (fun w => mod2_i _ w) ?_
      refine St0 ?_
      refine G.ret1 rfl rfl rfl rfl ⟨?_, he'⟩
      rw [hj]
      rfl
theorem refShared_call (a b : Dig) (w : World) : Does Tryd.prog 141 #[dv a, dv b] w fun v w' => v = iv (sharedB a b : Nat) ∧ Ext w w' := by
  refine call_walk Tryd.func141 (by kernel_rfl) rfl Tryd.ntmps141 rfl ?_
  refine St0 ?_
  refine GL.box rfl rfl rfl rfl fun b2 w1 hb2 hB2 he1 => ?_
  refine GL.box rfl rfl rfl rfl fun b3 w2 hb3 hB3 he2 => ?_
  refine St0 ?_
  replace hB2 := hB2.ext he2
  refine G.sub (f' := [(5, iv ((0 : Nat) : Int)), (2, ptr b2 0), (3, ptr b3 0)]) (by (repeat (first | exact Fr.sub_nil _ | refine Fr.sub_cons rfl ?_))) ?_
  refine G.rounds (α := Nat) (fun j f w' => j ≤ sharedB a b ∧ Ext w2 w' ∧ f = [(5, iv j), (2, ptr b2 0), (3, ptr b3 0)]) (fun j => sharedB a b - j) ?round 0 ⟨by omega, Ext.refl _, rfl⟩
  have hle := sharedB_le a b
  rintro j f w' ⟨h1, he', rfl⟩ again
  replace hB2 := hB2.ext he'
  replace hB3 := hB3.ext he'
  by_cases hlt : (j : Int) < 256
  · refine St0 ?_
    refine G.quiet follows (by kernel_rfl) ?_
    refine QSt2 (hB2.all) (hB3.all) ?_
    refine GQ.call rfl rfl rfl (fun w'' he'' => refAt_call a j (by omega) w'') ?_
    refine QSt2 (hB2.all) (hB3.all) ?_
    refine GQ.call rfl rfl rfl (fun w'' he'' => refAt_call b j (by omega) w'') ?_
    by_cases heq : ((a.bit j : Nat) : Int) = (b.bit j : Nat)
    · refine QSt0 ?_
      refine GQ.nil fun w4 he4 => ?_
      refine St0 ?_
      refine G.sub (by (repeat (first | exact Fr.sub_nil _ | refine Fr.sub_cons rfl ?_))) (again (j + 1) _ _ ?_ ⟨?_, he'.trans he4, rfl⟩)
      · have : j ≠ sharedB a b := fun h => by subst h; exact sharedB_ne (a := a) (b := b) (by omega) (by omega)
        omega
      · have : j ≠ sharedB a b := fun h => by subst h; exact sharedB_ne (a := a) (b := b) (by omega) (by omega)
        omega
    · refine QSt0 ?_
      refine GQ.nil fun w4 he4 => ?_
      refine St0 ?_
      refine G.ret1 rfl rfl rfl rfl ⟨?_, (he1.trans he2).trans (he'.trans he4)⟩
      rw [sharedB_unique (n := j) (by omega) (fun i hi => sharedB_eq (by omega)) (fun _ => by omega)]
  · refine St0 ?_
    refine G.quiet follows (by kernel_rfl) ?_
    refine QSt0 ?_
    refine GQ.nil fun w4 he4 => ?_
    refine St0 ?_
    refine G.ret1 rfl rfl rfl rfl ⟨?_, (he1.trans he2).trans (he'.trans he4)⟩
    show iv _ = iv _
    congr 1
    omega
end Go.Proofs.YtefneilaongpbaaDoor
/-
  path.Shared.
-/
set_option linter.unusedVariables false
set_option maxRecDepth 100000
namespace Go.Proofs.YtefneilaongpbaaDoor
open Go Go.Bd Go.RowKit
attribute [local irreducible] G GL GQ

theorem shared_diff {a b : Dig} {i : Nat} (hi : i < 32) (hj : ∀ j, j < i → a.at j = b.at j) (hne : a.at i ≠ b.at i) : sharedB a b = 8 * i + (8 - len8 (a.at i ^^^ b.at i).toNat) := by
  obtain ⟨h1, h2, h3⟩ := byte_diff _ _ hne
  refine sharedB_unique (by omega) (fun j hj' => ?_) (fun _ => ?_)
  · unfold Dig.bit
    by_cases h : j / 8 < i
    · rw [hj _ h]
    · have e : j / 8 = i := by omega
      rw [e]
      exact h2 (j % 8) (by omega)
  · unfold Dig.bit
    have e : (8 * i + (8 - len8 (a.at i ^^^ b.at i).toNat)) / 8 = i := by omega
    have e2 : (8 * i + (8 - len8 (a.at i ^^^ b.at i).toNat)) % 8 = 8 - len8 (a.at i ^^^ b.at i).toNat := by omega
    rw [e, e2]
    exact h3

theorem shared_call (a b : Dig) (w : World) : Does Tryd.prog 109 #[dv a, dv b] w fun v w' => v = iv (sharedB a b : Nat) ∧ Ext w w' := by
  refine call_walk Tryd.func109 (by kernel_rfl) rfl Tryd.ntmps109 rfl ?_
  refine St0 ?_
  refine GL.box rfl rfl rfl rfl fun b2 w1 hb2 hB2 he1 => ?_
  refine GL.box rfl rfl rfl rfl fun b3 w2 hb3 hB3 he2 => ?_
  refine GL.alloc hT rfl rfl rfl fun b4 w3 hb4 hB4 he3 => ?_
  refine St0 ?_
  replace hB2 := hB2.ext he2
  replace hB2 := hB2.ext he3
  replace hB3 := hB3.ext he3
  refine St2 (hB2.all) (hB3.all) ?_
  refine GL.call rfl rfl rfl (apart_call a b w3) ?_
  rintro v w4 ⟨ba, bb, rfl, hba, hbb, hA, hAb, he4⟩
  refine St0 ?_
  replace hB2 := hB2.ext he4
  replace hB3 := hB3.ext he4
  replace hB4 := hB4.ext he4
  have e4 : Ext w w4 := (he1.trans he2).trans (he3.trans he4)
  have s1 := he1.size
  have s2 := he2.size
  have s3 := he3.size
  have s4 := he4.size
  have l4 := hB4.lt
  refine G.rangeFunc (Θ := fun L _ w' => (Ext w4 w' ∧ L.At w' .ready none ∧ NoDefers w' L.r ∧ a = b) ∨ (Below w.heap.size w w' ∧ L.At w' .done (some .ret) ∧ NoDefers w' L.r ∧ Blk w' b4 3 [iv (sharedB a b : Nat)])) rfl rfl ?hit ?hk
  case hit =>
    intro L w5 hD hps has hbo hr hl he5 hLat hnd
    have hc := apart1_call a b ba bb L.l (fun i w' => Ext w5 w' ∧ ∀ j, j < i → a.at j = b.at j) (fun w' => Below w.heap.size w w' ∧ L.At w' .done (some .ret) ∧ NoDefers w' L.r ∧ Blk w' b4 3 [iv (sharedB a b : Nat)]) w5 ⟨Ext.refl _, fun j hj => by omega⟩
      (fun i w' w'' h he => ⟨h.1.trans he, h.2⟩) (fun i w' h => ⟨(hA.ext he5).ext h.1, (hAb.ext he5).ext h.1⟩) (fun i w' hi heq h => ⟨h.1, pre_succ h.2 heq⟩) ?_
    · refine hc.mono fun v w' h => ?_
      rcases h with ⟨h1, h2⟩ | h
      · exact .inl ⟨he5.trans h1, hLat.ext h1, hnd.ext h1, Dig.ext_at h2⟩
      · exact .inr h
    · intro i w6 hi hne ⟨he6, hpre⟩
      refine Lo.yield (L := L) (hLat.ext he6) hD ?_ ?_ ?_
      · rw [hps]; rfl
      · rw [hps]; rfl
      rw [hps, has, hbo]
      refine St0 ?_
      refine G.beginRound rfl (hLat.ext he6) fun w7 hc7 hL7 => ?_
      refine St0 ?_
      replace hB4 := hB4.ext he5
      replace hB4 := hB4.ext he6
      replace hnd := hnd.ext he6
      replace hB4 := hB4.chg hc7 (by omega)
      replace hnd := hnd.chg hc7 (by omega)
      have hBel : Below w.heap.size w w7 := hc7.below (by omega) (e4.trans (he5.trans he6))
      have hle := len8_le ⟨(a.at i ^^^ b.at i).toNat, (a.at i ^^^ b.at i).toNat_lt⟩
      simp only at hle
      refine GL.call rfl rfl rfl (lead8_call _ w7) ?_
      rintro v w8 ⟨rfl, rfl⟩
      refine St0 ?_
      refine GL.store1 hT rfl rfl rfl rfl rfl rfl rfl hB4 (by decide) fun w9 hc9 hB9 => ?_
      refine St0 ?_
      refine G.roundRet (L := L) rfl (hL7.chg hc9 (by omega)) fun w10 hc10 hL10 => .inr ⟨rfl, ?_, hL10, ?_, ?_⟩
      · exact hc10.below (by omega) (hc9.below (by omega) hBel)
      · exact (hnd.chg hc9 (by omega)).chg hc10 (by omega)
      · rw [shared_diff hi hpre hne]
        have := hB9.chg hc10 (by omega)
        have e : ((8 * i + (8 - len8 (a.at i ^^^ b.at i).toNat) : Nat) : Int) = 8 * (i : Int) + ((8 - len8 (a.at i ^^^ b.at i).toNat : Nat) : Int) := by omega
        rw [e]
        exact this
  case hk =>
    rintro L v w5 hr hl (⟨he5, hLat, hnd, rfl⟩ | ⟨hBel, hLat, hnd, hB⟩)
    · refine ⟨.ready, none, hLat, by simp, fun w6 hc6 => ?_⟩
      replace hB4 := hB4.ext he5
      have s5 := he5.size
      replace hB4 := hB4.chg hc6 (by omega)
      replace hnd := hnd.chg hc6 (by omega)
      have hBel : Below w.heap.size w w6 := hc6.below (by omega) (e4.trans he5)
      refine St0 ?_
      refine GL.store1 hT rfl rfl rfl rfl rfl rfl rfl hB4 (by decide) fun w9 hc9 hB9 => ?_
      refine St0 ?_
      replace hnd := hnd.chg hc9 (by omega)
      refine G.ret_coll (v := iv 256) rfl rfl hnd (fun a' w10 ha hc => run_result1 hT rfl rfl rfl rfl ((hB9.chg hc (by omega)).one rfl) a' ha) fun w10 hc10 => ⟨by rw [sharedB_self]; rfl, hc10.below (by omega) (hc9.below (by omega) hBel)⟩
    · refine ⟨.done, some .ret, hLat, by simp, fun w6 hc6 => ?_⟩
      replace hB := hB.chg hc6 (by omega)
      replace hnd := hnd.chg hc6 (by omega)
      show G _ _ _ _ (.code .ret :: _) _ _
      refine G.ret_coll (v := iv (sharedB a b : Nat)) rfl rfl hnd (fun a' w10 ha hc => run_result1 hT rfl rfl rfl rfl ((hB.chg hc (by omega)).one rfl) a' ha) fun w10 hc10 => ⟨rfl, hc10.below (by omega) (hc6.below (by omega) hBel)⟩
end Go.Proofs.YtefneilaongpbaaDoor
/-
  The bits of keys, by their numbers; what they share; their order.
-/
set_option linter.unusedVariables false
set_option maxRecDepth 100000
namespace Go.Proofs.YtefneilaongpbaaDoor
open Go Go.Bd

theorem numL_digit : ∀ (l : List UInt8) (i : Nat), i < l.length → numL l / 256 ^ (l.length - 1 - i) % 256 = (l.getD i 0).toNat
  | [], i, h => by simp at h
  | b :: l, 0, _ => by
    rw [numL_cons]
    have h1 := numL_lt l
    have hb := b.toNat_lt
    have e : (b :: l).length - 1 - 0 = l.length := by simp
    rw [e, Nat.mul_comm, Nat.mul_add_div (Nat.pow_pos (by omega)), Nat.div_eq_of_lt h1]
    simp
  | b :: l, i + 1, h => by
    have hi : i < l.length := by simpa using h
    rw [numL_cons]
    have ih := numL_digit l i hi
    have e : (b :: l).length - 1 - (i + 1) = l.length - 1 - i := by simp; omega
    rw [e]
    have hp : 256 ^ l.length = 256 ^ (l.length - 1 - i) * (256 * 256 ^ i) := by
      rw [← Nat.pow_succ', ← Nat.pow_add]
      congr 1
      omega
    have e2 : b.toNat * 256 ^ l.length + numL l = 256 ^ (l.length - 1 - i) * (256 * (256 ^ i * b.toNat)) + numL l := by
      rw [hp]
      congr 1
      rw [Nat.mul_comm b.toNat, Nat.mul_assoc, Nat.mul_assoc]
    rw [e2, Nat.mul_add_div (Nat.pow_pos (by omega)), Nat.mul_add_mod, ih]
    simp
theorem Dig.bit_num (k : Dig) (i : Nat) (hi : i < 256) : k.bit i = k.num / 2 ^ (255 - i) % 2 := by
  have h := numL_digit k.1 (i / 8) (by rw [k.2]; omega)
  rw [k.2] at h
  unfold Dig.bit Dig.at Dig.num
  rw [← h]
  have e1 : (256 : Nat) ^ (32 - 1 - i / 8) = 2 ^ (8 * (31 - i / 8)) := by
    rw [Nat.pow_mul]
  rw [e1]
  have hr : 7 - i % 8 < 8 := by omega
  have key : ∀ (x r : Nat), r < 8 → x % 256 / 2 ^ r % 2 = x / 2 ^ r % 2 := by
    intro x r hr
    have e : (256 : Nat) = 2 ^ r * (2 * 2 ^ (7 - r)) := by
      rw [← Nat.pow_succ', ← Nat.pow_add]
      rw [show r + (7 - r).succ = 8 by omega]
    rw [e, Nat.mod_mul_right_div_self, Nat.mod_mul_right_mod]
  rw [key _ _ hr, Nat.div_div_eq_div_mul, ← Nat.pow_add]
  congr 2
  congr 1
  omega
theorem half_step (x e : Nat) : x / 2 ^ e = 2 * (x / 2 ^ (e + 1)) + x / 2 ^ e % 2 := by
  rw [Nat.pow_succ, ← Nat.div_div_eq_div_mul]
  omega
/-- The first n bits agree: the first n bits' numbers do. -/
theorem prefix_iff (a b : Dig) : ∀ n, n ≤ 256 → ((∀ j, j < n → a.bit j = b.bit j) ↔ a.num / 2 ^ (256 - n) = b.num / 2 ^ (256 - n))
  | 0, _ => by
    have ha := a.num_lt
    have hb := b.num_lt
    simp only [Nat.sub_zero]
    rw [Nat.div_eq_of_lt ha, Nat.div_eq_of_lt hb]
    simp
  | n + 1, hn => by
    have ih := prefix_iff a b n (by omega)
    have ea := half_step a.num (256 - (n + 1))
    have eb := half_step b.num (256 - (n + 1))
    rw [show 256 - (n + 1) + 1 = 256 - n by omega] at ea eb
    have ha := a.bit_num n (by omega)
    have hb := b.bit_num n (by omega)
    rw [show 255 - n = 256 - (n + 1) by omega] at ha hb
    rw [← ha] at ea
    rw [← hb] at eb
    constructor
    · intro h
      have h1 := ih.1 (fun j hj => h j (by omega))
      have h2 := h n (by omega)
      rw [ea, eb, h1, h2]
    · intro h
      have la := a.bit_lt n
      have lb := b.bit_lt n
      have h2 : a.bit n = b.bit n := by omega
      have h1 : a.num / 2 ^ (256 - n) = b.num / 2 ^ (256 - n) := by omega
      intro j hj
      rcases Nat.lt_or_eq_of_le (Nat.lt_succ_iff.1 hj) with h3 | h3
      · exact ih.2 h1 j h3
      · subst h3; exact h2
theorem bits_inj {a b : Dig} (h : ∀ j, j < 256 → a.bit j = b.bit j) : a = b := by
  have := (prefix_iff a b 256 (Nat.le_refl _)).1 h
  simp at this
  exact Dig.num_inj this
theorem shared_full {a b : Dig} (h : sharedB a b = 256) : a = b := bits_inj fun j hj => sharedB_eq (by omega)
/-- Order, by the first bit that is not shared. -/
theorem ahead_at {a b : Dig} {n : Nat} (hn : n < 256) (h : ∀ j, j < n → a.bit j = b.bit j) (hne : a.bit n ≠ b.bit n) : aheadB a b = decide (a.bit n < b.bit n) := by
  have hp := (prefix_iff a b n (by omega)).1 h
  have ea := half_step a.num (256 - (n + 1))
  have eb := half_step b.num (256 - (n + 1))
  rw [show 256 - (n + 1) + 1 = 256 - n by omega] at ea eb
  have ha := a.bit_num n hn
  have hb := b.bit_num n hn
  rw [show 255 - n = 256 - (n + 1) by omega] at ha hb
  rw [← ha] at ea
  rw [← hb] at eb
  have la := a.bit_lt n
  have lb := b.bit_lt n
  unfold aheadB
  have mono : ∀ x y : Nat, x / 2 ^ (256 - (n + 1)) < y / 2 ^ (256 - (n + 1)) → x < y := fun x y h => by
    rcases Nat.lt_or_ge x y with h1 | h1
    · exact h1
    · have := Nat.div_le_div_right (c := 2 ^ (256 - (n + 1))) h1; omega
  by_cases hlt : a.bit n < b.bit n
  · have := mono a.num b.num (by omega)
    simp [this, hlt]
  · have := mono b.num a.num (by omega)
    have h2 : ¬ a.num < b.num := by omega
    simp [h2, hlt]
theorem ahead_shared (a b : Dig) : aheadB a b = (decide (sharedB a b < 256) && decide (a.bit (sharedB a b) < b.bit (sharedB a b))) := by
  by_cases h : sharedB a b < 256
  · rw [ahead_at h (fun j hj => sharedB_eq hj) (sharedB_ne h)]
    simp [h]
  · have hle := sharedB_le a b
    have := shared_full (a := a) (b := b) (by omega)
    subst this
    simp [aheadB, h]
end Go.Proofs.YtefneilaongpbaaDoor
/-
  A key with a bit turned; the key of zeros.
-/
set_option linter.unusedVariables false
set_option linter.unusedSimpArgs false
set_option maxRecDepth 100000
namespace Go.Proofs.YtefneilaongpbaaDoor
open Go Go.Bd
/-! ### A bit turned -/
def maskB (i : Nat) : UInt8 := UInt8.ofNat (2 ^ (7 - i % 8))
def Dig.turn (k : Dig) (i : Nat) : Dig := ⟨k.1.set (i / 8) (k.at (i / 8) ^^^ maskB i), by rw [List.length_set]; exact k.2⟩
theorem turn_byte : ∀ (c : Fin 256) (r s : Fin 8), (c.1 ^^^ 2 ^ (7 - r.1)) / 2 ^ (7 - s.1) % 2 = if s = r then 1 - c.1 / 2 ^ (7 - s.1) % 2 else c.1 / 2 ^ (7 - s.1) % 2 := by decide +kernel
theorem turn_lt : ∀ (c : Fin 256) (r : Fin 8), c.1 ^^^ 2 ^ (7 - r.1) < 256 := by decide +kernel
theorem Dig.turn_at (k : Dig) {i j : Nat} (hi : i < 256) : (k.turn i).at j = if j = i / 8 then k.at j ^^^ maskB i else k.at j := by
  unfold Dig.turn Dig.at
  simp only [List.getD_eq_getElem?_getD, List.getElem?_set]
  have hl := k.2
  by_cases h : i / 8 = j
  · subst h
    simp only [if_true]
    rw [if_pos (by rw [hl]; omega)]
    rfl
  · rw [if_neg h, if_neg (fun e => h e.symm)]
theorem mask_toNat (i : Nat) : (maskB i).toNat = 2 ^ (7 - i % 8) := by
  unfold maskB
  have : ∀ r : Fin 8, (UInt8.ofNat (2 ^ (7 - r.1))).toNat = 2 ^ (7 - r.1) := by decide
  exact this ⟨i % 8, Nat.mod_lt _ (by omega)⟩
theorem Dig.turn_bit (k : Dig) {i j : Nat} (hi : i < 256) : (k.turn i).bit j = if j = i then 1 - k.bit j else k.bit j := by
  unfold Dig.bit
  rw [k.turn_at hi]
  by_cases h : j / 8 = i / 8
  · rw [if_pos h]
    have hx := turn_byte ⟨(k.at (j / 8)).toNat, UInt8.toNat_lt _⟩ ⟨i % 8, Nat.mod_lt _ (by omega)⟩ ⟨j % 8, Nat.mod_lt _ (by omega)⟩
    simp only [Fin.mk.injEq] at hx
    rw [UInt8.toNat_xor, mask_toNat, hx]
    by_cases e : j = i
    · subst e; simp
    · rw [if_neg e, if_neg (by omega)]
  · rw [if_neg h, if_neg (fun e => h (by rw [e]))]
theorem Dig.turn_other (k : Dig) {i j : Nat} (hi : i < 256) (hj : j ≠ i) : (k.turn i).bit j = k.bit j := by rw [k.turn_bit hi, if_neg hj]
theorem Dig.turn_same (k : Dig) {i : Nat} (hi : i < 256) : (k.turn i).bit i = 1 - k.bit i := by rw [k.turn_bit hi, if_pos rfl]
def dig0 : Dig := ⟨List.replicate 32 0, by simp⟩
theorem dig0_bit (i : Nat) : dig0.bit i = 0 := by
  have : dig0.at (i / 8) = 0 := by
    unfold dig0 Dig.at
    rw [List.getD_eq_getElem?_getD, List.getElem?_replicate]
    split <;> rfl
  unfold Dig.bit
  rw [this]
  simp
end Go.Proofs.YtefneilaongpbaaDoor
