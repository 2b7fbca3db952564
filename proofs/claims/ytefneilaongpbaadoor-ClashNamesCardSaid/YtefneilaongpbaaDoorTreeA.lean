import Derived.Test.YtefneilaongpbaaDoorPrf1
import Derived.Test.YtefneilaongpbaaDoorPrf
import Derived.Test.YtefneilaongpbaaDoorTrie
import Derived.Test.YtefneilaongpbaaDoorOwnP
/-
  Nodes; the small functions of trees: roads, fork, bit, turned keys; may a node be.
-/
set_option linter.unusedVariables false
set_option linter.unusedSimpArgs false
set_option maxRecDepth 100000
set_option maxHeartbeats 4000000
namespace Go.Proofs.YtefneilaongpbaaDoor
open Go Go.Bd Go.RowKit
attribute [local irreducible] G GL GQ GS

abbrev ndv (x : Node) (u : Value) : Value := .agg (ncells x u).toArray
abbrev tv (u : Value) (r : Int) : Value := .agg #[u, iv r]
abbrev lv (l r : Int) : Value := .agg #[iv l, iv r]
theorem ncells_one (x : Node) {u : Value} (hu : u.oneCell' = true) : ∀ c ∈ ncells x u, c.oneCell' = true := by
  intro c hc
  simp only [ncells, List.mem_append, List.mem_cons, List.not_mem_nil, or_false] at hc
  rcases hc with rfl | h | rfl | rfl | rfl
  · rfl
  · exact x.key.one _ h
  · exact hu
  · rfl
  · rfl
structure NAt (S : Where) (w : World) (b o : Nat) (x : Node) (u : Value) : Prop where
  leaf : At S w b o [.bool x.leaf]
  key : At S w b (o + 1) x.key.cells
  val : At S w b (o + 33) [u]
  left : At S w b (o + 34) [iv x.left]
  right : At S w b (o + 35) [iv x.right]
theorem nAt {S : Where} {w : World} {b o : Nat} {x : Node} {u : Value} (h : At S w b o (ncells x u)) : NAt S w b o x u :=
  ⟨h.sub [] [_] (q := x.key.cells ++ [u, iv x.left, iv x.right]) rfl rfl,
   h.sub [.bool x.leaf] x.key.cells (q := [u, iv x.left, iv x.right]) rfl rfl,
   h.sub (.bool x.leaf :: x.key.cells) [u] (q := [iv x.left, iv x.right]) (by simp [ncells]) (by simp [Dig.len]),
   h.sub (.bool x.leaf :: (x.key.cells ++ [u])) [iv x.left] (q := [iv x.right]) (by simp [ncells]) (by simp [Dig.len]),
   h.sub (.bool x.leaf :: (x.key.cells ++ [u, iv x.left])) [iv x.right] (q := []) (by simp [ncells]) (by simp [Dig.len])⟩
theorem RdN.isSlice {S : Where} {w : World} {v : Value} {ns : List Node} (h : RdN S w v ns) : ∃ p c, v = .slice p ns.length c ∧ ns.length ≤ c := by
  obtain ⟨es, _, h⟩ := h
  exact h.isSlice
/-- Node i of a slice. -/
theorem RdN.elem {S : Where} {w : World} {v : Value} {ns : List Node} (h : RdN S w v ns) {i : Nat} {x : Node} (hx : ns[i]? = some x) :
    ∃ b o c u, v = .slice (some ⟨b, o, none⟩) ns.length c ∧ RdB S w u x.val ∧ At S w b (o + i * 36) (ncells x u) := by
  obtain ⟨b, o, c, e, hv, ⟨u, rfl, hu⟩, hA⟩ := RdL.elem 36 nodeC_len h hx (by omega)
  exact ⟨b, o, c, u, hv, hu, hA⟩
theorem tvAt {S : Where} {w : World} {b : Nat} {u : Value} {r : Int} (h : At S w b 0 [u, iv r]) : At S w b 0 [u] ∧ At S w b 1 [iv r] :=
  ⟨h.sub [] [u] (q := [iv r]) rfl rfl, h.sub [u] [iv r] (q := []) rfl rfl⟩

theorem roads_call (x : Node) (u : Value) (w : World) : Does Tryd.prog 97 #[ndv x u] w fun v w' => v = lv x.left x.right ∧ Ext w w' := by
  refine call_walk Tryd.func97 (by kernel_rfl) rfl Tryd.ntmps97 rfl ?_
  refine St0 ?_
  refine GL.box rfl rfl rfl rfl fun b w1 hb hB he => ?_
  refine GL.alloc hT rfl rfl rfl fun b2 w2 hb2 hB2 he2 => ?_
  replace hB := hB.ext he2
  have hN := nAt hB.all
  refine St2 (hN.left) (hN.right) ?_
  refine GL.buildArr [iv x.left, iv x.right] hT rfl rfl rfl rfl rfl rfl rfl ?_
  refine GL.storeVar (vs := [iv x.left, iv x.right]) hT rfl rfl rfl rfl rfl rfl (by intro c hc; simp at hc; rcases hc with rfl | rfl <;> rfl) hB2 rfl fun w3 hc3 hB3 => ?_
  refine St0 ?_
  refine G.retN (vs := [iv x.left, iv x.right]) rfl rfl hT rfl rfl rfl rfl hB3.all rfl ⟨rfl, ?_⟩
  have := he.size
  exact hc3.below (by omega) (he.trans he2)
theorem fork_call (l r : Int) (w : World) : Does Tryd.prog 165 #[lv l r] w fun v w' => v = ndv (forkOf l r) (.slice none 0 0) ∧ Ext w w' := by
  refine call_walk Tryd.func165 (by kernel_rfl) rfl Tryd.ntmps165 rfl ?_
  refine St0 ?_
  refine GL.box rfl rfl rfl rfl fun b w1 hb hB he => ?_
  refine GL.alloc hT rfl rfl rfl fun b2 w2 hb2 hB2 he2 => ?_
  replace hB := hB.ext he2
  refine St0 ?_
  (refine GL.indexArr (0) 1 (0) hT rfl rfl rfl rfl rfl rfl rfl rfl ?_ ?_ ?_ ?_; (focus omega); (focus omega); (focus omega))
  refine St2 ((tvAt hB.all).1) ((tvAt hB.all).2) ?_
  (refine GL.indexArr (1) 1 (1) hT rfl rfl rfl rfl rfl rfl rfl rfl ?_ ?_ ?_ ?_; (focus omega); (focus omega); (focus omega))
  refine St2 ((tvAt hB.all).1) ((tvAt hB.all).2) ?_
  refine GL.build (ncells (forkOf l r) (.slice none 0 0)) hT rfl rfl rfl rfl rfl rfl (by rfl) ?_
  refine GL.storeVar (vs := ncells (forkOf l r) (.slice none 0 0)) hT rfl rfl rfl rfl rfl (ncells_len _ _) (ncells_one _ rfl) hB2 (by rw [ncells_len]; decide) fun w3 hc3 hB3 => ?_
  refine St0 ?_
  refine G.retN (vs := ncells (forkOf l r) (.slice none 0 0)) rfl rfl hT rfl rfl rfl rfl hB3.all (ncells_len _ _) ⟨rfl, ?_⟩
  have := he.size
  exact hc3.below (by omega) (he.trans he2)
theorem bit6_call (k : Dig) (i : Nat) (hi : i < 256) (w : World) : Does Tryd.prog 98 #[dv k, iv i] w fun v w' => v = .int .u8 (k.bit i : Nat) ∧ Ext w w' := by
  refine call_walk Tryd.func98 (by kernel_rfl) rfl Tryd.ntmps98 rfl ?_
  refine St0 ?_
  refine GL.box rfl rfl rfl rfl fun b w1 hb hB he => ?_
  refine St1 (hB.all) ?_
  refine GL.call rfl rfl rfl (bit_call k i hi w1) ?_
  rintro v w2 ⟨rfl, he2⟩
  refine St0 ?_
  exact G.ret1 rfl rfl rfl rfl ⟨rfl, he.trans he2⟩
theorem run_add_u8 (x y : UInt8) (w : World) {P : Program} {t : TypeId} {a b : Operand} : (do eqGuard .add t a b (bv x) (bv y); binOp .add t (bv x) (bv y) : Sem Value).run P w = .ok (bv (x + y)) w := by
  have e : IntKind.u8.wrap ((x.toNat : Int) + (y.toNat : Int)) = ((x + y).toNat : Int) := by
    rw [UInt8.toNat_add]
    simp only [IntKind.wrap, IntKind.signed, IntKind.bits]
    simp
  show Result.ok (Value.int .u8 (IntKind.u8.wrap ((x.toNat : Int) + (y.toNat : Int)))) w = _
  rw [e]
theorem run_sub_u8 (x y : UInt8) (w : World) {P : Program} {t : TypeId} {a b : Operand} : (do eqGuard .sub t a b (bv x) (bv y); binOp .sub t (bv x) (bv y) : Sem Value).run P w = .ok (bv (x - y)) w := by
  have e : IntKind.u8.wrap ((x.toNat : Int) - (y.toNat : Int)) = ((x - y).toNat : Int) := by
    rw [UInt8.toNat_sub]
    have := x.toNat_lt
    have := y.toNat_lt
    simp only [IntKind.wrap, IntKind.signed, IntKind.bits]
    simp
    omega
  show Result.ok (Value.int .u8 (IntKind.u8.wrap ((x.toNat : Int) - (y.toNat : Int)))) w = _
  rw [e]
theorem run_dbl_u8 (x : Nat) (hx : 2 * x < 256) (w : World) {P : Program} {t : TypeId} {a b : Operand} : (do eqGuard .mul t a b (.int .u8 2) (.int .u8 (x : Int)); binOp .mul t (.int .u8 2) (.int .u8 (x : Int)) : Sem Value).run P w = .ok (.int .u8 ((2 * x : Nat) : Int)) w := by
  have e : IntKind.u8.wrap (2 * (x : Int)) = ((2 * x : Nat) : Int) := by rw [wrap_u8 (by omega) (by omega)]; omega
  show Result.ok (Value.int .u8 (IntKind.u8.wrap (2 * (x : Int)))) w = _
  rw [e]
theorem mask_xor : ∀ (c : Fin 256) (r : Fin 8), (c.1 / 2 ^ (7 - r.1) % 2 = 1 → UInt8.ofNat c.1 - UInt8.ofNat (2 ^ (7 - r.1)) = UInt8.ofNat c.1 ^^^ UInt8.ofNat (2 ^ (7 - r.1))) ∧ (c.1 / 2 ^ (7 - r.1) % 2 ≠ 1 → UInt8.ofNat c.1 + UInt8.ofNat (2 ^ (7 - r.1)) = UInt8.ofNat c.1 ^^^ UInt8.ofNat (2 ^ (7 - r.1))) := by decide +kernel
theorem mask_sub {k : Dig} {i : Nat} (h : k.bit i = 1) : k.at (i / 8) - maskB i = k.at (i / 8) ^^^ maskB i := by
  have := (mask_xor ⟨(k.at (i / 8)).toNat, UInt8.toNat_lt _⟩ ⟨i % 8, Nat.mod_lt _ (by omega)⟩).1 h
  simpa [maskB] using this
theorem mask_add {k : Dig} {i : Nat} (h : k.bit i ≠ 1) : k.at (i / 8) + maskB i = k.at (i / 8) ^^^ maskB i := by
  have := (mask_xor ⟨(k.at (i / 8)).toNat, UInt8.toNat_lt _⟩ ⟨i % 8, Nat.mod_lt _ (by omega)⟩).2 h
  simpa [maskB] using this
theorem turn_cells (k : Dig) (i : Nat) : (k.turn i).cells = k.cells.set (i / 8) (bv (k.at (i / 8) ^^^ maskB i)) := by simp [Dig.turn, Dig.cells, List.map_set]
theorem mask_shr : ∀ r : Fin 8, (128 : Nat) / 2 ^ r.1 = 2 ^ (7 - r.1) := by decide
theorem turn_call (k : Dig) (i : Nat) (hi : i < 256) (w : World) : Does Tryd.prog 163 #[dv k, iv i] w fun v w' => v = .tuple #[dv (k.turn i), iv 0] ∧ Ext w w' := by
  refine call_walk Tryd.func163 (by kernel_rfl) rfl Tryd.ntmps163 rfl ?_
  refine St0 ?_
  refine GL.box rfl rfl rfl rfl fun b2 w1 hb2 hB2 he1 => ?_
  refine GL.alloc hT rfl rfl rfl fun b4 w2 hb4 hB4 he2 => ?_
  have s1 := he1.size
  have l2 := hB2.lt
  replace hB2 := hB2.ext he2
  refine St0 ?_
  refine G.quietTail 8 follows (by kernel_rfl) (by kernel_rfl) (by kernel_rfl) (by kernel_rfl) ?_
  refine QSt0 ?_
  (refine GQ.indexArr ((i / 8)) 1 ((i / 8)) hT rfl rfl rfl rfl rfl rfl rfl rfl ?_ ?_ ?_ ?_; (focus omega); (focus omega); (focus omega))
  refine QSt1 ((hB2.one (k.cell_at (i / 8) (by omega)))) ?_
  refine GQ.bin (v := bv (maskB i)) rfl rfl rfl rfl (fun w => ?_) ?_
  · have h := run_shr_u8 128 (i % 8) (by omega) w (P := Tryd.prog) (t := 5) (a := .const undef) (b := .const undef)
    rw [mask_shr ⟨i % 8, Nat.mod_lt _ (by omega)⟩, ← mask_toNat i] at h
    rw [show (i : Int) % 8 = ((i % 8 : Nat) : Int) by omega]
    exact h
  refine GQ.bin rfl rfl rfl rfl (fun w => run_xor_u8 _ _ w) ?_
  refine GQ.tail fun w3 he3 => ?_
  (refine GL.indexArr ((i / 8)) 1 ((i / 8)) hT rfl rfl rfl rfl rfl rfl rfl rfl ?_ ?_ ?_ ?_; (focus omega); (focus omega); (focus omega))
  refine GL.store1 hT rfl rfl rfl rfl rfl rfl rfl (hB2.ext he3) (by rw [k.len]; omega) fun w4 hc4 hB4' => ?_
  have s2 := he2.size
  have s3 := he3.size
  have hE4 : Ext w w4 := hc4.below (by omega) ((he1.trans he2).trans he3)
  have l4 := hB4.lt
  replace hB4 := (hB4.ext he3).chg hc4 (by omega)
  rw [← turn_cells] at hB4'
  refine St1 (hB4'.all) ?_
  refine GL.storeVar hT rfl rfl rfl rfl rfl (Dig.len _) (Dig.one _) hB4 (by rw [Dig.len]; decide) fun w5 hc5 hB5 => ?_
  refine St0 ?_
  refine G.retNt rfl rfl hT rfl rfl rfl rfl rfl hB5.all (Dig.len _) ⟨rfl, hc5.below (by omega) hE4⟩
theorem refTurn4_call (k : Dig) (i : Nat) (hi : i < 256) (w : World) : Does Tryd.prog 170 #[dv k, iv i] w fun v w' => v = .tuple #[dv (k.turn i), iv 0] ∧ Ext w w' := by
  refine call_walk Tryd.func170 (by kernel_rfl) rfl Tryd.ntmps170 rfl ?_
  refine St0 ?_
  refine GL.box rfl rfl rfl rfl fun b2 w1 hb2 hB2 he1 => ?_
  refine GL.alloc hT rfl rfl rfl fun b4 w2 hb4 hB4 he2 => ?_
  have s1 := he1.size
  have l2 := hB2.lt
  have l4 := hB4.lt
  replace hB2 := hB2.ext he2
  have hE2 := he1.trans he2
  refine St0 ?_
  refine G.sub (f' := [(7, iv ((7 : Nat) : Int)), (6, .int .u8 ((2 ^ (7 - 7) : Nat) : Int)), (5, iv 0), (1, iv i), (2, ptr b2 0), (4, ptr b4 0)]) (by (repeat (first | exact Fr.sub_nil _ | refine Fr.sub_cons rfl ?_))) ?_
  refine G.rounds (α := Nat) (fun j f w' => i % 8 ≤ j ∧ j ≤ 7 ∧ w' = w2 ∧ f = [(7, iv j), (6, .int .u8 ((2 ^ (7 - j) : Nat) : Int)), (5, iv 0), (1, iv i), (2, ptr b2 0), (4, ptr b4 0)]) (fun j => j) ?round 7 ⟨by omega, by omega, rfl, rfl⟩
  rintro j f w' ⟨h1, h2, rfl, rfl⟩ again
  by_cases hlt : (j : Int) > (i : Int) % 8
  · refine St0 ?_
    have hp : 2 * 2 ^ (7 - j) < 256 ∧ 2 * 2 ^ (7 - j) = 2 ^ (7 - (j - 1)) := by
      have : ∀ j : Fin 8, 0 < j.1 → 2 * 2 ^ (7 - j.1) < 256 ∧ 2 * 2 ^ (7 - j.1) = 2 ^ (7 - (j.1 - 1)) := by decide
      exact this ⟨j, by omega⟩ (by simp; omega)
    refine GL.bin rfl rfl rfl rfl (fun w => run_dbl_u8 _ hp.1 w) ?_
    refine St0 ?_
    refine G.sub ?_ (again (j - 1) _ _ (by omega) ⟨by omega, by omega, rfl, rfl⟩)
    have e1 : (iv ((j : Int) - 1)) = iv ((j - 1 : Nat) : Int) := by congr 1; omega
    rw [e1, hp.2]
    (repeat (first | exact Fr.sub_nil _ | refine Fr.sub_cons rfl ?_))
  · have hj : j = i % 8 := by omega
    subst hj
    rw [← mask_toNat i]
    refine St1 (hB2.all) ?_
    refine GL.call rfl rfl rfl (refAt_call k i hi w') ?_
    rintro v w3 ⟨rfl, he3⟩
    replace hB2 := hB2.ext he3
    replace hB4 := hB4.ext he3
    have s3 := he3.size
    have s2 := he2.size
    by_cases hbit : ((k.bit i : Nat) : Int) = 1
    · refine St0 ?_
      (refine GL.indexArr ((i / 8)) 1 ((i / 8)) hT rfl rfl rfl rfl rfl rfl rfl rfl ?_ ?_ ?_ ?_; (focus omega); (focus omega); (focus omega))
      refine St1 ((hB2.one (k.cell_at (i / 8) (by omega)))) ?_
      refine GL.bin rfl rfl rfl rfl (fun w => run_sub_u8 _ (maskB i) w) ?_
      (refine GL.indexArr ((i / 8)) 1 ((i / 8)) hT rfl rfl rfl rfl rfl rfl rfl rfl ?_ ?_ ?_ ?_; (focus omega); (focus omega); (focus omega))
      rw [mask_sub (by omega)]
      refine GL.store1 hT rfl rfl rfl rfl rfl rfl rfl hB2 (by rw [k.len]; omega) fun w4 hc4 hB2' => ?_
      have hE4 : Ext w w4 := hc4.below (by omega) (hE2.trans he3)
      replace hB4 := hB4.chg hc4 (by omega)
      rw [← turn_cells] at hB2'
      refine St1 (hB2'.all) ?_
      refine GL.storeVar hT rfl rfl rfl rfl rfl (Dig.len _) (Dig.one _) hB4 (by rw [Dig.len]; decide) fun w5 hc5 hB5 => ?_
      refine St0 ?_
      refine G.retNt rfl rfl hT rfl rfl rfl rfl rfl hB5.all (Dig.len _) ⟨rfl, hc5.below (by omega) hE4⟩
    · refine St0 ?_
      (refine GL.indexArr ((i / 8)) 1 ((i / 8)) hT rfl rfl rfl rfl rfl rfl rfl rfl ?_ ?_ ?_ ?_; (focus omega); (focus omega); (focus omega))
      refine St1 ((hB2.one (k.cell_at (i / 8) (by omega)))) ?_
      refine GL.bin rfl rfl rfl rfl (fun w => run_add_u8 _ (maskB i) w) ?_
      (refine GL.indexArr ((i / 8)) 1 ((i / 8)) hT rfl rfl rfl rfl rfl rfl rfl rfl ?_ ?_ ?_ ?_; (focus omega); (focus omega); (focus omega))
      rw [mask_add (by omega)]
      refine GL.store1 hT rfl rfl rfl rfl rfl rfl rfl hB2 (by rw [k.len]; omega) fun w4 hc4 hB2' => ?_
      have hE4 : Ext w w4 := hc4.below (by omega) (hE2.trans he3)
      replace hB4 := hB4.chg hc4 (by omega)
      rw [← turn_cells] at hB2'
      refine St1 (hB2'.all) ?_
      refine GL.storeVar hT rfl rfl rfl rfl rfl (Dig.len _) (Dig.one _) hB4 (by rw [Dig.len]; decide) fun w5 hc5 hB5 => ?_
      refine St0 ?_
      refine G.retNt rfl rfl hT rfl rfl rfl rfl rfl hB5.all (Dig.len _) ⟨rfl, hc5.below (by omega) hE4⟩
end Go.Proofs.YtefneilaongpbaaDoor
/-
  May a node be, may a tree be.
-/
set_option linter.unusedVariables false
set_option linter.unusedSimpArgs false
set_option maxRecDepth 100000
set_option maxHeartbeats 4000000
namespace Go.Proofs.YtefneilaongpbaaDoor
open Go Go.Bd Go.RowKit
attribute [local irreducible] G GL GQ GS

theorem RdB.any {S : Where} {w : World} {v : Value} {bs : Bytes} (h : RdB S w v bs) : RdB any w v bs := h.imp fun _ _ _ => trivial
theorem Dig.zero_dig0 : Dig.zero = dig0 := rfl
theorem refOne6_call (x : Node) (u : Value) (n : Nat) (hn : n ≤ 1000000) (S : Where) (w : World) (h : RdB S w u x.val) : Does Tryd.prog 147 #[ndv x u, iv n] w fun r w' => r = .bool (oneB x n) ∧ Ext w w' := by
  refine call_walk Tryd.func147 (by kernel_rfl) rfl Tryd.ntmps147 rfl ?_
  obtain ⟨pu, cu, rfl, hcu⟩ := RdF.isSlice h
  refine St0 ?_
  refine GL.box rfl rfl rfl rfl fun b w1 hb hB he => ?_
  have hN := nAt hB.all
  obtain ⟨lf, k, bs, l, r⟩ := x
  obtain ⟨h1, h2, h3, h4, h5⟩ := hN
  simp only at h1 h2 h3 h4 h5 h ⊢
  cases lf
  · refine St1 (h1) ?_
    by_cases hc1 : l < 0
    · refine St2 (h4) (h5) ?_
      exact G.ret1 rfl rfl rfl rfl ⟨by simp [oneB]; omega, he⟩
    by_cases hc2 : l > n
    · refine St2 (h4) (h5) ?_
      exact G.ret1 rfl rfl rfl rfl ⟨by simp [oneB]; omega, he⟩
    by_cases hc3 : r < 0
    · refine St2 (h4) (h5) ?_
      exact G.ret1 rfl rfl rfl rfl ⟨by simp [oneB]; omega, he⟩
    by_cases hc4 : r > n
    · refine St2 (h4) (h5) ?_
      exact G.ret1 rfl rfl rfl rfl ⟨by simp [oneB]; omega, he⟩
    by_cases hc5 : l = 0
    · by_cases hc6 : r = 0
      · refine St2 (h4) (h5) ?_
        exact G.ret1 rfl rfl rfl rfl ⟨by simp [oneB]; omega, he⟩
      · refine St2 (h4) (h5) ?_
        by_cases hz : k = Dig.zero
        · refine St2 (h2) (h3) ?_
          by_cases hl : (bs.length : Int) = 0
          · refine St0 ?_
            have hl' := nil_iff.1 hl
            exact G.ret1 rfl rfl rfl rfl ⟨by rw [Dig.zero_dig0] at hz; simp [oneB, hz, hl']; omega, he⟩
          · refine St0 ?_
            have hl' := mt nil_iff.2 hl
            exact G.ret1 rfl rfl rfl rfl ⟨by simp [oneB, hl'], he⟩
        · refine St2 (h2) (h3) ?_
          rw [Dig.zero_dig0] at hz
          exact G.ret1 rfl rfl rfl rfl ⟨by simp [oneB, hz], he⟩
    · refine St2 (h4) (h5) ?_
      by_cases hz : k = Dig.zero
      · refine St2 (h2) (h3) ?_
        by_cases hl : (bs.length : Int) = 0
        · refine St0 ?_
          have hl' := nil_iff.1 hl
          exact G.ret1 rfl rfl rfl rfl ⟨by rw [Dig.zero_dig0] at hz; simp [oneB, hz, hl']; omega, he⟩
        · refine St0 ?_
          have hl' := mt nil_iff.2 hl
          exact G.ret1 rfl rfl rfl rfl ⟨by simp [oneB, hl'], he⟩
      · refine St2 (h2) (h3) ?_
        rw [Dig.zero_dig0] at hz
        exact G.ret1 rfl rfl rfl rfl ⟨by simp [oneB, hz], he⟩
  · refine St2 (h1) (h3) ?_
    refine GL.call rfl rfl rfl (refValue_call pu bs.length cu w1) ?_
    rintro r' w2 ⟨rfl, rfl⟩
    cases hv : valB bs.length
    · refine St0 ?_
      exact G.ret1 rfl rfl rfl rfl ⟨by simp [oneB, hv], he⟩
    by_cases hc1 : l = 0
    · by_cases hc2 : r = 0
      · refine St2 (h4) (h5) ?_
        exact G.ret1 rfl rfl rfl rfl ⟨by simp [oneB, hv]; omega, he⟩
      · refine St2 (h4) (h5) ?_
        exact G.ret1 rfl rfl rfl rfl ⟨by simp [oneB, hv]; omega, he⟩
    · refine St2 (h4) (h5) ?_
      exact G.ret1 rfl rfl rfl rfl ⟨by simp [oneB, hv]; omega, he⟩
theorem one6_call (x : Node) (u : Value) (n : Nat) (hn : n ≤ 1000000) (S : Where) (w : World) (h : RdB S w u x.val) : Does Tryd.prog 122 #[ndv x u, iv n] w fun r w' => r = .bool (oneB x n) ∧ Ext w w' := by
  refine call_walk Tryd.func122 (by kernel_rfl) rfl Tryd.ntmps122 rfl ?_
  refine St0 ?_
  refine GL.box rfl rfl rfl rfl fun b w1 hb hB he => ?_
  have hN := nAt hB.all
  obtain ⟨lf, k, bs, l, r⟩ := x
  obtain ⟨h1, h2, h3, h4, h5⟩ := hN
  simp only at h1 h2 h3 h4 h5 h
  cases lf
  · refine St2 (h1) (hB.all) ?_
    refine GL.call rfl rfl rfl (roads_call _ _ w1) ?_
    rintro v w2 ⟨rfl, he2⟩
    have hE := he.trans he2
    obtain ⟨pu, cu, rfl, hcu⟩ := RdF.isSlice h
    replace h1 := h1.ext he2
    replace h2 := h2.ext he2
    replace h3 := h3.ext he2
    replace h4 := h4.ext he2
    replace h5 := h5.ext he2
    refine St0 ?_
    refine G.loop ?_
    refine St0 ?_
    refine GL.indexV (0) hT rfl rfl rfl rfl rfl rfl rfl rfl rfl (by omega) (by omega) rfl ?_
    by_cases hc1 : l < 0
    · refine St0 ?_
      exact G.ret1 rfl rfl rfl rfl ⟨by simp [oneB]; omega, hE⟩
    by_cases hc2 : l > n
    · refine St0 ?_
      exact G.ret1 rfl rfl rfl rfl ⟨by simp [oneB]; omega, hE⟩
    refine St0 ?_
    refine G.inLoop ?_
    refine St0 ?_
    refine GL.indexV (1) hT rfl rfl rfl rfl rfl rfl rfl rfl rfl (by omega) (by omega) rfl ?_
    by_cases hc3 : r < 0
    · refine St0 ?_
      exact G.ret1 rfl rfl rfl rfl ⟨by simp [oneB]; omega, hE⟩
    by_cases hc4 : r > n
    · refine St0 ?_
      exact G.ret1 rfl rfl rfl rfl ⟨by simp [oneB]; omega, hE⟩
    refine St0 ?_
    refine G.inLoop ?_
    by_cases hz : k = Dig.zero
    · refine St2 (h2) (h3) ?_
      by_cases hl : (bs.length : Int) = 0
      · have hl' := nil_iff.1 hl
        rw [Dig.zero_dig0] at hz
        by_cases hc5 : l + r > 0
        · refine St2 (h4) (h5) ?_
          exact G.ret1 rfl rfl rfl rfl ⟨by simp [oneB, hz, hl']; omega, hE⟩
        · refine St2 (h4) (h5) ?_
          exact G.ret1 rfl rfl rfl rfl ⟨by simp [oneB, hz, hl']; omega, hE⟩
      · refine St0 ?_
        have hl' := mt nil_iff.2 hl
        exact G.ret1 rfl rfl rfl rfl ⟨by simp [oneB, hl'], hE⟩
    · refine St2 (h2) (h3) ?_
      rw [Dig.zero_dig0] at hz
      exact G.ret1 rfl rfl rfl rfl ⟨by simp [oneB, hz], hE⟩
  · by_cases hc1 : l = 0
    · by_cases hc2 : r = 0
      · refine St5 (h1) (h2) (h3) (h4) (h5) ?_
        refine GL.build (k.cells ++ [u]) hT rfl rfl rfl rfl rfl rfl (pair_fill k h.some) ?_
        refine GL.buildSlice (k.cells ++ [u]) hT rfl rfl rfl rfl rfl rfl rfl (fillL_one rfl (pcell_len _ _) (madeLen _ _)) fun b2 w2 hb2 hB2 he2 => ?_
        have hP : RdP any w2 (.slice (some ⟨b2, 0, none⟩) 1 1) [⟨k, bs⟩] := by
          refine ⟨[k.cells ++ [u]], .cons ⟨_, rfl, (h.ext (he.trans he2)).any⟩ .nil, some ⟨b2, 0, none⟩, 1, rfl, Nat.le_refl _, .inr ⟨b2, 0, rfl, ?_⟩⟩
          simpa using hB2.all
        refine GL.call rfl rfl rfl (pcheck_call _ _ _ w2 hP) ?_
        rintro r' w3 ⟨rfl, he3⟩
        rw [mapB_one]
        cases hv : valB bs.length
        · have e0 : badE false = 8 := rfl
          rw [e0]
          refine St0 ?_
          exact G.ret1 rfl rfl rfl rfl ⟨by simp [oneB, hv], (he.trans he2).trans he3⟩
        · have e0 : badE true = 0 := rfl
          rw [e0]
          refine St0 ?_
          exact G.ret1 rfl rfl rfl rfl ⟨by simp [oneB, hv]; omega, (he.trans he2).trans he3⟩
      · refine St3 (h1) (h4) (h5) ?_
        exact G.ret1 rfl rfl rfl rfl ⟨by simp [oneB]; omega, he⟩
    · refine St3 (h1) (h4) (h5) ?_
      exact G.ret1 rfl rfl rfl rfl ⟨by simp [oneB]; omega, he⟩
end Go.Proofs.YtefneilaongpbaaDoor
/-
  Is a number right; may a tree be.
-/
set_option linter.unusedVariables false
set_option linter.unusedSimpArgs false
set_option maxRecDepth 100000
set_option maxHeartbeats 4000000
namespace Go.Proofs.YtefneilaongpbaaDoor
open Go Go.Bd Go.RowKit
attribute [local irreducible] G GL GQ GS

theorem _root_.Go.Bd.run_indexVN {P : Program} {n : Sz} {f : Fr} {tt : List (Nat × Ti)} {d : Nat} {ty : TypeId} {pos : String} {aft : Array Edge} {g : Option (Nat × Bool)} {t e : TypeId} {i ie : Ti} {x y : Operand} {m j sz : Nat} {K : IntKind} {A : Int} {cs vs : List Value} (hT : Tys P tt) (hi' : TT.get tt t = some i) (hdesc : i.desc = .arr m e) (hie : TT.get tt e = some ie) (hse : ie.size = sz) (hag : ie.desc.agg = true)
    (hx : ev f x = some (.agg cs.toArray)) (hy : ev f y = some (.int K A)) (hA : A = (j : Int)) (hj : j < m) (hv : (cs.drop (j * sz)).take sz = vs) (w : World) :
    ∀ a, St n f a → (execOp a.eval ⟨some d, .index t x y, ty, pos, aft, g⟩).run P w = .ok (.value (.agg vs.toArray)) w := by
  intro a ha
  have hu : P.underlying t = some (.array m e) := by have := (hT.ok t i hi').desc; rw [hdesc] at this; exact this
  have hsz := fun w => (hT.ok e ie hie).run_sizeOf w
  have hg := fun w => (hT.ok e ie hie).run_isAgg w
  rw [hse] at hsz
  rw [hag] at hg
  subst hv
  simp [execOp, Instr.index, ha.eval hx, ha.eval hy, asIntOf, run_underlying hu, hA, hj, hsz, part, hg]
theorem _root_.Go.Bd.GL.indexVN {P : Program} {n : Sz} {Q : Act → World → Prop} {f : Fr} {w : World} {ops : Array Oper} {rest : List Oper} {tt : List (Nat × Ti)} {d : Nat} {ty : TypeId} {pos : String} {aft : Array Edge} {g : Option (Nat × Bool)} {t e : TypeId} {i ie : Ti} {x y : Operand} {m : Nat} (j sz : Nat) {K : IntKind} {A : Int} {cs vs : List Value} (hT : Tys P tt) (hw : want ops f g = some true) (hlt : Nat.blt d n.size = true) (hi' : TT.get tt t = some i) (hdesc : i.desc = .arr m e) (hie : TT.get tt e = some ie) (hse : ie.size = sz) (hag : ie.desc.agg = true)
    (hx : ev f x = some (.agg cs.toArray)) (hy : ev f y = some (.int K A)) (hA : A = (j : Int)) (hj : j < m) (hv : (cs.drop (j * sz)).take sz = vs)
    (h : GL P n Q ops rest ((d, .agg vs.toArray) :: f) w) : GL P n Q ops (⟨some d, .index t x y, ty, pos, aft, g⟩ :: rest) f w :=
  GL.yields hw rfl hlt (run_indexVN hT hi' hdesc hie hse hag hx hy hA hj hv w) h
theorem CountR.neg {ns : List Node} {n d : Nat} {b : Dig} {c : Int} (h : CountR ns n d b c) (hc : c < 0) : CountR ns n d b (-1) := by
  rcases h with ⟨ps, h, rfl⟩ | ⟨h, rfl⟩
  · omega
  · exact .inr ⟨h, rfl⟩
theorem refRight_call (ns : List Node) (h1 : OneAll 0 ns) (hlen : ns.length ≤ 1000000) (m : Nat) : ∀ (n d : Nat) (b : Dig) (v : Value) (r : Int) (S : Where) (w : World), n < m → n ≤ ns.length → d ≤ 256 → RdN S w v ns →
    Does Tryd.prog 148 #[tv v r, iv n, iv d, dv b] w fun q w' => ∃ c, q = iv c ∧ CountR ns n d b c ∧ Ext w w' := by
  induction m with
  | zero => intro n d b v r S w hn; omega
  | succ m ih =>
    intro n d b v r S w hn hnl hd h
    refine call_walk Tryd.func148 (by kernel_rfl) rfl Tryd.ntmps148 rfl ?_
    obtain ⟨p, c, rfl, hc⟩ := h.isSlice
    refine St0 ?_
    refine GL.box (vs := [.slice p ns.length c, iv r]) rfl rfl rfl rfl fun b4 w1 hb4 hB4 he1 => ?_
    refine GL.box rfl rfl rfl rfl fun b7 w2 hb7 hB7 he2 => ?_
    have l4 := hB4.lt
    have l7 := hB7.lt
    have s1 := he1.size
    replace hB4 := hB4.ext he2
    have hE := he1.trans he2
    by_cases h0 : (n : Int) = 0
    · refine St0 ?_
      exact G.ret1 rfl rfl rfl rfl ⟨0, rfl, by obtain rfl : n = 0 := by omega
                                               exact CountR.zero _ _, hE⟩
    obtain ⟨i, rfl⟩ : ∃ i, n = i + 1 := ⟨n - 1, by omega⟩
    obtain ⟨x, hx⟩ : ∃ x, ns[i]? = some x := ⟨_, List.getElem?_eq_getElem (by omega)⟩
    obtain ⟨bb, o, c', u, hv, hu, hA⟩ := (h.ext hE).elem hx
    cases hv
    refine St1 ((tvAt hB4.all).1) ?_
    (refine GL.indexSlice (i) 36 ((o + i * 36)) hT rfl rfl rfl rfl rfl rfl rfl rfl ?_ ?_ ?_ ?_; (focus omega); (focus omega); (focus omega))
    refine St1 (hA) ?_
    refine GL.alloc hT rfl rfl rfl fun b9 w3 hb9 hB9 he3 => ?_
    have s2 := he2.size
    replace hB4 := hB4.ext he3
    replace hB7 := hB7.ext he3
    refine GL.storeVar hT rfl rfl rfl rfl rfl (ncells_len _ _) (ncells_one _ hu.one) hB9 (by rw [ncells_len]; decide) fun w4 hc4 hB9 => ?_
    have hE4 : Ext w w4 := hc4.below (by omega) (hE.trans he3)
    replace hB4 := hB4.chg hc4 (by omega)
    replace hB7 := hB7.chg hc4 (by omega)
    obtain ⟨hlf, hk, _, hleft, hright⟩ := nAt hB9.all
    cases hl : x.leaf
    · rw [hl] at hlf
      by_cases h256 : (d : Int) ≥ 256
      · refine St1 (hlf) ?_
        exact G.ret1 rfl rfl rfl rfl ⟨-1, rfl, CountR.deep hx hl (by omega), hE4⟩
      obtain ⟨l, rr, e1, e2, hl1, hl2, _, _, _⟩ := h1.fork (n := 0) hx hl
      rw [e1] at hleft
      rw [e2] at hright
      refine St2 (hlf) (hB7.all) ?_
      refine GL.call rfl rfl rfl (refTurn4_call b d (by omega) w4) ?_
      rintro _ w5 ⟨rfl, he5⟩
      replace hB4 := hB4.ext he5
      replace hB7 := hB7.ext he5
      replace hleft := hleft.ext he5
      replace hright := hright.ext he5
      refine St0 ?_
      refine GL.alloc hT rfl rfl rfl fun b10 w6 hb10 hB10 he6 => ?_
      have s3 := he3.size
      have s4 := hc4.size
      have s5 := he5.size
      have hE6 := hE4.trans (he5.trans he6)
      replace hB4 := hB4.ext he6
      replace hB7 := hB7.ext he6
      replace hleft := hleft.ext he6
      replace hright := hright.ext he6
      refine GL.storeVar hT rfl rfl rfl rfl rfl (Dig.len _) (Dig.one _) hB10 (by rw [Dig.len]; decide) fun w7 hc7 hB10 => ?_
      have hE7 : Ext w w7 := hc7.below (by omega) hE6
      replace hB4 := hB4.chg hc7 (by omega)
      replace hB7 := hB7.chg hc7 (by omega)
      have l9 := hB9.lt
      replace hleft := hleft.chg hc7 (by omega)
      replace hright := hright.chg hc7 (by omega)
      refine St3 (hB4.all) (hleft) (hB7.all) ?_
      rw [show (d : Int) + 1 = ((d + 1 : Nat) : Int) by omega]
      refine GL.call rfl rfl rfl (ih l (d + 1) b _ r any w7 (by omega) (by omega) (by omega) ((h.ext hE7).imp fun _ _ _ => trivial)) ?_
      rintro _ w8 ⟨ca, rfl, hca, he8⟩
      replace hB4 := hB4.ext he8
      replace hB10 := hB10.ext he8
      replace hright := hright.ext he8
      have hE8 := hE7.trans he8
      by_cases hneg : ca < 0
      · refine St0 ?_
        exact G.ret1 rfl rfl rfl rfl ⟨-1, rfl, CountR.badL hx hl e1 (hca.neg hneg), hE8⟩
      refine St3 (hB4.all) (hright) (hB10.all) ?_
      refine GL.call rfl rfl rfl (ih rr (d + 1) (b.turn d) _ r any w8 (by omega) (by omega) (by omega) ((h.ext hE8).imp fun _ _ _ => trivial)) ?_
      rintro _ w9 ⟨cb, rfl, hcb, he9⟩
      have hE9 := hE8.trans he9
      by_cases hneg2 : cb < 0
      · refine St0 ?_
        exact G.ret1 rfl rfl rfl rfl ⟨-1, rfl, CountR.badR hx hl e2 (hcb.neg hneg2), hE9⟩
      have hla := hca.le
      have hlb := hcb.le
      have hboth := CountR.both hx hl (by omega) e1 e2 hca hcb (by omega) (by omega)
      by_cases hsum : ca + cb < 2
      · rw [if_neg (by omega)] at hboth
        refine St0 ?_
        exact G.ret1 rfl rfl rfl rfl ⟨-1, rfl, hboth, hE9⟩
      · rw [if_pos (by omega)] at hboth
        refine St0 ?_
        exact G.ret1 rfl rfl rfl rfl ⟨2, rfl, hboth, hE9⟩
    · rw [hl] at hlf
      have hq := CountR.leaf (b := b) hx hl hd
      refine St3 (hlf) (hk) (hB7.all) ?_
      refine GL.call rfl rfl rfl (refShared_call x.key b w4) ?_
      rintro _ w5 ⟨rfl, he5⟩
      by_cases hs : (sharedB x.key b : Int) < d
      · rw [if_neg (by omega)] at hq
        refine St0 ?_
        exact G.ret1 rfl rfl rfl rfl ⟨-1, rfl, hq, hE4.trans he5⟩
      · rw [if_pos (by omega)] at hq
        refine St0 ?_
        exact G.ret1 rfl rfl rfl rfl ⟨1, rfl, hq, hE4.trans he5⟩
theorem CountR.cases {ns : List Node} {n d : Nat} {b : Dig} {c : Int} (h : CountR ns n d b c) : c = -1 ∨ (c = 0 ∧ n = 0) ∨ (c = 1 ∧ 0 < n) ∨ (c = 2 ∧ 0 < n) := by
  have h1 := h.le
  rcases Int.lt_or_le c 0 with hc | hc
  · rcases h with ⟨ps, h, rfl⟩ | ⟨h, rfl⟩
    · omega
    · exact .inl rfl
  · have := h.zero_iff hc
    omega
theorem right6_call (ns : List Node) (h1 : OneAll 0 ns) (hlen : ns.length ≤ 1000000) (m : Nat) : ∀ (n d : Nat) (b : Dig) (v : Value) (r : Int) (S : Where) (w : World), n < m → n ≤ ns.length → d ≤ 256 → RdN S w v ns →
    Does Tryd.prog 123 #[tv v r, iv n, iv d, dv b] w fun q w' => ∃ c : Int, q = .tuple #[.bool (decide (0 ≤ c)), .bool (decide (2 ≤ c))] ∧ CountR ns n d b c ∧ Ext w w' := by
  induction m with
  | zero => intro n d b v r S w hn; omega
  | succ m ih =>
    intro n d b v r S w hn hnl hd h
    refine call_walk Tryd.func123 (by kernel_rfl) rfl Tryd.ntmps123 rfl ?_
    obtain ⟨p, c, rfl, hc⟩ := h.isSlice
    refine St0 ?_
    refine GL.box (vs := [.slice p ns.length c, iv r]) rfl rfl rfl rfl fun b4 w1 hb4 hB4 he1 => ?_
    refine GL.box rfl rfl rfl rfl fun b7 w2 hb7 hB7 he2 => ?_
    have l4 := hB4.lt
    have l7 := hB7.lt
    have s1 := he1.size
    replace hB4 := hB4.ext he2
    have hE := he1.trans he2
    by_cases h0 : (n : Int) = 0
    · refine St0 ?_
      exact G.ret2 rfl rfl rfl rfl rfl ⟨0, rfl, by obtain rfl : n = 0 := by omega
                                                   exact CountR.zero _ _, hE⟩
    obtain ⟨i, rfl⟩ : ∃ i, n = i + 1 := ⟨n - 1, by omega⟩
    obtain ⟨x, hx⟩ : ∃ x, ns[i]? = some x := ⟨_, List.getElem?_eq_getElem (by omega)⟩
    obtain ⟨bb, o, c', u, hv, hu, hA⟩ := (h.ext hE).elem hx
    cases hv
    refine St1 ((tvAt hB4.all).1) ?_
    (refine GL.indexSlice (i) 36 ((o + i * 36)) hT rfl rfl rfl rfl rfl rfl rfl rfl ?_ ?_ ?_ ?_; (focus omega); (focus omega); (focus omega))
    refine St1 (hA) ?_
    refine GL.alloc hT rfl rfl rfl fun b9 w3 hb9 hB9 he3 => ?_
    have s2 := he2.size
    replace hB4 := hB4.ext he3
    replace hB7 := hB7.ext he3
    refine GL.storeVar hT rfl rfl rfl rfl rfl (ncells_len _ _) (ncells_one _ hu.one) hB9 (by rw [ncells_len]; decide) fun w4 hc4 hB9 => ?_
    have hE4 : Ext w w4 := hc4.below (by omega) (hE.trans he3)
    replace hB4 := hB4.chg hc4 (by omega)
    replace hB7 := hB7.chg hc4 (by omega)
    obtain ⟨hlf, hk, _, hleft, hright⟩ := nAt hB9.all
    cases hl : x.leaf
    · rw [hl] at hlf
      by_cases h256 : (d : Int) = 256
      · refine St1 (hlf) ?_
        exact G.ret2 rfl rfl rfl rfl rfl ⟨-1, rfl, CountR.deep hx hl (by omega), hE4⟩
      obtain ⟨l, rr, e1, e2, hl1, hl2, _, _, _⟩ := h1.fork (n := 0) hx hl
      refine St2 (hlf) (hB7.all) ?_
      refine GL.call rfl rfl rfl (turn_call b d (by omega) w4) ?_
      rintro _ w5 ⟨rfl, he5⟩
      replace hB4 := hB4.ext he5
      replace hB7 := hB7.ext he5
      replace hB9 := hB9.ext he5
      refine St0 ?_
      refine GL.alloc hT rfl rfl rfl fun b11 w6 hb11 hB11 he6 => ?_
      have s3 := he3.size
      have s4 := hc4.size
      have s5 := he5.size
      have l9 := hB9.lt
      have hE6 := hE4.trans (he5.trans he6)
      replace hB4 := hB4.ext he6
      replace hB7 := hB7.ext he6
      replace hB9 := hB9.ext he6
      refine GL.storeVar hT rfl rfl rfl rfl rfl (Dig.len _) (Dig.one _) hB11 (by rw [Dig.len]; decide) fun w7 hc7 hB11 => ?_
      have hE7 : Ext w w7 := hc7.below (by omega) hE6
      replace hB4 := hB4.chg hc7 (by omega)
      replace hB7 := hB7.chg hc7 (by omega)
      replace hB9 := hB9.chg hc7 (by omega)
      refine St2 (hB7.all) (hB11.all) ?_
      refine GL.buildArr (b.cells ++ (b.turn d).cells) hT rfl rfl rfl rfl rfl rfl (fillL_two rfl (Dig.len _) rfl (Dig.len _) rfl) ?_
      refine St0 ?_
      refine G.loop ?_
      refine St0 ?_
      refine GL.indexVN 0 32 hT rfl rfl rfl rfl rfl rfl rfl rfl rfl (by omega) (by omega) (vs := b.cells) (by simp [Dig.len]) ?_
      have l4' := hB4.lt
      have l9' := hB9.lt
      refine GL.alloc hT rfl rfl rfl fun b15 wa hb15 hB15 hea => ?_
      have sa := hea.size
      replace hB4 := hB4.ext hea
      replace hB9 := hB9.ext hea
      have hEa := hE7.trans hea
      refine St0 ?_
      have l15 := hB15.lt
      refine GL.storeVar hT rfl rfl rfl rfl rfl (Dig.len _) (Dig.one _) hB15 (by rw [Dig.len]; decide) fun wb hcb hB15 => ?_
      have sb := hcb.size
      have hEb : Ext w wb := hcb.below (by have := hE7.size; omega) hEa
      have lw := hE7.size
      replace hB4 := hB4.chg hcb (by omega)
      replace hB9 := hB9.chg hcb (by omega)
      refine St1 (hB9.all) ?_
      refine GL.call rfl rfl rfl (roads_call x u wb) ?_
      rintro _ wc ⟨rfl, hec⟩
      replace hB4 := hB4.ext hec
      replace hB9 := hB9.ext hec
      replace hB15 := hB15.ext hec
      rw [e1, e2]
      refine St0 ?_
      refine GL.indexV (0) hT rfl rfl rfl rfl rfl rfl rfl rfl rfl (by omega) (by omega) rfl ?_
      refine St2 (hB4.all) (hB15.all) ?_
      rw [show (d : Int) + 1 = ((d + 1 : Nat) : Int) by omega]
      have hEc := hEb.trans hec
      refine GL.call rfl rfl rfl (ih l (d + 1) b _ r any wc (by omega) (by omega) (by omega) ((h.ext hEc).imp fun _ _ _ => trivial)) ?_
      rintro _ w8 ⟨ca, rfl, hca, he8⟩
      replace hB4 := hB4.ext he8
      replace hB9 := hB9.ext he8
      have hE8 := hEc.trans he8
      rcases hca.cases with rfl | ⟨rfl, hl0⟩ | ⟨rfl, hl0⟩ | ⟨rfl, hl0⟩
      · refine St0 ?_
        exact G.ret2 rfl rfl rfl rfl rfl ⟨-1, rfl, CountR.badL hx hl e1 hca, hE8⟩
      all_goals
        refine St0 ?_
        refine G.inLoop ?_
        refine St0 ?_
        refine GL.indexVN 1 32 hT rfl rfl rfl rfl rfl rfl rfl rfl rfl (by omega) (by omega) (vs := (b.turn d).cells) (by simp [Dig.len]; exact List.take_of_length_le (by rw [Dig.len]; omega)) ?_
        have l4' := hB4.lt
        have l9' := hB9.lt
        refine GL.alloc hT rfl rfl rfl fun b15 wa hb15 hB15 hea => ?_
        have sa := hea.size
        replace hB4 := hB4.ext hea
        replace hB9 := hB9.ext hea
        have hEa := hE8.trans hea
        refine St0 ?_
        have l15 := hB15.lt
        refine GL.storeVar hT rfl rfl rfl rfl rfl (Dig.len _) (Dig.one _) hB15 (by rw [Dig.len]; decide) fun wb hcb hB15 => ?_
        have sb := hcb.size
        have hEb : Ext w wb := hcb.below (by have := hE8.size; omega) hEa
        have lw := hE8.size
        replace hB4 := hB4.chg hcb (by omega)
        replace hB9 := hB9.chg hcb (by omega)
        refine St1 (hB9.all) ?_
        refine GL.call rfl rfl rfl (roads_call x u wb) ?_
        rintro _ wc ⟨rfl, hec⟩
        replace hB4 := hB4.ext hec
        replace hB9 := hB9.ext hec
        replace hB15 := hB15.ext hec
        rw [e1, e2]
        refine St0 ?_
        refine GL.indexV (1) hT rfl rfl rfl rfl rfl rfl rfl rfl rfl (by omega) (by omega) rfl ?_
        refine St2 (hB4.all) (hB15.all) ?_
        rw [show (d : Int) + 1 = ((d + 1 : Nat) : Int) by omega]
        have hEc := hEb.trans hec
        refine GL.call rfl rfl rfl (ih rr (d + 1) (b.turn d) _ r any wc (by omega) (by omega) (by omega) ((h.ext hEc).imp fun _ _ _ => trivial)) ?_
        rintro _ w9 ⟨cb, rfl, hcb', he9⟩
        have hE9 := hEc.trans he9
        rcases hcb'.cases with rfl | ⟨rfl, hr0⟩ | ⟨rfl, hr0⟩ | ⟨rfl, hr0⟩
        · refine St0 ?_
          exact G.ret2 rfl rfl rfl rfl rfl ⟨-1, rfl, CountR.badR hx hl e2 hcb', hE9⟩
        all_goals
          have hbo := CountR.both hx hl (by omega) e1 e2 hca hcb' (by omega) (by omega)
          first | (exfalso; omega) | skip
          try refine St0 ?_
          try refine G.inLoop ?_
          try refine St0 ?_
          try exact G.ret2 rfl rfl rfl rfl rfl ⟨_, rfl, hbo, hE9⟩
    · rw [hl] at hlf
      have hq := CountR.leaf (b := b) hx hl hd
      refine St3 (hlf) (hk) (hB7.all) ?_
      refine GL.call rfl rfl rfl (shared_call x.key b w4) ?_
      rintro _ w5 ⟨rfl, he5⟩
      by_cases hs : (sharedB x.key b : Int) ≥ d
      · rw [if_pos (by omega)] at hq
        refine St0 ?_
        exact G.ret2 rfl rfl rfl rfl rfl ⟨1, rfl, hq, hE4.trans he5⟩
      · rw [if_neg (by omega)] at hq
        refine St0 ?_
        exact G.ret2 rfl rfl rfl rfl rfl ⟨-1, rfl, hq, hE4.trans he5⟩
end Go.Proofs.YtefneilaongpbaaDoor
/-
  May a tree be (both sides); is it great.
-/
set_option linter.unusedVariables false
set_option linter.unusedSimpArgs false
set_option maxRecDepth 100000
set_option maxHeartbeats 4000000
namespace Go.Proofs.YtefneilaongpbaaDoor
open Go Go.Bd Go.RowKit
attribute [local irreducible] G GL GQ GS

theorem key0_fill : fillL (fun k => some (k * 1, 1)) ti25.zero [] = some dig0.cells := by rfl
theorem treeB_count {ns : List Node} {r : Int} {c : Int} (h1 : ns.length ≤ 262144) (h2 : 0 ≤ r) (h3 : r ≤ ns.length) (h4 : OneAll 0 ns) (hc : CountR ns r.toNat 0 dig0 c) : treeB ns r = decide (0 ≤ c) := by
  by_cases h : 0 ≤ c
  · rw [treeB_t ⟨h1, h2, h3, h4, hc.ok.1 h⟩, decide_eq_true h]
  · rw [treeB_f (fun ht => h (hc.ok.2 ht.stand)), decide_eq_false h]
theorem refMay6_call (ns : List Node) (v : Value) (r : Int) (S : Where) (w : World) (h : RdN S w v ns) :
    Does Tryd.prog 101 #[tv v r] w fun q w' => q = .bool (treeB ns r) ∧ Ext w w' := by
  refine call_walk Tryd.func101 (by kernel_rfl) rfl Tryd.ntmps101 rfl ?_
  obtain ⟨p, c, rfl, hc⟩ := h.isSlice
  refine St0 ?_
  refine GL.box (vs := [.slice p ns.length c, iv r]) rfl rfl rfl rfl fun b1 w1 hb1 hB1 he1 => ?_
  by_cases hc1 : (ns.length : Int) > 262144
  · refine St2 ((tvAt hB1.all).1) ((tvAt hB1.all).2) ?_
    exact G.ret1 rfl rfl rfl rfl ⟨by rw [treeB_f fun h => by have := h.few; omega], he1⟩
  by_cases hc2 : r < 0
  · refine St2 ((tvAt hB1.all).1) ((tvAt hB1.all).2) ?_
    exact G.ret1 rfl rfl rfl rfl ⟨by rw [treeB_f fun h => by have := h.pos; omega], he1⟩
  by_cases hc3 : r > ns.length
  · refine St2 ((tvAt hB1.all).1) ((tvAt hB1.all).2) ?_
    exact G.ret1 rfl rfl rfl rfl ⟨by rw [treeB_f fun h => by have := h.le; omega], he1⟩
  refine St2 ((tvAt hB1.all).1) ((tvAt hB1.all).2) ?_
  refine G.sub (f' := [(3, iv ((0 : Nat) : Int)), (1, ptr b1 0)]) (by (repeat (first | exact Fr.sub_nil _ | refine Fr.sub_cons rfl ?_))) ?_
  refine G.rounds (α := Nat) (fun j f w' => j ≤ ns.length ∧ Ext w1 w' ∧ (∀ i x, i < j → ns[i]? = some x → oneB x i = true) ∧ f = [(3, iv j), (1, ptr b1 0)]) (fun j => ns.length - j) ?round 0 ⟨by omega, Ext.refl w1, fun i x hi => by omega, rfl⟩
  rintro j f w2 ⟨hj, he2, hone, rfl⟩ again
  replace hB1 := hB1.ext he2
  have hE := he1.trans he2
  by_cases hlt : (j : Int) < ns.length
  · obtain ⟨x, hx⟩ : ∃ x, ns[j]? = some x := ⟨_, List.getElem?_eq_getElem (by omega)⟩
    obtain ⟨bb, o, c', u, hv, hu, hA⟩ := (h.ext hE).elem hx
    cases hv
    refine St1 ((tvAt hB1.all).1) ?_
    (refine GL.indexSlice (j) 36 ((o + j * 36)) hT rfl rfl rfl rfl rfl rfl rfl rfl ?_ ?_ ?_ ?_; (focus omega); (focus omega); (focus omega))
    refine St1 (hA) ?_
    refine GL.call rfl rfl rfl (refOne6_call x u j (by omega) S w2 hu) ?_
    rintro _ w3 ⟨rfl, he3⟩
    cases ho : oneB x j
    · refine St0 ?_
      exact G.ret1 rfl rfl rfl rfl ⟨by rw [treeB_f fun h => by have := h.one j x hx; rw [Nat.zero_add, ho] at this; cases this], hE.trans he3⟩
    · refine St0 ?_
      refine G.sub (by (repeat (first | exact Fr.sub_nil _ | refine Fr.sub_cons rfl ?_))) (again (j + 1) _ _ (by omega) ⟨by omega, he2.trans he3, fun i y hi hy => ?_, rfl⟩)
      rcases Nat.lt_or_eq_of_le (Nat.lt_succ_iff.1 hi) with h1 | h1
      · exact hone i y h1 hy
      · subst h1; rw [hx] at hy; cases hy; exact ho
  · have hall : OneAll 0 ns := fun i x hx => by rw [Nat.zero_add]; exact hone i x (by have := (List.getElem?_eq_some_iff.1 hx).1; omega) hx
    obtain ⟨m, rfl⟩ : ∃ m : Nat, r = m := ⟨r.toNat, by omega⟩
    refine St3 ((tvAt hB1.all).1) ((tvAt hB1.all).2) (hB1.all) ?_
    refine GL.call rfl rfl rfl (refRight_call ns hall (by omega) (m + 1) m 0 dig0 _ m S w2 (by omega) (by omega) (by omega) (h.ext hE)) ?_
    rintro _ w3 ⟨q, rfl, hq, he3⟩
    have ht := treeB_count (r := m) (by omega) (by omega) (by omega) hall hq
    by_cases hq0 : q ≥ 0
    · refine St0 ?_
      exact G.ret1 rfl rfl rfl rfl ⟨by rw [ht, decide_eq_true hq0], hE.trans he3⟩
    · refine St0 ?_
      exact G.ret1 rfl rfl rfl rfl ⟨by rw [ht, decide_eq_false hq0], hE.trans he3⟩
theorem check6_call (ns : List Node) (v : Value) (r : Int) (S : Where) (w : World) (h : RdN S w v ns) :
    Does Tryd.prog 68 #[tv v r] w fun q w' => q = iv (badE (treeB ns r)) ∧ Ext w w' := by
  refine call_walk Tryd.func68 (by kernel_rfl) rfl Tryd.ntmps68 rfl ?_
  obtain ⟨p, c, rfl, hc⟩ := h.isSlice
  refine St0 ?_
  refine GL.box (vs := [.slice p ns.length c, iv r]) rfl rfl rfl rfl fun b1 w1 hb1 hB1 he1 => ?_
  by_cases hc1 : (ns.length : Int) > 262144
  · refine St2 ((tvAt hB1.all).1) ((tvAt hB1.all).2) ?_
    exact G.ret1 rfl rfl rfl rfl ⟨by rw [treeB_f fun h => by have := h.few; omega]; rfl, he1⟩
  by_cases hc2 : r < 0
  · refine St2 ((tvAt hB1.all).1) ((tvAt hB1.all).2) ?_
    exact G.ret1 rfl rfl rfl rfl ⟨by rw [treeB_f fun h => by have := h.pos; omega]; rfl, he1⟩
  by_cases hc3 : r > ns.length
  · refine St2 ((tvAt hB1.all).1) ((tvAt hB1.all).2) ?_
    exact G.ret1 rfl rfl rfl rfl ⟨by rw [treeB_f fun h => by have := h.le; omega]; rfl, he1⟩
  refine St2 ((tvAt hB1.all).1) ((tvAt hB1.all).2) ?_
  refine G.sub (f' := [(27, iv ((0 : Nat) : Int)), (25, .slice p ns.length c), (26, iv ns.length), (1, ptr b1 0)]) (by (repeat (first | exact Fr.sub_nil _ | refine Fr.sub_cons rfl ?_))) ?_
  refine G.rounds (α := Nat) (fun j f w' => j ≤ ns.length ∧ Ext w1 w' ∧ (∀ i x, i < j → ns[i]? = some x → oneB x i = true) ∧ f = [(27, iv j), (25, .slice p ns.length c), (26, iv ns.length), (1, ptr b1 0)]) (fun j => ns.length - j) ?round 0 ⟨by omega, Ext.refl w1, fun i x hi => by omega, rfl⟩
  rintro j f w2 ⟨hj, he2, hone, rfl⟩ again
  replace hB1 := hB1.ext he2
  have hE := he1.trans he2
  by_cases hlt : (j : Int) < ns.length
  · obtain ⟨x, hx⟩ : ∃ x, ns[j]? = some x := ⟨_, List.getElem?_eq_getElem (by omega)⟩
    obtain ⟨bb, o, c', u, hv, hu, hA⟩ := (h.ext hE).elem hx
    cases hv
    refine St0 ?_
    (refine GL.indexSlice (j) 36 ((o + j * 36)) hT rfl rfl rfl rfl rfl rfl rfl rfl ?_ ?_ ?_ ?_; (focus omega); (focus omega); (focus omega))
    refine St1 (hA) ?_
    refine GL.alloc hT rfl rfl rfl fun b4 w3 hb4 hB4 he3 => ?_
    refine St0 ?_
    refine GL.storeVar hT rfl rfl rfl rfl rfl (ncells_len _ _) (ncells_one _ hu.one) hB4 (by rw [ncells_len]; decide) fun w4 hc4 hB4 => ?_
    have s2 := he2.size
    have s1 := he1.size
    have hE24 : Ext w2 w4 := hc4.below (by omega) he3
    refine St1 (hB4.all) ?_
    refine GL.call rfl rfl rfl (one6_call x u j (by omega) S w4 (hu.ext hE24)) ?_
    rintro _ w5 ⟨rfl, he5⟩
    have hE5 := hE24.trans he5
    cases ho : oneB x j
    · refine St0 ?_
      exact G.ret1 rfl rfl rfl rfl ⟨by rw [treeB_f fun h => by have := h.one j x hx; rw [Nat.zero_add, ho] at this; cases this]; rfl, hE.trans hE5⟩
    · refine St0 ?_
      refine G.sub (by (repeat (first | exact Fr.sub_nil _ | refine Fr.sub_cons rfl ?_))) (again (j + 1) _ _ (by omega) ⟨by omega, he2.trans hE5, fun i y hi hy => ?_, rfl⟩)
      rcases Nat.lt_or_eq_of_le (Nat.lt_succ_iff.1 hi) with h1 | h1
      · exact hone i y h1 hy
      · subst h1; rw [hx] at hy; cases hy; exact ho
  · have hall : OneAll 0 ns := fun i x hx => by rw [Nat.zero_add]; exact hone i x (by have := (List.getElem?_eq_some_iff.1 hx).1; omega) hx
    obtain ⟨m, rfl⟩ : ∃ m : Nat, r = m := ⟨r.toNat, by omega⟩
    refine St3 ((tvAt hB1.all).1) ((tvAt hB1.all).2) (hB1.all) ?_
    refine GL.call rfl rfl rfl (right6_call ns hall (by omega) (m + 1) m 0 dig0 _ m S w2 (by omega) (by omega) (by omega) (h.ext hE)) ?_
    rintro _ w3 ⟨q, rfl, hq, he3⟩
    have ht := treeB_count (r := m) (by omega) (by omega) (by omega) hall hq
    by_cases hq0 : 0 ≤ q
    · rw [decide_eq_true hq0]
      refine St0 ?_
      exact G.ret1 rfl rfl rfl rfl ⟨by rw [ht, decide_eq_true hq0]; rfl, hE.trans he3⟩
    · rw [decide_eq_false hq0]
      refine St0 ?_
      exact G.ret1 rfl rfl rfl rfl ⟨by rw [ht, decide_eq_false hq0]; rfl, hE.trans he3⟩
/-- Not great: few nodes, short values. -/
theorem great6_call (ns : List Node) (v : Value) (r : Int) (N : Nat) (S : Where) (w : World) (h : RdN S w v ns) (hN : N ≤ 1000000) :
    Does Tryd.prog 38 #[tv v r, iv N] w fun q w' => (∃ g, q = .bool g ∧ (g = false → ns.length ≤ N ∧ ∀ x ∈ ns, x.val.length ≤ 100)) ∧ Ext w w' := by
  refine call_walk Tryd.func38 (by kernel_rfl) rfl Tryd.ntmps38 rfl ?_
  obtain ⟨p, c, rfl, hc⟩ := h.isSlice
  refine St0 ?_
  refine GL.box (vs := [.slice p ns.length c, iv r]) rfl rfl rfl rfl fun b2 w1 hb2 hB2 he1 => ?_
  refine St0 ?_
  refine G.sub (f' := [(5, iv ((0 : Nat) : Int)), (1, iv N), (2, ptr b2 0)]) (by (repeat (first | exact Fr.sub_nil _ | refine Fr.sub_cons rfl ?_))) ?_
  refine G.rounds (α := Nat) (fun j f w' => j ≤ ns.length ∧ j ≤ N + 1 ∧ w' = w1 ∧ (∀ i x, i < j → ns[i]? = some x → x.val.length ≤ 100) ∧ f = [(5, iv j), (1, iv N), (2, ptr b2 0)]) (fun j => ns.length - j) ?round 0 ⟨by omega, by omega, rfl, fun i x hi => by omega, rfl⟩
  rintro j f w2 ⟨hj, hjN, rfl, hone, rfl⟩ again
  by_cases hlt : (j : Int) < ns.length
  · by_cases hle : (j : Int) ≤ N
    · obtain ⟨x, hx⟩ : ∃ x, ns[j]? = some x := ⟨_, List.getElem?_eq_getElem (by omega)⟩
      obtain ⟨bb, o, c', u, hv, hu, hA⟩ := (h.ext he1).elem hx
      cases hv
      obtain ⟨pu, cu, rfl, hcu⟩ := RdF.isSlice hu
      refine St1 ((tvAt hB2.all).1) ?_
      (refine GL.indexSlice (j) 36 ((o + j * 36)) hT rfl rfl rfl rfl rfl rfl rfl rfl ?_ ?_ ?_ ?_; (focus omega); (focus omega); (focus omega))
      refine St1 ((nAt hA).val) ?_
      by_cases h100 : (x.val.length : Int) > 100
      · refine St0 ?_
        exact G.ret1 rfl rfl rfl rfl ⟨⟨true, rfl, by simp⟩, he1⟩
      · refine St0 ?_
        refine G.sub (by (repeat (first | exact Fr.sub_nil _ | refine Fr.sub_cons rfl ?_))) (again (j + 1) _ _ (by omega) ⟨by omega, by omega, rfl, fun i y hi hy => ?_, rfl⟩)
        rcases Nat.lt_or_eq_of_le (Nat.lt_succ_iff.1 hi) with h1 | h1
        · exact hone i y h1 hy
        · subst h1; rw [hx] at hy; cases hy; omega
    · refine St1 ((tvAt hB2.all).1) ?_
      exact G.ret1 rfl rfl rfl rfl ⟨⟨true, rfl, by simp⟩, he1⟩
  · refine St1 ((tvAt hB2.all).1) ?_
    by_cases hgt : (ns.length : Int) > N
    · refine St1 ((tvAt hB2.all).1) ?_
      exact G.ret1 rfl rfl rfl rfl ⟨⟨true, rfl, by simp⟩, he1⟩
    · refine St1 ((tvAt hB2.all).1) ?_
      refine G.ret1 rfl rfl rfl rfl ⟨⟨false, rfl, fun _ => ⟨by omega, fun x hx => ?_⟩⟩, he1⟩
      obtain ⟨k, hk⟩ := List.mem_iff_getElem?.1 hx
      exact hone k x (by have := (List.getElem?_eq_some_iff.1 hk).1; omega) hk
end Go.Proofs.YtefneilaongpbaaDoor
