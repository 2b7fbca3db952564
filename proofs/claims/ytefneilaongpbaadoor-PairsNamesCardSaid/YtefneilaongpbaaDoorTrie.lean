/-
  Tries in plain Lean: what a number stands for; with a value for a key, without a key; finding; sums; roads.
-/
import Derived.Test.YtefneilaongpbaaDoorPairsA
import Derived.Test.YtefneilaongpbaaDoorBits1
import Derived.Test.YtefneilaongpbaaDoorSha
set_option linter.unusedVariables false
set_option linter.unusedSimpArgs false
namespace Go.Proofs.YtefneilaongpbaaDoor
open Go Go.Bd
/-! ### What a number of a tree stands for -/
/-- The first d bits agree. -/
def Pre (d : Nat) (a b : Dig) : Prop := ∀ j, j < d → a.bit j = b.bit j
theorem pre_iff {d : Nat} {a b : Dig} (hd : d ≤ 256) : d ≤ sharedB a b ↔ Pre d a b := by
  constructor
  · intro h j hj
    exact sharedB_eq (by omega)
  · intro h
    rcases Nat.lt_or_ge (sharedB a b) d with h1 | h1
    · exact absurd (h _ h1) (sharedB_ne (by omega))
    · exact h1
theorem Pre.mono {d e : Nat} {a b : Dig} (h : Pre e a b) (hd : d ≤ e) : Pre d a b := fun j hj => h j (by omega)
theorem Pre.full {a b : Dig} (h : Pre 256 a b) : a = b := bits_inj h
/-- From bit d on all are 0. -/
def Zb (d : Nat) (b : Dig) : Prop := ∀ j, d ≤ j → j < 256 → b.bit j = 0
theorem Zb.left {d : Nat} {b : Dig} (h : Zb d b) : Zb (d + 1) b := fun j hj => h j (by omega)
theorem Zb.right {d : Nat} {b : Dig} (h : Zb d b) (hd : d < 256) : Zb (d + 1) (b.turn d) := fun j hj h2 => by
  rw [Dig.turn_other b hd (by omega)]; exact h j (by omega) h2
/-- The prefix of a side. -/
noncomputable def sideOf (b : Dig) (d : Nat) (c : Nat) : Dig := if c = 0 then b else b.turn d
theorem Zb.side {d : Nat} {b : Dig} (h : Zb d b) (hd : d < 256) (c : Nat) : Zb (d + 1) (sideOf b d c) := by
  unfold sideOf; split
  · exact h.left
  · exact h.right hd
theorem Pre.side {d : Nat} {a b : Dig} (h : Pre d a b) (hz : Zb d b) (hd : d < 256) : Pre (d + 1) a (sideOf b d (a.bit d)) := by
  intro j hj
  unfold sideOf
  have hl := a.bit_lt d
  have hb := hz d (Nat.le_refl _) hd
  rcases Nat.lt_or_eq_of_le (Nat.lt_succ_iff.1 hj) with h1 | h1
  · split
    · exact h j h1
    · rw [Dig.turn_other b hd (by omega)]; exact h j h1
  · subst h1
    split
    · rename_i h2; rw [h2, hb]
    · rw [Dig.turn_same b hd, hb]; omega
theorem Pre.back {d : Nat} {a b : Dig} {c : Nat} (h : Pre (d + 1) a (sideOf b d c)) (hd : d < 256) : Pre d a b := by
  intro j hj
  have := h j (by omega)
  unfold sideOf at this
  split at this
  · exact this
  · rw [Dig.turn_other b hd (by omega)] at this; exact this
theorem Pre.bit {d : Nat} {a b : Dig} {c : Nat} (h : Pre (d + 1) a (sideOf b d c)) (hz : Zb d b) (hd : d < 256) (hc : c < 2) : a.bit d = c := by
  have := h d (by omega)
  have hb := hz d (Nat.le_refl _) hd
  unfold sideOf at this
  split at this
  · omega
  · rw [Dig.turn_same b hd] at this; omega
/-- Number n stands, at depth d behind b's first bits, for these pairs. -/
inductive Stand (ns : List Node) : Nat → Nat → Dig → List Pair → Prop
  | none (d : Nat) (b : Dig) : Stand ns 0 d b []
  | leaf {n d : Nat} {b : Dig} {x : Node} (hx : ns[n]? = some x) (hl : x.leaf = true) (hp : Pre d x.key b) : Stand ns (n + 1) d b [⟨x.key, x.val⟩]
  | fork {n d : Nat} {b : Dig} {x : Node} {l r : Nat} {ps qs : List Pair} (hx : ns[n]? = some x) (hl : x.leaf = false) (hd : d < 256) (h1 : x.left = (l : Int)) (h2 : x.right = (r : Int))
      (hL : Stand ns l (d + 1) b ps) (hR : Stand ns r (d + 1) (b.turn d) qs) (h3 : 2 ≤ ps.length + qs.length) : Stand ns (n + 1) d b (ps ++ qs)
section
variable {ns ms : List Node} {n d : Nat} {b : Dig} {ps qs : List Pair}
theorem Stand.more (h : Stand ns n d b ps) (ms : List Node) : Stand (ns ++ ms) n d b ps := by
  have ha : ∀ {n : Nat} {x : Node}, ns[n]? = some x → (ns ++ ms)[n]? = some x := fun {n x} hx => by
    have := (List.getElem?_eq_some_iff.1 hx).1
    rw [List.getElem?_append_left this]; exact hx
  induction h with
  | none d b => exact .none d b
  | leaf hx hl hp => exact .leaf (ha hx) hl hp
  | fork hx hl hd h1 h2 _ _ h3 ih1 ih2 => exact .fork (ha hx) hl hd h1 h2 ih1 ih2 h3
theorem Stand.same (h : Stand ns n d b ps) : ∀ {b' : Dig} {d' : Nat} {qs : List Pair}, Stand ns n d' b' qs → ps = qs := by
  induction h with
  | none d b =>
    intro b' d' qs h'
    cases h'; rfl
  | leaf hx hl hp =>
    intro b' d' qs h'
    cases h' with
    | leaf hx' hl' hp' => rw [hx] at hx'; cases hx'; rfl
    | fork hx' hl' _ _ _ _ _ _ => rw [hx] at hx'; cases hx'; rw [hl] at hl'; cases hl'
  | fork hx hl hd h1 h2 _ _ h3 ih1 ih2 =>
    intro b' d' qs h'
    cases h' with
    | leaf hx' hl' hp' => rw [hx] at hx'; cases hx'; rw [hl] at hl'; cases hl'
    | fork hx' hl' _ h1' h2' hL hR _ =>
      rw [hx] at hx'; cases hx'
      rw [h1] at h1'; rw [h2] at h2'
      have e1 := Int.ofNat.inj h1'
      have e2 := Int.ofNat.inj h2'
      subst e1; subst e2
      rw [ih1 hL, ih2 hR]
theorem Stand.le (h : Stand ns n d b ps) : n ≤ ns.length := by
  cases h with
  | none => omega
  | leaf hx _ _ => have := (List.getElem?_eq_some_iff.1 hx).1; omega
  | fork hx _ _ _ _ _ _ _ => have := (List.getElem?_eq_some_iff.1 hx).1; omega
theorem Stand.empty (h : Stand ns n d b ps) : ps = [] ↔ n = 0 := by
  cases h with
  | none => simp
  | leaf => simp
  | fork _ _ _ _ _ _ _ h3 =>
    constructor
    · intro h; have := congrArg List.length h; simp at this; simp [this] at h3
    · intro h; omega
theorem Stand.pre (h : Stand ns n d b ps) : ∀ x ∈ ps, Pre d x.key b := by
  induction h with
  | none d b => intro x hx; cases hx
  | leaf hx hl hp => intro y hy; simp at hy; subst hy; exact hp
  | fork hx hl hd h1 h2 _ _ h3 ih1 ih2 =>
    intro y hy
    rcases List.mem_append.1 hy with h | h
    · exact (ih1 y h).mono (by omega)
    · exact Pre.back (c := 1) (by simpa [sideOf] using ih2 y h) hd
theorem num_lt_of {a b : Dig} {d : Nat} (hd : d < 256) (h : Pre d a b) (ha : a.bit d = 0) (hb : b.bit d = 1) : a.num < b.num := by
  have := ahead_at hd h (by omega)
  rw [ha, hb] at this
  simpa [aheadB] using this
theorem Stand.pw (h : Stand ns n d b ps) : Zb d b → PW ps := by
  induction h with
  | none d b => intro _; exact .nil
  | leaf hx hl hp => intro _; exact List.pairwise_singleton ..
  | fork hx hl hd h1 h2 hL hR h3 ih1 ih2 =>
    intro hz
    refine List.pairwise_append.2 ⟨ih1 hz.left, ih2 (hz.right hd), fun x hx y hy => ?_⟩
    have p1 := hL.pre x hx
    have p2 := hR.pre y hy
    have q1 : x.key.bit _ = 0 := Pre.bit (c := 0) (by simpa [sideOf] using p1) hz hd (by omega)
    have q2 : y.key.bit _ = 1 := Pre.bit (c := 1) (by simpa [sideOf] using p2) hz hd (by omega)
    refine num_lt_of hd (fun j hj => ?_) q1 q2
    rw [p1 j (by omega), p2 j (by omega), Dig.turn_other _ hd (by omega)]
/-- A fork, by its sides. -/
theorem Stand.side (h : Stand ns (n + 1) d b ps) {x : Node} (hx : ns[n]? = some x) (hl : x.leaf = false) :
    ∃ l r ps0 ps1, d < 256 ∧ x.left = (l : Nat) ∧ x.right = (r : Nat) ∧ Stand ns l (d + 1) b ps0 ∧ Stand ns r (d + 1) (b.turn d) ps1 ∧ 2 ≤ ps0.length + ps1.length ∧ ps = ps0 ++ ps1 := by
  cases h with
  | leaf hx' hl' hp' => rw [hx] at hx'; cases hx'; rw [hl] at hl'; cases hl'
  | fork hx' hl' hd h1 h2 hL hR h3 => rw [hx] at hx'; cases hx'; exact ⟨_, _, _, _, hd, h1, h2, hL, hR, h3, rfl⟩
theorem Stand.one (h : Stand ns (n + 1) d b ps) {x : Node} (hx : ns[n]? = some x) (hl : x.leaf = true) : ps = [⟨x.key, x.val⟩] ∧ Pre d x.key b := by
  cases h with
  | leaf hx' hl' hp' => rw [hx] at hx'; cases hx'; exact ⟨rfl, hp'⟩
  | fork hx' hl' _ _ _ _ _ _ => rw [hx] at hx'; cases hx'; rw [hl] at hl'; cases hl'
/-- Deeper by the bits of a leaf. -/
theorem Stand.sink (h : Stand ns (n + 1) d b ps) {x : Node} (hx : ns[n]? = some x) (hl : x.leaf = true) (hz : Zb d b) (hd : d < 256) : Stand ns (n + 1) (d + 1) (sideOf b d (x.key.bit d)) ps := by
  obtain ⟨rfl, hp⟩ := h.one hx hl
  exact .leaf hx hl (hp.side hz hd)
/-- A fork of two sides, whichever comes first. -/
theorem Stand.mk {x : Node} (hx : ns[n]? = some x) (hl : x.leaf = false) (hd : d < 256) {l r : Nat} {p0 p1 : List Pair} (h1 : x.left = (l : Int)) (h2 : x.right = (r : Int)) (hL : Stand ns l (d + 1) (sideOf b d 0) p0) (hR : Stand ns r (d + 1) (sideOf b d 1) p1) (h3 : 2 ≤ p0.length + p1.length) : Stand ns (n + 1) d b (p0 ++ p1) :=
  .fork hx hl hd h1 h2 (by simpa [sideOf] using hL) (by simpa [sideOf] using hR) h3
end
/-! ### With a value for a key; without a key -/
def leafOf (k : Dig) (v : Bytes) : Node := ⟨true, k, v, 0, 0⟩
noncomputable def forkOf (l r : Int) : Node := ⟨false, dig0, [], l, r⟩
noncomputable def forkAt (c : Nat) (to other : Int) : Node := if c = 0 then forkOf to other else forkOf other to
/-- May a node be, of so many ahead of it? -/
noncomputable def oneB (x : Node) (n : Nat) : Bool := if x.leaf then valB x.val.length && decide (x.left = 0) && decide (x.right = 0)
  else decide (0 ≤ x.left) && decide (x.left ≤ n) && decide (0 ≤ x.right) && decide (x.right ≤ n) && decide (x.left ≠ 0 ∨ x.right ≠ 0) && decide (x.key = dig0) && decide (x.val = [])
def OneAll (n : Nat) (ms : List Node) : Prop := ∀ (i : Nat) (x : Node), ms[i]? = some x → oneB x (n + i) = true
theorem OneAll.nil (n : Nat) : OneAll n [] := fun i x h => by simp at h
theorem OneAll.append {n : Nat} {ms us : List Node} (h : OneAll n ms) (h' : OneAll (n + ms.length) us) : OneAll n (ms ++ us) := fun i x hx => by
  rcases Nat.lt_or_ge i ms.length with h1 | h1
  · rw [List.getElem?_append_left h1] at hx; exact h i x hx
  · rw [List.getElem?_append_right h1] at hx
    have := h' (i - ms.length) x hx
    rwa [show n + ms.length + (i - ms.length) = n + i by omega] at this
theorem OneAll.one {n : Nat} {x : Node} (h : oneB x n = true) : OneAll n [x] := fun i y hy => by
  cases i with
  | zero => simp at hy; subst hy; simpa using h
  | succ i => simp at hy
theorem oneB_leaf {k : Dig} {v : Bytes} (h : valB v.length = true) (n : Nat) : oneB (leafOf k v) n = true := by simp [oneB, leafOf, h]
theorem oneB_fork {l r n : Nat} (hl : l ≤ n) (hr : r ≤ n) (h : l ≠ 0 ∨ r ≠ 0) : oneB (forkOf l r) n = true := by
  simp [oneB, forkOf]; omega
theorem oneB_forkAt {c l r n : Nat} (hl : l ≤ n) (hr : r ≤ n) (h : l ≠ 0 ∨ r ≠ 0) : oneB (forkAt c l r) n = true := by
  unfold forkAt; split
  · exact oneB_fork hl hr h
  · exact oneB_fork hr hl h.symm
theorem OneAll.fork {n i : Nat} {ns : List Node} (h : OneAll 0 ns) {x : Node} (hx : ns[i]? = some x) (hl : x.leaf = false) : ∃ l r : Nat, x.left = l ∧ x.right = r ∧ l ≤ i ∧ r ≤ i ∧ (l ≠ 0 ∨ r ≠ 0) ∧ x.key = dig0 ∧ x.val = [] := by
  have := h i x hx
  simp [oneB, hl] at this
  obtain ⟨⟨⟨⟨⟨⟨h1, h2⟩, h3⟩, h4⟩, h5⟩, h6⟩, h7⟩ := this
  exact ⟨x.left.toNat, x.right.toNat, by omega, by omega, by omega, by omega, by omega, h6, h7⟩
theorem OneAll.leaf {i : Nat} {ns : List Node} (h : OneAll 0 ns) {x : Node} (hx : ns[i]? = some x) (hl : x.leaf = true) : valB x.val.length = true ∧ x.left = 0 ∧ x.right = 0 := by
  have := h i x hx
  simp [oneB, hl] at this
  exact ⟨this.1.1, this.1.2, this.2⟩
section
variable {ns ms : List Node} {n m d l r : Nat} {b k : Dig} {v : Bytes} {ps qs p0 p1 : List Pair} {x : Node}
theorem mem_with {z : Pair} : z ∈ withL (without ps k) k v ↔ z = ⟨k, v⟩ ∨ (z ∈ ps ∧ z.key ≠ k) := by rw [mem_withL, mem_without]
theorem Stand.push (hx : x.leaf = false) (hd : d < 256) {l r : Nat} (h1 : x.left = (l : Int)) (h2 : x.right = (r : Int)) (hL : Stand ns l (d + 1) (sideOf b d 0) p0) (hR : Stand ns r (d + 1) (sideOf b d 1) p1) (h3 : 2 ≤ p0.length + p1.length) : Stand (ns ++ [x]) (ns.length + 1) d b (p0 ++ p1) :=
  .mk (by simp) hx hd h1 h2 (hL.more _) (hR.more _) h3
theorem stand_leaf (hp : Pre d k b) : Stand (ns ++ [leafOf k v]) (ns.length + 1) d b [⟨k, v⟩] := .leaf (x := leafOf k v) (by simp) rfl hp
/-- Both sides of number n, where it is not the key's own leaf. -/
structure Sides (ns : List Node) (d : Nat) (b : Dig) (l r : Nat) (p0 p1 : List Pair) : Prop where
  left : Stand ns l (d + 1) (sideOf b d 0) p0
  right : Stand ns r (d + 1) (sideOf b d 1) p1
theorem Sides.more (h : Sides ns d b n m p0 p1) (ms : List Node) : Sides (ns ++ ms) d b n m p0 p1 := ⟨h.left.more ms, h.right.more ms⟩
theorem Sides.bits (h : Sides ns d b l r p0 p1) (hz : Zb d b) (hd : d < 256) : (∀ x ∈ p0, x.key.bit d = 0) ∧ (∀ x ∈ p1, x.key.bit d = 1) :=
  ⟨fun x hx => Pre.bit (c := 0) (h.left.pre x hx) hz hd (by omega), fun x hx => Pre.bit (c := 1) (h.right.pre x hx) hz hd (by omega)⟩
theorem Sides.pw (h : Sides ns d b l r p0 p1) (hz : Zb d b) (hd : d < 256) : PW (p0 ++ p1) := by
  refine List.pairwise_append.2 ⟨h.left.pw (hz.side hd 0), h.right.pw (hz.side hd 1), fun x hx y hy => ?_⟩
  have p1' := h.left.pre x hx
  have p2' := h.right.pre y hy
  refine num_lt_of hd (fun j hj => ?_) ((h.bits hz hd).1 x hx) ((h.bits hz hd).2 y hy)
  rw [p1'.back hd j hj, p2'.back hd j hj]
theorem with_left (h : PW (p0 ++ p1)) (h' : PW (withL (without p0 k) k v ++ p1)) (hn : ∀ x ∈ p1, x.key ≠ k) : withL (without (p0 ++ p1) k) k v = withL (without p0 k) k v ++ p1 := by
  refine sorted_ext (h.withL k v) h' fun z => ?_
  rw [mem_with, List.mem_append, List.mem_append, mem_with]
  constructor
  · rintro (h1 | ⟨h1 | h1, h2⟩)
    · exact .inl (.inl h1)
    · exact .inl (.inr ⟨h1, h2⟩)
    · exact .inr h1
  · rintro ((h1 | ⟨h1, h2⟩) | h1)
    · exact .inl h1
    · exact .inr ⟨.inl h1, h2⟩
    · exact .inr ⟨.inr h1, hn z h1⟩
theorem with_right (h : PW (p0 ++ p1)) (h' : PW (p0 ++ withL (without p1 k) k v)) (hn : ∀ x ∈ p0, x.key ≠ k) : withL (without (p0 ++ p1) k) k v = p0 ++ withL (without p1 k) k v := by
  refine sorted_ext (h.withL k v) h' fun z => ?_
  rw [mem_with, List.mem_append, List.mem_append, mem_with]
  constructor
  · rintro (h1 | ⟨h1 | h1, h2⟩)
    · exact .inr (.inl h1)
    · exact .inl h1
    · exact .inr (.inr ⟨h1, h2⟩)
  · rintro (h1 | h1 | ⟨h1, h2⟩)
    · exact .inr ⟨.inl h1, hn z h1⟩
    · exact .inl h1
    · exact .inr ⟨.inr h1, h2⟩
theorem ne_of_bit {a c : Dig} {d : Nat} (h : a.bit d ≠ c.bit d) : a ≠ c := fun e => h (by rw [e])
/-- The side of the key turned: the fork behind it stands for all pairs, with the value. -/
theorem Sides.with0 (h : Sides ns d b l r p0 p1) (hz : Zb d b) (hd : d < 256) (hk : k.bit d = 0) {to : Nat} (ht : Stand (ns ++ ms) to (d + 1) (sideOf b d 0) (withL (without p0 k) k v)) (h2 : 2 ≤ (withL (without (p0 ++ p1) k) k v).length) :
    Stand (ns ++ ms ++ [forkOf to r]) ((ns ++ ms).length + 1) d b (withL (without (p0 ++ p1) k) k v) := by
  have hs : Sides (ns ++ ms) d b to r (withL (without p0 k) k v) p1 := ⟨ht, h.right.more ms⟩
  have e := with_left (v := v) (h.pw hz hd) (hs.pw hz hd) (fun x hx => ne_of_bit (d := d) (by rw [(h.bits hz hd).2 x hx, hk]; omega))
  rw [e] at h2 ⊢
  exact .push (x := forkOf to r) rfl hd rfl rfl hs.left hs.right (by simpa using h2)
theorem Sides.with1 (h : Sides ns d b l r p0 p1) (hz : Zb d b) (hd : d < 256) (hk : k.bit d = 1) {to : Nat} (ht : Stand (ns ++ ms) to (d + 1) (sideOf b d 1) (withL (without p1 k) k v)) (h2 : 2 ≤ (withL (without (p0 ++ p1) k) k v).length) :
    Stand (ns ++ ms ++ [forkOf l to]) ((ns ++ ms).length + 1) d b (withL (without (p0 ++ p1) k) k v) := by
  have hs : Sides (ns ++ ms) d b l to p0 (withL (without p1 k) k v) := ⟨h.left.more ms, ht⟩
  have e := with_right (v := v) (h.pw hz hd) (hs.pw hz hd) (fun x hx => ne_of_bit (d := d) (by rw [(h.bits hz hd).1 x hx, hk]; omega))
  rw [e] at h2 ⊢
  exact .push (x := forkOf l to) rfl hd rfl rfl hs.left hs.right (by simpa using h2)
theorem two_with {x : Pair} (hx : x ∈ ps) (hk : x.key ≠ k) : 2 ≤ (withL (without ps k) k v).length := by
  rw [length_withL]
  have : 0 < (without ps k).length := List.length_pos_of_mem (mem_without.2 ⟨hx, hk⟩)
  omega
theorem PW.other (h : PW ps) (h2 : 2 ≤ ps.length) (k : Dig) : ∃ x ∈ ps, x.key ≠ k := by
  match ps, h2 with
  | x :: y :: ps, _ =>
    by_cases hk : x.key = k
    · refine ⟨y, by simp, fun e => ?_⟩
      have := (List.pairwise_cons.1 h).1 y (by simp)
      rw [hk, e] at this; omega
    · exact ⟨x, by simp, hk⟩
/-- A key's own leaf, or nothing: the leaf alone. -/
theorem with_own (h : ∀ x ∈ ps, x.key = k) (v : Bytes) : withL (without ps k) k v = [⟨k, v⟩] := by
  have : without ps k = [] := List.filter_eq_nil_iff.2 fun x hx => by simp [h x hx]
  rw [this]; rfl
/-- The other leaf, as a side. -/
theorem Stand.sidesLeaf (h : Stand ns (n + 1) d b ps) {x : Node} (hx : ns[n]? = some x) (hl : x.leaf = true) (hz : Zb d b) (hd : d < 256) :
    (x.key.bit d = 0 → Sides ns d b (n + 1) 0 ps []) ∧ (x.key.bit d = 1 → Sides ns d b 0 (n + 1) [] ps) := by
  have hs := h.sink hx hl hz hd
  constructor
  · intro e; rw [e] at hs; exact ⟨hs, .none _ _⟩
  · intro e; rw [e] at hs; exact ⟨.none _ _, hs⟩
theorem Stand.sides (h : Stand ns (n + 1) d b ps) {x : Node} (hx : ns[n]? = some x) (hl : x.leaf = false) :
    ∃ l r p0 p1, d < 256 ∧ x.left = (l : Nat) ∧ x.right = (r : Nat) ∧ Sides ns d b l r p0 p1 ∧ 2 ≤ p0.length + p1.length ∧ ps = p0 ++ p1 := by
  obtain ⟨l, r, p0, p1, hd, h1, h2, hL, hR, h3, e⟩ := h.side hx hl
  exact ⟨l, r, p0, p1, hd, h1, h2, ⟨by simpa [sideOf] using hL, by simpa [sideOf] using hR⟩, h3, e⟩
/-! without -/
theorem Sides.wo0 (h : Sides ns d b l r p0 p1) (hz : Zb d b) (hd : d < 256) (hk : k.bit d = 0) : without (p0 ++ p1) k = without p0 k ++ p1 := by
  rw [without_append, without_of_ne (A := p1) (fun x hx => ne_of_bit (d := d) (by rw [(h.bits hz hd).2 x hx, hk]; omega))]
theorem Sides.wo1 (h : Sides ns d b l r p0 p1) (hz : Zb d b) (hd : d < 256) (hk : k.bit d = 1) : without (p0 ++ p1) k = p0 ++ without p1 k := by
  rw [without_append, without_of_ne (A := p0) (fun x hx => ne_of_bit (d := d) (by rw [(h.bits hz hd).1 x hx, hk]; omega))]
/-- One side is empty: the other one, a leaf or nothing, stands for all. -/
theorem Sides.alone (h : Sides ns d b l r p0 p1) (hd : d < 256) (hm : l = 0 ∨ r = 0) (ha : l + r = 0 ∨ ∃ x, ns[l + r - 1]? = some x ∧ x.leaf = true) : Stand ns (l + r) d b (p0 ++ p1) := by
  have up : ∀ {c n : Nat} {ps : List Pair}, Stand ns n (d + 1) (sideOf b d c) ps → (n = 0 ∨ ∃ x, ns[n - 1]? = some x ∧ x.leaf = true) → Stand ns n d b ps := by
    intro c n ps h hn
    cases n with
    | zero => cases h; exact .none _ _
    | succ n =>
      rcases hn with hn | ⟨x, hx, hl⟩
      · omega
      · simp at hx
        obtain ⟨rfl, hp⟩ := h.one hx hl
        exact .leaf hx hl (hp.back hd)
  rcases hm with rfl | rfl
  · have : p0 = [] := (h.left.empty).2 rfl
    subst this
    simp only [Nat.zero_add, List.nil_append] at ha ⊢
    exact up h.right ha
  · have : p1 = [] := (h.right.empty).2 rfl
    subst this
    simp only [Nat.add_zero, List.append_nil] at ha ⊢
    exact up h.left ha
/-- Two pairs at least: both sides, or a fork. -/
theorem Sides.two (h : Sides ns d b l r p0 p1) (hn : ¬ ((l = 0 ∨ r = 0) ∧ (l + r = 0 ∨ ∃ x, ns[l + r - 1]? = some x ∧ x.leaf = true))) : 2 ≤ p0.length + p1.length := by
  have len : ∀ {c n : Nat} {ps : List Pair}, Stand ns n (d + 1) (sideOf b d c) ps → n ≠ 0 → 1 ≤ ps.length ∧ ((¬ ∃ x, ns[n - 1]? = some x ∧ x.leaf = true) → 2 ≤ ps.length) := by
    intro c n ps h hn
    cases h with
    | none => exact absurd rfl hn
    | leaf hx hl hp => exact ⟨by simp, fun hno => absurd ⟨_, by simpa using hx, hl⟩ hno⟩
    | fork hx hl hd h1 h2 hL hR h3 => simp only [List.length_append]; exact ⟨by omega, fun _ => h3⟩
  by_cases hl : l = 0
  · subst hl
    by_cases hr : r = 0
    · exact absurd ⟨.inl rfl, .inl (by omega)⟩ hn
    · have := (len h.right hr).2 (fun ⟨x, hx, hlf⟩ => hn ⟨.inl rfl, .inr ⟨x, by simpa using hx, hlf⟩⟩)
      omega
  · have h1 := len h.left hl
    by_cases hr : r = 0
    · subst hr
      have := h1.2 (fun ⟨x, hx, hlf⟩ => hn ⟨.inr rfl, .inr ⟨x, by simpa using hx, hlf⟩⟩)
      omega
    · have h2 := len h.right hr
      omega
end
/-! ### Finding a key; a sum; may it be -/
noncomputable def bitIs (d c : Nat) (x : Pair) : Bool := decide (x.key.bit d = c)
/-- The root of pairs, with so many depths left. -/
noncomputable def rootF : Nat → List Pair → Dig
  | _, [] => noneD
  | _, [x] => leafD x.key x.val
  | 0, _ => noneD
  | f + 1, ps => twoD (rootF f (ps.filter (bitIs (255 - f) 0))) (rootF f (ps.filter (bitIs (255 - f) 1)))
noncomputable def rootAt (d : Nat) (ps : List Pair) : Dig := rootF (256 - d) ps
theorem rootAt_nil (d : Nat) : rootAt d [] = noneD := by unfold rootAt; cases 256 - d <;> rfl
theorem rootAt_one (d : Nat) (x : Pair) : rootAt d [x] = leafD x.key x.val := by unfold rootAt; cases 256 - d <;> rfl
theorem rootAt_two {d : Nat} (hd : d < 256) {ps : List Pair} (h : 2 ≤ ps.length) : rootAt d ps = twoD (rootAt (d + 1) (ps.filter (bitIs d 0))) (rootAt (d + 1) (ps.filter (bitIs d 1))) := by
  unfold rootAt
  obtain ⟨f, hf⟩ : ∃ f, 256 - d = f + 1 := ⟨255 - d, by omega⟩
  have hf' : 256 - (d + 1) = f := by omega
  rw [hf, hf']
  match ps, h with
  | x :: y :: ps, _ =>
    rw [rootF, show 255 - f = d by omega]
    · simp
    · simp
section
variable {ns : List Node} {n d : Nat} {b k : Dig} {ps p0 p1 : List Pair} {l r : Nat}
theorem Sides.root (h : Sides ns d b l r p0 p1) (hz : Zb d b) (hd : d < 256) (h2 : 2 ≤ p0.length + p1.length) : rootAt d (p0 ++ p1) = twoD (rootAt (d + 1) p0) (rootAt (d + 1) p1) := by
  rw [rootAt_two hd (by simpa using h2)]
  obtain ⟨b0, b1⟩ := h.bits hz hd
  have e1 : (p0 ++ p1).filter (bitIs d 0) = p0 := by
    rw [List.filter_append, List.filter_eq_self.2 (fun x hx => by simp [bitIs, b0 x hx]), List.filter_eq_nil_iff.2 (fun x hx => by simp [bitIs, b1 x hx])]
    simp
  have e2 : (p0 ++ p1).filter (bitIs d 1) = p1 := by
    rw [List.filter_append, (List.filter_eq_self (l := p1)).2 (fun x hx => by simp [bitIs, b1 x hx]), (List.filter_eq_nil_iff (l := p0)).2 (fun x hx => by simp [bitIs, b0 x hx])]
    simp
  rw [e1, e2]
/-- Number m is the leaf of key k among these pairs, or 0. -/
def FindsL (ns : List Node) (k : Dig) (ps : List Pair) (m : Nat) : Prop := (m = 0 ∧ ∀ x ∈ ps, x.key ≠ k) ∨ ∃ i x, m = i + 1 ∧ ns[i]? = some x ∧ x.leaf = true ∧ x.key = k ∧ (⟨k, x.val⟩ : Pair) ∈ ps
theorem FindsL.left {m : Nat} (h : FindsL ns k p0 m) (hn : ∀ x ∈ p1, x.key ≠ k) : FindsL ns k (p0 ++ p1) m := by
  rcases h with ⟨h1, h2⟩ | ⟨i, x, h1, h2, h3, h4, h5⟩
  · refine .inl ⟨h1, fun x hx => ?_⟩
    rcases List.mem_append.1 hx with h | h
    · exact h2 x h
    · exact hn x h
  · exact .inr ⟨i, x, h1, h2, h3, h4, List.mem_append_left _ h5⟩
theorem FindsL.right {m : Nat} (h : FindsL ns k p1 m) (hn : ∀ x ∈ p0, x.key ≠ k) : FindsL ns k (p0 ++ p1) m := by
  rcases h with ⟨h1, h2⟩ | ⟨i, x, h1, h2, h3, h4, h5⟩
  · refine .inl ⟨h1, fun x hx => ?_⟩
    rcases List.mem_append.1 hx with h | h
    · exact hn x h
    · exact h2 x h
  · exact .inr ⟨i, x, h1, h2, h3, h4, List.mem_append_right _ h5⟩
theorem Sides.find (h : Sides ns d b l r p0 p1) (hz : Zb d b) (hd : d < 256) (k : Dig) {m : Nat} (h0 : k.bit d = 0 → FindsL ns k p0 m) (h1 : k.bit d = 1 → FindsL ns k p1 m) : FindsL ns k (p0 ++ p1) m := by
  obtain ⟨b0, b1⟩ := h.bits hz hd
  have hk := k.bit_lt d
  by_cases hc : k.bit d = 0
  · exact (h0 hc).left fun x hx => ne_of_bit (d := d) (by rw [b1 x hx, hc]; omega)
  · exact (h1 (by omega)).right fun x hx => ne_of_bit (d := d) (by rw [b0 x hx]; omega)
/-! may it be -/
/-- How many pairs, two at most; below 0: it is not right. -/
def CountR (ns : List Node) (n d : Nat) (b : Dig) (c : Int) : Prop := (∃ ps, Stand ns n d b ps ∧ c = (min 2 ps.length : Nat)) ∨ ((∀ ps, ¬ Stand ns n d b ps) ∧ c = -1)
theorem CountR.zero (d : Nat) (b : Dig) : CountR ns 0 d b 0 := .inl ⟨[], .none _ _, rfl⟩
theorem CountR.leaf {x : Node} (hx : ns[n]? = some x) (hl : x.leaf = true) (hd : d ≤ 256) : CountR ns (n + 1) d b (if d ≤ sharedB x.key b then 1 else -1) := by
  split
  · rename_i h; exact .inl ⟨_, .leaf hx hl ((pre_iff hd).1 h), rfl⟩
  · rename_i h; exact .inr ⟨fun ps hp => h ((pre_iff hd).2 (hp.one hx hl).2), rfl⟩
theorem CountR.deep {x : Node} (hx : ns[n]? = some x) (hl : x.leaf = false) (hd : ¬ d < 256) : CountR ns (n + 1) d b (-1) :=
  .inr ⟨fun ps hp => by obtain ⟨_, _, _, _, h, _⟩ := hp.side hx hl; exact hd h, rfl⟩
theorem CountR.badL {x : Node} (hx : ns[n]? = some x) (hl : x.leaf = false) (h1 : x.left = (l : Int)) (h : CountR ns l (d + 1) b (-1)) : CountR ns (n + 1) d b (-1) := by
  rcases h with ⟨ps, _, e⟩ | ⟨h, _⟩
  · omega
  · refine .inr ⟨fun ps hp => ?_, rfl⟩
    obtain ⟨l', r', p0, p1, hd, e1, e2, hL, hR, _⟩ := hp.side hx hl
    rw [h1] at e1
    have := Int.ofNat.inj e1
    subst this
    exact h _ hL
theorem CountR.badR {x : Node} (hx : ns[n]? = some x) (hl : x.leaf = false) (h1 : x.right = (r : Int)) (h : CountR ns r (d + 1) (b.turn d) (-1)) : CountR ns (n + 1) d b (-1) := by
  rcases h with ⟨ps, _, e⟩ | ⟨h, _⟩
  · omega
  · refine .inr ⟨fun ps hp => ?_, rfl⟩
    obtain ⟨l', r', p0, p1, hd, e1, e2, hL, hR, _⟩ := hp.side hx hl
    rw [h1] at e2
    have := Int.ofNat.inj e2
    subst this
    exact h _ hR
theorem CountR.both {x : Node} {a c : Int} (hx : ns[n]? = some x) (hl : x.leaf = false) (hd : d < 256) (h1 : x.left = (l : Int)) (h2 : x.right = (r : Int)) (hL : CountR ns l (d + 1) b a) (hR : CountR ns r (d + 1) (b.turn d) c) (ha : 0 ≤ a) (hc : 0 ≤ c) : CountR ns (n + 1) d b (if 2 ≤ a + c then 2 else -1) := by
  rcases hL with ⟨p0, hL, rfl⟩ | ⟨_, rfl⟩
  · rcases hR with ⟨p1, hR, rfl⟩ | ⟨_, rfl⟩
    · split
      · rename_i h
        refine .inl ⟨_, .fork hx hl hd h1 h2 hL hR (by omega), ?_⟩
        rw [List.length_append]
        omega
      · rename_i h
        refine .inr ⟨fun ps hp => ?_, rfl⟩
        obtain ⟨l', r', q0, q1, hd, e1, e2, hL', hR', h3, _⟩ := hp.side hx hl
        rw [h1] at e1
        rw [h2] at e2
        have e1' := Int.ofNat.inj e1
        have e2' := Int.ofNat.inj e2
        subst e1'; subst e2'
        rw [hL'.same hL, hR'.same hR] at h3
        omega
    · omega
  · omega
theorem CountR.le {c : Int} (h : CountR ns n d b c) : c ≤ 2 := by
  rcases h with ⟨ps, _, rfl⟩ | ⟨_, rfl⟩ <;> omega
theorem CountR.zero_iff {c : Int} (h : CountR ns n d b c) (hc : 0 ≤ c) : c = 0 ↔ n = 0 := by
  rcases h with ⟨ps, hp, rfl⟩ | ⟨_, rfl⟩
  · rw [← hp.empty]
    cases ps with
    | nil => simp
    | cons x ps => simp
  · omega
theorem CountR.ok {c : Int} (h : CountR ns n d b c) : 0 ≤ c ↔ ∃ ps, Stand ns n d b ps := by
  rcases h with ⟨ps, hp, rfl⟩ | ⟨h, rfl⟩
  · exact ⟨fun _ => ⟨ps, hp⟩, fun _ => by omega⟩
  · exact ⟨fun h => absurd h (by decide), fun ⟨ps, hp⟩ => absurd hp (h ps)⟩
end
/-- A tree that may be. -/
structure TreeOk (ns : List Node) (root : Int) : Prop where
  few : ns.length ≤ 262144
  pos : 0 ≤ root
  le : root ≤ ns.length
  one : OneAll 0 ns
  stand : ∃ ps, Stand ns root.toNat 0 dig0 ps
noncomputable def treeB (ns : List Node) (root : Int) : Bool := @decide (TreeOk ns root) (Classical.propDecidable _)
theorem treeB_t {ns : List Node} {root : Int} (h : TreeOk ns root) : treeB ns root = true := by simp [treeB, h]
theorem treeB_f {ns : List Node} {root : Int} (h : ¬ TreeOk ns root) : treeB ns root = false := by simp [treeB, h]
theorem treeB_iff {ns : List Node} {root : Int} : treeB ns root = true ↔ TreeOk ns root := by simp [treeB]
theorem zb0 : Zb 0 dig0 := fun j _ _ => dig0_bit j
/-- What a tree stands for. -/
noncomputable def allT (ns : List Node) (root : Int) : List Pair := @dite _ (∃ ps, Stand ns root.toNat 0 dig0 ps) (Classical.propDecidable _) (fun h => h.choose) (fun _ => [])
theorem allT_eq {ns : List Node} {root : Int} {ps : List Pair} (h : Stand ns root.toNat 0 dig0 ps) : allT ns root = ps := by
  have he : ∃ ps, Stand ns root.toNat 0 dig0 ps := ⟨ps, h⟩
  unfold allT
  rw [dif_pos he]
  exact he.choose_spec.same h
theorem TreeOk.all {ns : List Node} {root : Int} (h : TreeOk ns root) : Stand ns root.toNat 0 dig0 (allT ns root) := by
  obtain ⟨ps, hp⟩ := h.stand
  rw [allT_eq hp]; exact hp
/-! ### Where a key's road ends, and its sides, by the pairs alone -/
noncomputable def wayF : Nat → List Pair → Dig → Option Pair × List Dig
  | _, [], _ => (none, [])
  | _, [x], _ => (some x, [])
  | 0, _, _ => (none, [])
  | f + 1, ps, k => ((wayF f (ps.filter (bitIs (255 - f) (k.bit (255 - f)))) k).1, rootF f (ps.filter (bitIs (255 - f) (1 - k.bit (255 - f)))) :: (wayF f (ps.filter (bitIs (255 - f) (k.bit (255 - f)))) k).2)
noncomputable def wayAt (d : Nat) (ps : List Pair) (k : Dig) : Option Pair × List Dig := wayF (256 - d) ps k
theorem wayAt_nil (d : Nat) (k : Dig) : wayAt d [] k = (none, []) := by unfold wayAt; cases 256 - d <;> rfl
theorem wayAt_one (d : Nat) (x : Pair) (k : Dig) : wayAt d [x] k = (some x, []) := by unfold wayAt; cases 256 - d <;> rfl
theorem wayAt_two {d : Nat} (hd : d < 256) {ps : List Pair} (h : 2 ≤ ps.length) (k : Dig) : wayAt d ps k = ((wayAt (d + 1) (ps.filter (bitIs d (k.bit d))) k).1, rootAt (d + 1) (ps.filter (bitIs d (1 - k.bit d))) :: (wayAt (d + 1) (ps.filter (bitIs d (k.bit d))) k).2) := by
  unfold wayAt rootAt
  obtain ⟨f, hf⟩ : ∃ f, 256 - d = f + 1 := ⟨255 - d, by omega⟩
  have hf' : 256 - (d + 1) = f := by omega
  rw [hf, hf']
  match ps, h with
  | x :: y :: ps, _ =>
    rw [wayF, show 255 - f = d by omega]
    · simp
    · simp
section
variable {ns : List Node} {n d : Nat} {b k : Dig} {ps p0 p1 : List Pair} {l r : Nat}
theorem Sides.filters (h : Sides ns d b l r p0 p1) (hz : Zb d b) (hd : d < 256) : (p0 ++ p1).filter (bitIs d 0) = p0 ∧ (p0 ++ p1).filter (bitIs d 1) = p1 := by
  obtain ⟨b0, b1⟩ := h.bits hz hd
  constructor
  · rw [List.filter_append, List.filter_eq_self.2 (fun x hx => by simp [bitIs, b0 x hx]), List.filter_eq_nil_iff.2 (fun x hx => by simp [bitIs, b1 x hx])]
    simp
  · rw [List.filter_append, (List.filter_eq_self (l := p1)).2 (fun x hx => by simp [bitIs, b1 x hx]), (List.filter_eq_nil_iff (l := p0)).2 (fun x hx => by simp [bitIs, b0 x hx])]
    simp
theorem Sides.way0 (h : Sides ns d b l r p0 p1) (hz : Zb d b) (hd : d < 256) (h2 : 2 ≤ p0.length + p1.length) (hk : k.bit d = 0) : wayAt d (p0 ++ p1) k = ((wayAt (d + 1) p0 k).1, rootAt (d + 1) p1 :: (wayAt (d + 1) p0 k).2) := by
  obtain ⟨e0, e1⟩ := h.filters hz hd
  rw [wayAt_two hd (by simpa using h2), hk, e0, e1]
theorem Sides.way1 (h : Sides ns d b l r p0 p1) (hz : Zb d b) (hd : d < 256) (h2 : 2 ≤ p0.length + p1.length) (hk : k.bit d = 1) : wayAt d (p0 ++ p1) k = ((wayAt (d + 1) p1 k).1, rootAt (d + 1) p0 :: (wayAt (d + 1) p1 k).2) := by
  obtain ⟨e0, e1⟩ := h.filters hz hd
  rw [wayAt_two hd (by simpa using h2), hk, e1, e0]
end
/-- What a list of pairs sits behind: d bits. -/
def Under (d : Nat) (ps : List Pair) : Prop := PW ps ∧ ∀ x ∈ ps, ∀ y ∈ ps, Pre d x.key y.key
theorem Under.full {ps : List Pair} (h : Under 256 ps) : ps.length ≤ 1 := by
  match ps, h with
  | [], _ => simp
  | [x], _ => simp
  | x :: y :: ps, h =>
    have h1 := (List.pairwise_cons.1 h.1).1 y (by simp)
    have h2 := (h.2 x (by simp) y (by simp)).full
    rw [h2] at h1; omega
theorem Under.filter {d : Nat} {ps : List Pair} (h : Under d ps) (c : Nat) : Under (d + 1) (ps.filter (bitIs d c)) := by
  refine ⟨h.1.sub List.filter_sublist, fun x hx y hy j hj => ?_⟩
  obtain ⟨h1, h2⟩ := List.mem_filter.1 hx
  obtain ⟨h3, h4⟩ := List.mem_filter.1 hy
  rcases Nat.lt_or_eq_of_le (Nat.lt_succ_iff.1 hj) with h5 | h5
  · exact h.2 x h1 y h3 j h5
  · subst h5
    simp [bitIs] at h2 h4
    rw [h2, h4]
/-- What is digested last on the way: the end's digest, and up. -/
noncomputable def endD : Option Pair → Dig
  | none => noneD
  | some x => leafD x.key x.val
noncomputable def upD (k : Dig) : Nat → List Dig → Dig → Dig
  | _, [], e => e
  | d, s :: sides, e => if k.bit d = 1 then twoD s (upD k (d + 1) sides e) else twoD (upD k (d + 1) sides e) s
theorem way_root (k : Dig) : ∀ (m d : Nat) (ps : List Pair), 256 - d = m → d ≤ 256 → Under d ps → upD k d (wayAt d ps k).2 (endD (wayAt d ps k).1) = rootAt d ps
  | 0, d, ps, hm, hd, hu => by
    obtain rfl : d = 256 := by omega
    match ps, hu.full with
    | [], _ => rw [wayAt_nil, rootAt_nil]; rfl
    | [x], _ => rw [wayAt_one, rootAt_one]; rfl
  | m + 1, d, ps, hm, hd, hu => by
    match ps, hu with
    | [], _ => rw [wayAt_nil, rootAt_nil]; rfl
    | [x], _ => rw [wayAt_one, rootAt_one]; rfl
    | x :: y :: ps, hu =>
      have h2 : 2 ≤ (x :: y :: ps).length := by simp
      have hd' : d < 256 := by omega
      rw [wayAt_two hd' h2, rootAt_two hd' h2]
      have ih := way_root k m (d + 1) _ (by omega) (by omega) (hu.filter (k.bit d))
      simp only [upD]
      rw [ih]
      have hb := k.bit_lt d
      by_cases hk : k.bit d = 1
      · rw [if_pos hk, hk]
      · rw [if_neg hk, show k.bit d = 0 by omega]
theorem way_len (k : Dig) : ∀ (m d : Nat) (ps : List Pair), 256 - d = m → d ≤ 256 → (wayAt d ps k).2.length + d ≤ 256
  | 0, d, ps, hm, hd => by
    obtain rfl : d = 256 := by omega
    match ps with
    | [] => rw [wayAt_nil]; simp
    | [x] => rw [wayAt_one]; simp
    | x :: y :: ps => unfold wayAt; simp [wayF]
  | m + 1, d, ps, hm, hd => by
    match ps with
    | [] => rw [wayAt_nil]; simpa using hd
    | [x] => rw [wayAt_one]; simpa using hd
    | x :: y :: ps =>
      rw [wayAt_two (by omega) (by simp)]
      have := way_len k m (d + 1) ((x :: y :: ps).filter (bitIs d (k.bit d))) (by omega) (by omega)
      simp only [List.length_cons]
      omega
/-- Where the road ends: at the key's own pair, if there is one; else the end shares the road's bits. -/
theorem way_end (k : Dig) : ∀ (m d : Nat) (ps : List Pair), 256 - d = m → d ≤ 256 → PW ps → (∀ x ∈ ps, Pre d x.key k) →
    (match (wayAt d ps k).1 with | none => ∀ x ∈ ps, x.key ≠ k | some x => x ∈ ps ∧ Pre (d + (wayAt d ps k).2.length) x.key k ∧ (x.key ≠ k → ∀ y ∈ ps, y.key ≠ k))
  | 0, d, ps, hm, hd, hp, hu => by
    obtain rfl : d = 256 := by omega
    have hu' : Under 256 ps := ⟨hp, fun x hx y hy j hj => by rw [hu x hx j hj, hu y hy j hj]⟩
    match ps, hu'.full with
    | [], _ => rw [wayAt_nil]; simp
    | [x], _ => rw [wayAt_one]; simp; exact hu x (by simp)
  | m + 1, d, ps, hm, hd, hp, hu => by
    match ps, hp, hu with
    | [], _, _ => rw [wayAt_nil]; simp
    | [x], _, hu => rw [wayAt_one]; simp; exact hu x (by simp)
    | x :: y :: ps, hp, hu =>
      have hd' : d < 256 := by omega
      rw [wayAt_two hd' (by simp)]
      generalize hq : x :: y :: ps = qs at hp hu ⊢
      have hsub : ∀ z ∈ qs.filter (bitIs d (k.bit d)), Pre (d + 1) z.key k := fun z hz j hj => by
        obtain ⟨h1, h2⟩ := List.mem_filter.1 hz
        rcases Nat.lt_or_eq_of_le (Nat.lt_succ_iff.1 hj) with h5 | h5
        · exact hu z h1 j h5
        · subst h5; simpa [bitIs] using h2
      have hin : ∀ z ∈ qs, z.key = k → z ∈ qs.filter (bitIs d (k.bit d)) := fun z hz e => List.mem_filter.2 ⟨hz, by simp [bitIs, e]⟩
      have ih := way_end k m (d + 1) _ (by omega) (by omega) (hp.sub List.filter_sublist) hsub
      simp only [List.length_cons]
      generalize hw : wayAt (d + 1) (qs.filter (bitIs d (k.bit d))) k = r at ih ⊢
      obtain ⟨e, s⟩ := r
      cases e with
      | none => exact fun z hz hk => ih z (hin z hz hk) hk
      | some e =>
        obtain ⟨h1, h2, h3⟩ := ih
        refine ⟨(List.mem_filter.1 h1).1, ?_, fun hne z hz hk => h3 hne z (hin z hz hk) hk⟩
        rw [show d + (s.length + 1) = d + 1 + s.length by omega]
        exact h2
end Go.Proofs.YtefneilaongpbaaDoor
