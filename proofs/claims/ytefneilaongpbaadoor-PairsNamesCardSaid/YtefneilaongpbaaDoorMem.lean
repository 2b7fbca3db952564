import Derived.Test.YtefneilaongpbaaDoorKeys
import Derived.Laws.MakeOwn
import Derived.Laws.IdiomCopy
/-
  How Go's slices lie in memory, as plain lists; what is new; appending.
-/
set_option linter.unusedVariables false
set_option maxRecDepth 100000
namespace Go.Proofs.YtefneilaongpbaaDoor
open Go Go.Bd Go.RowKit

abbrev Where := Nat → Nat × Nat → Prop
/-- In memory from block B on, not frozen. -/
abbrev fresh (B : Nat) : Where := fun b fr => B ≤ b ∧ fr = (0, 0)

inductive All2 {α β : Type} (R : α → β → Prop) : List α → List β → Prop
  | nil : All2 R [] []
  | cons {a : α} {b : β} {xs : List α} {ys : List β} (h : R a b) (t : All2 R xs ys) : All2 R (a :: xs) (b :: ys)
section
variable {α β : Type} {R R' : α → β → Prop}
theorem All2.imp (hi : ∀ a b, R a b → R' a b) {xs : List α} {ys : List β} (h : All2 R xs ys) : All2 R' xs ys := by
  induction h with
  | nil => exact .nil
  | cons h _ ih => exact .cons (hi _ _ h) ih
theorem All2.length {xs : List α} {ys : List β} (h : All2 R xs ys) : xs.length = ys.length := by
  induction h with
  | nil => rfl
  | cons _ _ ih => simp [ih]
theorem All2.at {xs : List α} {ys : List β} (h : All2 R xs ys) : ∀ (i : Nat) (b : β), ys[i]? = some b → ∃ a, xs[i]? = some a ∧ R a b := by
  induction h with
  | nil => intro i b hb; simp at hb
  | cons h _ ih =>
    intro i b hb
    cases i with
    | zero => simp at hb; subst hb; exact ⟨_, rfl, h⟩
    | succ i => simpa using ih i b (by simpa using hb)
theorem All2.append {xs xs' : List α} {ys ys' : List β} (h : All2 R xs ys) (h' : All2 R xs' ys') : All2 R (xs ++ xs') (ys ++ ys') := by
  induction h with
  | nil => exact h'
  | cons h _ ih => exact .cons h ih
theorem All2.take {xs : List α} {ys : List β} (h : All2 R xs ys) : ∀ n, All2 R (xs.take n) (ys.take n) := by
  induction h with
  | nil => intro n; simpa using .nil
  | cons h t ih =>
    intro n
    cases n with
    | zero => exact .nil
    | succ n => exact .cons h (ih n)
theorem All2.drop {xs : List α} {ys : List β} (h : All2 R xs ys) : ∀ n, All2 R (xs.drop n) (ys.drop n) := by
  induction h with
  | nil => intro n; simpa using .nil
  | cons h t ih =>
    intro n
    cases n with
    | zero => exact .cons h t
    | succ n => exact ih n
end

/-- A slice of n elements whose cells, all in a row, are these. -/
def RdF (S : Where) (w : World) (v : Value) (n : Nat) (cs : List Value) : Prop :=
  ∃ p c, v = .slice p n c ∧ n ≤ c ∧ (cs = [] ∨ ∃ b o, p = some ⟨b, o, none⟩ ∧ At S w b o cs)
section
variable {S S' : Where} {w w' : World} {v : Value} {n : Nat} {cs : List Value}
theorem RdF.ext (h : RdF S w v n cs) (he : Ext w w') : RdF S w' v n cs := by
  obtain ⟨p, c, hv, hc, h⟩ := h
  exact ⟨p, c, hv, hc, h.imp id fun ⟨b, o, hp, hA⟩ => ⟨b, o, hp, hA.ext he⟩⟩
theorem RdF.imp (h : RdF S w v n cs) (hS : ∀ b fr, S b fr → S' b fr) : RdF S' w v n cs := by
  obtain ⟨p, c, hv, hc, h⟩ := h
  exact ⟨p, c, hv, hc, h.imp id fun ⟨b, o, hp, hA⟩ => ⟨b, o, hp, hA.imp hS⟩⟩
theorem RdF.keep (h : RdF S w v n cs) (hk : ∀ b fr, S b fr → w'.heap[b]? = w.heap[b]?) : RdF S w' v n cs := by
  obtain ⟨p, c, hv, hc, h⟩ := h
  refine ⟨p, c, hv, hc, h.imp id fun ⟨b, o, hp, hA⟩ => ⟨b, o, hp, ?_⟩⟩
  obtain ⟨C, T, fr, hh, hS, _⟩ := id hA
  exact hA.keep (hk b fr hS)
/-- What is read lies below the heap's end. -/
theorem RdF.below (h : RdF S w v n cs) : RdF (fun b fr => S b fr ∧ b < w.heap.size) w v n cs := by
  obtain ⟨p, c, hv, hc, h⟩ := h
  refine ⟨p, c, hv, hc, h.imp id fun ⟨b, o, hp, hA⟩ => ⟨b, o, hp, ?_⟩⟩
  obtain ⟨C, T, fr, hh, hS, r⟩ := id hA
  exact ⟨C, T, fr, hh, ⟨hS, hA.lt⟩, r⟩
theorem RdF.nil (S : Where) (w : World) (p : Option Addr) (c : Nat) : RdF S w (.slice p 0 c) 0 [] := ⟨p, c, rfl, Nat.zero_le _, .inl rfl⟩
theorem RdF.own {B n : Nat} {e : TypeId} {sz : Nat} (h : w.ownsRow B e sz v n cs) : RdF (fresh B) w v n cs := by
  obtain ⟨hl, h⟩ := h
  rcases h with ⟨rfl, rfl⟩ | ⟨g, cap, cur, rfl, hB, hh, hn, hcap, hsz, htk⟩
  · obtain rfl : cs = [] := List.eq_nil_of_length_eq_zero (by omega)
    exact .nil _ _ _ _
  · refine ⟨_, cap, rfl, hn, .inr ⟨g, 0, rfl, cur, e, (0, 0), hh, ⟨hB, rfl⟩, fun j u hj => ?_⟩⟩
    rw [← htk] at hj
    have : j < n * sz := by
      have h1 := (List.getElem?_eq_some_iff.1 hj).1
      simp at h1
      omega
    rw [List.getElem?_take, if_pos this] at hj
    simpa using hj
end

/-! the kinds of slices -/
abbrev Bytes := List UInt8
def bcells (bs : Bytes) : List Value := bs.map bv
theorem bcells_one (bs : Bytes) : ∀ u ∈ bcells bs, u.oneCell' = true := by
  intro u hu
  obtain ⟨b, _, rfl⟩ := List.mem_map.1 hu
  rfl
@[simp] theorem bcells_length (bs : Bytes) : (bcells bs).length = bs.length := by simp [bcells]
def RdB (S : Where) (w : World) (v : Value) (bs : Bytes) : Prop := RdF S w v bs.length (bcells bs)
def dcells (ds : List Dig) : List Value := ds.flatMap Dig.cells
theorem dcells_length (ds : List Dig) : (dcells ds).length = ds.length * 32 := by
  induction ds with
  | nil => rfl
  | cons d ds ih => simp [dcells, d.len] at ih ⊢; omega
theorem dcells_one (ds : List Dig) : ∀ u ∈ dcells ds, u.oneCell' = true := by
  intro u hu
  obtain ⟨d, _, h⟩ := List.mem_flatMap.1 hu
  exact d.one u h
def RdD (S : Where) (w : World) (v : Value) (ds : List Dig) : Prop := RdF S w v ds.length (dcells ds)
/-- A slice of things that lead on. -/
def RdL {α : Type} (S : Where) (C : World → List Value → α → Prop) (w : World) (v : Value) (xs : List α) : Prop := ∃ es, All2 (C w) es xs ∧ RdF S w v xs.length es.flatten
structure Pair where
  key : Dig
  val : Bytes
  deriving DecidableEq
def PairC (S : Where) (w : World) (e : List Value) (x : Pair) : Prop := ∃ u, e = x.key.cells ++ [u] ∧ RdB S w u x.val
def RdP (S : Where) (w : World) (v : Value) (ps : List Pair) : Prop := RdL S (PairC S) w v ps
def BytesC (S : Where) (w : World) (e : List Value) (x : Bytes) : Prop := ∃ u, e = [u] ∧ RdB S w u x
def RdBs (S : Where) (w : World) (v : Value) (bs : List Bytes) : Prop := RdL S (BytesC S) w v bs
structure Node where
  leaf : Bool
  key : Dig
  val : Bytes
  left : Int
  right : Int
def ncells (x : Node) (u : Value) : List Value := .bool x.leaf :: (x.key.cells ++ [u, iv x.left, iv x.right])
def NodeC (S : Where) (w : World) (e : List Value) (x : Node) : Prop := ∃ u, e = ncells x u ∧ RdB S w u x.val
def RdN (S : Where) (w : World) (v : Value) (ns : List Node) : Prop := RdL S (NodeC S) w v ns
section
variable {S S' : Where} {w w' : World} {v : Value}
theorem RdB.ext {bs : Bytes} (h : RdB S w v bs) (he : Ext w w') : RdB S w' v bs := RdF.ext h he
theorem RdB.imp {bs : Bytes} (h : RdB S w v bs) (hS : ∀ b fr, S b fr → S' b fr) : RdB S' w v bs := RdF.imp h hS
theorem RdB.keep {bs : Bytes} (h : RdB S w v bs) (hk : ∀ b fr, S b fr → w'.heap[b]? = w.heap[b]?) : RdB S w' v bs := RdF.keep h hk
theorem RdD.ext {bs : List Dig} (h : RdD S w v bs) (he : Ext w w') : RdD S w' v bs := RdF.ext h he
theorem RdD.imp {bs : List Dig} (h : RdD S w v bs) (hS : ∀ b fr, S b fr → S' b fr) : RdD S' w v bs := RdF.imp h hS
theorem RdD.keep {bs : List Dig} (h : RdD S w v bs) (hk : ∀ b fr, S b fr → w'.heap[b]? = w.heap[b]?) : RdD S w' v bs := RdF.keep h hk
theorem RdP.ext {xs : List Pair} (h : RdP S w v xs) (he : Ext w w') : RdP S w' v xs := by
  obtain ⟨es, h1, h2⟩ := h
  exact ⟨es, h1.imp fun e x ⟨u, hu, hb⟩ => ⟨u, hu, hb.ext he⟩, h2.ext he⟩
theorem RdP.imp {xs : List Pair} (h : RdP S w v xs) (hS : ∀ b fr, S b fr → S' b fr) : RdP S' w v xs := by
  obtain ⟨es, h1, h2⟩ := h
  exact ⟨es, h1.imp fun e x ⟨u, hu, hb⟩ => ⟨u, hu, hb.imp hS⟩, h2.imp hS⟩
theorem RdP.keep {xs : List Pair} (h : RdP S w v xs) (hk : ∀ b fr, S b fr → w'.heap[b]? = w.heap[b]?) : RdP S w' v xs := by
  obtain ⟨es, h1, h2⟩ := h
  exact ⟨es, h1.imp fun e x ⟨u, hu, hb⟩ => ⟨u, hu, hb.keep hk⟩, h2.keep hk⟩
theorem RdBs.ext {xs : List Bytes} (h : RdBs S w v xs) (he : Ext w w') : RdBs S w' v xs := by
  obtain ⟨es, h1, h2⟩ := h
  exact ⟨es, h1.imp fun e x ⟨u, hu, hb⟩ => ⟨u, hu, hb.ext he⟩, h2.ext he⟩
theorem RdBs.imp {xs : List Bytes} (h : RdBs S w v xs) (hS : ∀ b fr, S b fr → S' b fr) : RdBs S' w v xs := by
  obtain ⟨es, h1, h2⟩ := h
  exact ⟨es, h1.imp fun e x ⟨u, hu, hb⟩ => ⟨u, hu, hb.imp hS⟩, h2.imp hS⟩
theorem RdBs.keep {xs : List Bytes} (h : RdBs S w v xs) (hk : ∀ b fr, S b fr → w'.heap[b]? = w.heap[b]?) : RdBs S w' v xs := by
  obtain ⟨es, h1, h2⟩ := h
  exact ⟨es, h1.imp fun e x ⟨u, hu, hb⟩ => ⟨u, hu, hb.keep hk⟩, h2.keep hk⟩
theorem RdN.ext {xs : List Node} (h : RdN S w v xs) (he : Ext w w') : RdN S w' v xs := by
  obtain ⟨es, h1, h2⟩ := h
  exact ⟨es, h1.imp fun e x ⟨u, hu, hb⟩ => ⟨u, hu, hb.ext he⟩, h2.ext he⟩
theorem RdN.imp {xs : List Node} (h : RdN S w v xs) (hS : ∀ b fr, S b fr → S' b fr) : RdN S' w v xs := by
  obtain ⟨es, h1, h2⟩ := h
  exact ⟨es, h1.imp fun e x ⟨u, hu, hb⟩ => ⟨u, hu, hb.imp hS⟩, h2.imp hS⟩
theorem RdN.keep {xs : List Node} (h : RdN S w v xs) (hk : ∀ b fr, S b fr → w'.heap[b]? = w.heap[b]?) : RdN S w' v xs := by
  obtain ⟨es, h1, h2⟩ := h
  exact ⟨es, h1.imp fun e x ⟨u, hu, hb⟩ => ⟨u, hu, hb.keep hk⟩, h2.keep hk⟩
end

/-! an element of a slice -/
theorem flatten_at {α : Type} (sz : Nat) : ∀ (es : List (List α)), (∀ e ∈ es, e.length = sz) → ∀ (i : Nat) (e : List α), es[i]? = some e → es.flatten = (es.take i).flatten ++ (e ++ (es.drop (i + 1)).flatten) ∧ (es.take i).flatten.length = i * sz
  | [], _, i, e, h => by simp at h
  | x :: es, hl, i, e, h => by
    cases i with
    | zero => simp at h; subst h; simp
    | succ i =>
      have h' : es[i]? = some e := by simpa using h
      obtain ⟨h1, h2⟩ := flatten_at sz es (fun y hy => hl y (by simp [hy])) i e h'
      have hx := hl x (by simp)
      refine ⟨by simp only [List.flatten_cons, List.take_succ_cons, List.drop_succ_cons]; rw [h1]; simp, by simp only [List.take_succ_cons, List.flatten_cons, List.length_append, h2, hx]; rw [Nat.add_mul]; omega⟩
theorem RdL.elem {α : Type} {S : Where} {C : World → List Value → α → Prop} {w : World} {v : Value} {xs : List α} (sz : Nat) (hC : ∀ e x, C w e x → e.length = sz) (h : RdL S C w v xs) {i : Nat} {x : α} (hx : xs[i]? = some x) (hsz : 0 < sz) :
    ∃ b o c e, v = .slice (some ⟨b, o, none⟩) xs.length c ∧ C w e x ∧ At S w b (o + i * sz) e := by
  obtain ⟨es, h1, p, c, hv, hc, h2⟩ := h
  obtain ⟨e, he, hCe⟩ := h1.at i x hx
  have hall : ∀ e ∈ es, e.length = sz := by
    intro e he
    obtain ⟨j, hj⟩ := List.mem_iff_getElem?.1 he
    have hjl : j < xs.length := by rw [← h1.length]; exact (List.getElem?_eq_some_iff.1 hj).1
    obtain ⟨e', he', hC'⟩ := h1.at j _ (List.getElem?_eq_getElem hjl)
    rw [hj] at he'; cases he'
    exact hC _ _ hC'
  obtain ⟨h3, h4⟩ := flatten_at sz es hall i e he
  rcases h2 with h2 | ⟨b, o, rfl, hA⟩
  · have : (es.flatten).length = 0 := by rw [h2]; rfl
    rw [h3] at this
    have hel := hC _ _ hCe
    simp at this
    have : e.length = 0 := by rw [this.2.1]; rfl
    omega
  · exact ⟨b, o, c, e, hv, hCe, hA.sub _ e h3 (by rw [h4])⟩
theorem pairC_len {S : Where} {w : World} (e : List Value) (x : Pair) (h : PairC S w e x) : e.length = 33 := by
  obtain ⟨u, rfl, _⟩ := h; simp [x.key.len]
theorem bytesC_len {S : Where} {w : World} (e : List Value) (x : Bytes) (h : BytesC S w e x) : e.length = 1 := by
  obtain ⟨u, rfl, _⟩ := h; rfl
theorem ncells_len (x : Node) (u : Value) : (ncells x u).length = 36 := by simp [ncells, x.key.len]
theorem nodeC_len {S : Where} {w : World} (e : List Value) (x : Node) (h : NodeC S w e x) : e.length = 36 := by
  obtain ⟨u, rfl, _⟩ := h; exact ncells_len x u
/-- Element i of a slice of bytes, of digests. -/
theorem RdB.elem {S : Where} {w : World} {v : Value} {bs : Bytes} (h : RdB S w v bs) {i : Nat} (hi : i < bs.length) : ∃ b o c, v = .slice (some ⟨b, o, none⟩) bs.length c ∧ At S w b (o + i) [bv (bs.getD i 0)] := by
  obtain ⟨p, c, hv, hc, h⟩ := h
  rcases h with h | ⟨b, o, rfl, hA⟩
  · have : bs.length = 0 := by rw [← bcells_length, h]; rfl
    omega
  · exact ⟨b, o, c, hv, hA.one (by simp [bcells, List.getD, hi]) rfl⟩
theorem RdD.elem {S : Where} {w : World} {v : Value} {ds : List Dig} (h : RdD S w v ds) {i : Nat} {d : Dig} (hd : ds[i]? = some d) : ∃ b o c, v = .slice (some ⟨b, o, none⟩) ds.length c ∧ At S w b (o + i * 32) d.cells := by
  obtain ⟨p, c, hv, hc, h⟩ := h
  have hfl : dcells ds = (ds.map Dig.cells).flatten := by simp [dcells, List.flatMap]
  obtain ⟨h1, h2⟩ := flatten_at 32 (ds.map Dig.cells) (by simp [Dig.len]) i d.cells (by simp [hd])
  rcases h with h | ⟨b, o, rfl, hA⟩
  · have hl : (dcells ds).length = 0 := by rw [h]; rfl
    rw [dcells_length] at hl
    have := (List.getElem?_eq_some_iff.1 hd).1
    omega
  · rw [hfl] at hA
    exact ⟨b, o, c, hv, hA.sub _ d.cells h1 (by rw [h2])⟩
end Go.Proofs.YtefneilaongpbaaDoor
/-
  Slices of one's own, and appending; slicing; making slices; building structs, arrays and slices.
-/
set_option linter.unusedVariables false
set_option linter.unusedSimpArgs false
set_option maxRecDepth 100000
namespace Go.Bd
open Go Go.RowKit

/-- A slice of n elements of sz cells, in a block of one's own from B on, from its beginning; or an empty one without room. -/
def Own (B : Nat) (w : World) (v : Value) (n sz : Nat) (T : TypeId) (cs : List Value) : Prop :=
  cs.length = n * sz ∧ ((n = 0 ∧ ∃ p, v = .slice p 0 0) ∨ ∃ g cap rest, v = .slice (some ⟨g, 0, none⟩) n cap ∧ B ≤ g ∧ n ≤ cap ∧ Blk w g T (cs ++ rest) ∧ rest.length = (cap - n) * sz)
/-- The block in which there is room, or elements. -/
def rowOf : Value → Option Nat
  | .slice (some a) _ (_ + 1) => some a.block
  | _ => none
/-- All but one of the old blocks is as it was. -/
structure But (r : Option Nat) (w w' : World) : Prop where
  os : w'.os = w.os
  tape : w'.tape = w.tape
  output : w'.output = w.output
  size : w.heap.size ≤ w'.heap.size
  block : ∀ k, k < w.heap.size → some k ≠ r → w'.heap[k]? = w.heap[k]?
theorem But.below {r : Option Nat} {w0 w w' : World} {B : Nat} (h : But r w w') (hr : ∀ k, r = some k → B ≤ k) (hB : B ≤ w.heap.size) (h0 : Below B w0 w) : Below B w0 w' :=
  h0.trans ⟨h.os, h.tape, h.output, h.size, fun k hk => h.block k (by omega) (fun e => by have := hr k e.symm; omega)⟩
theorem But.ext {w w' : World} (h : But none w w') : Ext w w' := ⟨h.os, h.tape, h.output, h.size, fun k hk => h.block k hk (by simp)⟩
theorem But.of_ext {w w' : World} (r : Option Nat) (h : Ext w w') : But r w w' := ⟨h.os, h.tape, h.output, h.size, fun k hk _ => h.block k hk⟩
theorem But.of_chg {b : Nat} {w w' : World} (h : Chg b w w') : But (some b) w w' := ⟨h.os, h.tape, h.output, by rw [h.size]; exact Nat.le_refl _, fun k _ hk => h.block k (by simpa using hk)⟩
theorem Own.bare (B : Nat) (w : World) (p : Option Addr) (sz : Nat) (T : TypeId) : Own B w (.slice p 0 0) 0 sz T [] := ⟨by simp, .inl ⟨rfl, p, rfl⟩⟩
theorem Own.shape {B : Nat} {w : World} {v : Value} {n sz : Nat} {T : TypeId} {cs : List Value} (h : Own B w v n sz T cs) : ∃ p c, v = .slice p n c := by
  rcases h.2 with ⟨rfl, p, rfl⟩ | ⟨g, cap, rest, rfl, _⟩
  · exact ⟨_, _, rfl⟩
  · exact ⟨_, _, rfl⟩
theorem Own.keep {B : Nat} {w w' : World} {v : Value} {n sz : Nat} {T : TypeId} {cs : List Value} (h : Own B w v n sz T cs) (hk : ∀ g, rowOf v = some g → g < w.heap.size → w'.heap[g]? = w.heap[g]?) (hsz : 0 < sz) : Own B w' v n sz T cs := by
  obtain ⟨hl, h⟩ := h
  refine ⟨hl, ?_⟩
  rcases h with h | ⟨g, cap, rest, rfl, hB, hn, hblk, hr⟩
  · exact .inl h
  · cases cap with
    | zero =>
      obtain rfl : n = 0 := by omega
      exact .inl ⟨rfl, _, rfl⟩
    | succ cap => exact .inr ⟨g, _, rest, rfl, hB, hn, hblk.keep (hk g rfl hblk.lt), hr⟩
theorem Own.ext {B : Nat} {w w' : World} {v : Value} {n sz : Nat} {T : TypeId} {cs : List Value} (h : Own B w v n sz T cs) (he : Ext w w') : Own B w' v n sz T cs := by
  obtain ⟨hl, h⟩ := h
  refine ⟨hl, h.imp id ?_⟩
  rintro ⟨g, cap, rest, rfl, hB, hn, hblk, hr⟩
  exact ⟨g, cap, rest, rfl, hB, hn, hblk.ext he, hr⟩
theorem Own.mono {B B' : Nat} {w : World} {v : Value} {n sz : Nat} {T : TypeId} {cs : List Value} (h : Own B w v n sz T cs) (hB : B' ≤ B) : Own B' w v n sz T cs := by
  obtain ⟨hl, h⟩ := h
  refine ⟨hl, h.imp id ?_⟩
  rintro ⟨g, cap, rest, rfl, hB', r⟩
  exact ⟨g, cap, rest, rfl, by omega, r⟩
theorem Own.row {B : Nat} {w : World} {v : Value} {n sz : Nat} {T : TypeId} {cs : List Value} (h : Own B w v n sz T cs) {k : Nat} (hk : rowOf v = some k) : B ≤ k ∧ k < w.heap.size := by
  rcases h.2 with ⟨rfl, p, rfl⟩ | ⟨g, cap, rest, rfl, hB, hn, hblk, hr⟩
  · simp [rowOf] at hk
  · cases cap with
    | zero => simp [rowOf] at hk
    | succ c => simp [rowOf] at hk; subst hk; exact ⟨hB, hblk.lt⟩

section
variable {P : Program} {tt : List (Nat × Ti)}
theorem Ti.Ok.more {t : TypeId} {i : Ti} (h : i.Ok P t) : ∃ x z, P.info? t = some x ∧ x.zero = some z ∧ z.cells = i.zero.toArray ∧ x.size = i.size ∧ x.bytes = i.bytes := by
  obtain ⟨x, hx, _, hs, hb⟩ := h.run_info (default : World)
  have hz := h.zero
  simp only [hx, Option.bind_some] at hz
  cases hzz : x.zero with
  | none => simp [hzz] at hz
  | some z => simp [hzz] at hz; exact ⟨x, z, hx, hzz, by simp [← hz], hs, hb⟩
theorem run_loadCells_at {S : Nat → Nat × Nat → Prop} {w : World} {b o : Nat} {cs : List Value} (h : At S w b o cs) : ∀ j v, cs[j]? = some v → w.cell? ((⟨b, o, none⟩ : Addr).add j) = some v := fun j v hj => by
  rw [add_addr]; exact h.cell hj

/-- Appending. -/
theorem run_app {S : Nat → Nat × Nat → Prop} {t ty e : TypeId} {i ie : Ti} {B : Nat} {w : World} {v x : Value} {n m sz : Nat} {xs news : List Value} (hT : Tys P tt) (hi : TT.get tt t = some i) (hdesc : i.desc = .slice e) (hie : TT.get tt e = some ie) (hs : ie.size = sz) (hsz : 0 < sz) (hzl : ie.zero.length = sz)
    (hown : Own B w v n sz e xs) (hsrc : Go.Proofs.YtefneilaongpbaaDoor.RdF S w x m news) (hl : news.length = m * sz) (h1 : ∀ u ∈ news, u.oneCell' = true) (hbytes : (n + m) * ie.bytes ≤ 140737488355328) (h63 : n + m ≤ 140737488355328) (hB : B ≤ w.heap.size) :
    ∃ v' w', (Builtin.append_ #[t, t] ty #[v, x]).run P w = .ok v' w' ∧ Own B w' v' (n + m) sz e (xs ++ news) ∧ But (rowOf v) w w' ∧ (rowOf v' = rowOf v ∨ rowOf v' = some w.heap.size ∧ Ext w w') := by
  have hu : P.underlying t = some (.slice e) := by have := (hT.ok t i hi).desc; rw [hdesc] at this; exact this
  obtain ⟨ix, z, hix, hz, hzc, hxs, hxb⟩ := (hT.ok e ie hie).more
  obtain ⟨p, c, rfl, hmc, hsrc⟩ := hsrc
  have hxl : xs.length = n * sz := hown.1
  subst hs
  by_cases hm : m = 0
  · subst hm
    have hnil : news = [] := List.eq_nil_of_length_eq_zero (by simpa using hl)
    subst hnil
    refine ⟨v, w, ?_, by simpa using hown, But.of_ext _ (Ext.refl w), .inl rfl⟩
    have hlc : ∀ a : Addr, (loadCells a 0).run P w = .ok #[] w := fun a => by
      have := run_loadCells_list (P := P) w a [] (by simp)
      simpa using this
    rcases hown.2 with ⟨rfl, q, rfl⟩ | ⟨g, cap, rest, rfl, hBg, hn, hblk, hr⟩
    · cases p <;> cases q <;> simp [Builtin.append_, run_underlying hu, sizeOf, typeInfo, hix, Builtin.lenOf, Builtin.firstCells, hlc, storeCells]
    · cases p <;> simp [Builtin.append_, run_underlying hu, sizeOf, typeInfo, hix, Builtin.lenOf, Builtin.firstCells, hlc, storeCells, hn]
  · have hne : news ≠ [] := by
      intro h0
      rw [h0] at hl
      have : 0 < m * ie.size := Nat.mul_pos (by omega) hsz
      simp at hl
      omega
    obtain ⟨b, o, rfl, hA⟩ := hsrc.resolve_left hne
    have hnews := run_loadCells_at hA
    have grown : ∀ (old : Nat), old < n + m → 
        Own B (w.drew.alloc (.cells (xs.toArray ++ news.toArray ++ Builtin.zeroCells z.cells (grownCap w (n + m) old e - (n + m))) e)) (.slice (some ⟨w.heap.size, 0, none⟩) (n + m) (grownCap w (n + m) old e)) (n + m) ie.size e (xs ++ news) ∧
        Ext w (w.drew.alloc (.cells (xs.toArray ++ news.toArray ++ Builtin.zeroCells z.cells (grownCap w (n + m) old e - (n + m))) e)) ∧
        rowOf (.slice (some ⟨w.heap.size, 0, none⟩) (n + m) (grownCap w (n + m) old e)) = some w.heap.size := by
      intro old ho
      have hge := grownCap_ge w (n + m) old e
      refine ⟨⟨by rw [List.length_append, hxl, hl, Nat.add_mul], .inr ⟨w.heap.size, _, (Builtin.zeroCells z.cells (grownCap w (n + m) old e - (n + m))).toList, rfl, hB, hge, ?_, ?_⟩⟩, ⟨rfl, rfl, rfl, by simp, fun k hk => heap_alloc_old w.drew _ hk⟩, ?_⟩
      · have := heap_alloc_new w.drew (.cells (xs.toArray ++ news.toArray ++ Builtin.zeroCells z.cells (grownCap w (n + m) old e - (n + m))) e)
        have ea : xs.toArray ++ news.toArray ++ Builtin.zeroCells z.cells (grownCap w (n + m) old e - (n + m)) = ((xs ++ news) ++ (Builtin.zeroCells z.cells (grownCap w (n + m) old e - (n + m))).toList).toArray := by
          apply Array.ext'
          simp
        rw [ea] at this ⊢
        exact this
      · have : (Builtin.zeroCells z.cells (grownCap w (n + m) old e - (n + m))).size = (grownCap w (n + m) old e - (n + m)) * ie.size := by rw [size_zeroCells, hzc]; simp [hzl]
        simpa using this
      · cases hg : grownCap w (n + m) old e with
        | zero => omega
        | succ q => rfl
    have hb2 : (n + m) * ix.bytes ≤ 140737488355328 := by rw [hxb]; exact hbytes
    have hnl : news.length = m * ix.size := by rw [hxs]; exact hl
    have hgrow : ∀ (q : Option Addr) (old : Nat), (∀ a, q = some a → ∀ j u, xs[j]? = some u → w.cell? (a.add j) = some u) → (q = none → n = 0 ∧ old = 0) → old < n + m →
        (Builtin.append_ #[t, t] ty #[.slice q n old, .slice (some ⟨b, o, none⟩) m c]).run P w = .ok (.slice (some ⟨w.heap.size, 0, none⟩) (n + m) (grownCap w (n + m) old e)) (w.drew.alloc (.cells (xs.toArray ++ news.toArray ++ Builtin.zeroCells z.cells (grownCap w (n + m) old e - (n + m))) e)) := by
      intro q old hold hno ho
      cases q with
      | some a => exact run_append_grow (P := P) w t ty e ix z hu hix hz a n old xs (by rw [hxs]; exact hxl) (hold a rfl) _ m c news hnl hnews ho (by omega) (growslice_fits ho hb2)
      | none =>
        obtain ⟨rfl, rfl⟩ := hno rfl
        have hx0 : xs = [] := List.eq_nil_of_length_eq_zero (by simpa using hxl)
        subst hx0
        have := run_append_nil (P := P) w t ty e ix z hu hix hz ⟨b, o, none⟩ m c news hnl hnews (by omega) (by omega) (by simp only [Nat.zero_add] at hb2; omega)
        simp only [Nat.zero_add, Array.empty_append]
        simpa using this
    rcases hown.2 with ⟨rfl, q, rfl⟩ | ⟨g, cap, rest, rfl, hBg, hn, hblk, hr⟩
    · have hx0 : xs = [] := List.eq_nil_of_length_eq_zero (by simpa using hxl)
      obtain ⟨h2, h3, h4⟩ := grown 0 (by omega)
      exact ⟨_, _, hgrow q 0 (fun a _ j u hj => by simp [hx0] at hj) (fun _ => ⟨rfl, rfl⟩) (by omega), h2, But.of_ext _ h3, .inr ⟨h4, h3⟩⟩
    · by_cases hroom : n + m ≤ cap
      · have hst := run_storeCells (P := P) news (n * ie.size) 0 g (xs ++ rest) e (0, 0) w hblk (by
          simp only [List.length_append, hxl, hl, hr, Nat.add_zero]
          rw [← Nat.add_mul, ← Nat.add_mul]
          exact Nat.mul_le_mul_right _ (by omega)) h1 (by intro j _; simp)
        have hlc := run_loadCells_list (P := P) w ⟨b, o, none⟩ news hnews
        rw [hnl] at hlc
        have hsp : splice (xs ++ rest) (n * ie.size) news = (xs ++ news) ++ rest.drop (m * ie.size) := by
          unfold splice
          rw [← hxl, List.take_left, ← List.append_assoc]
          congr 1
          rw [← hl, ← List.drop_drop, List.drop_left]
        refine ⟨.slice (some ⟨g, 0, none⟩) (n + m) cap, World.put w g (n * ie.size) news, ?_, ⟨by rw [List.length_append, hxl, hl, Nat.add_mul], .inr ⟨g, cap, rest.drop (m * ie.size), rfl, hBg, hroom, ?_, ?_⟩⟩, ?_, .inl ?_⟩
        · rw [hxs] at hlc
          have hst' := hst
          simp only [Nat.add_zero] at hst'
          simp [Builtin.append_, run_underlying hu, sizeOf, typeInfo, hix, Builtin.lenOf, Builtin.firstCells, hroom, hxs, hlc, add_addr, hst']
        · rw [← hsp]; exact blk_put hblk
        · rw [List.length_drop, hr, ← Nat.sub_mul]; congr 1; omega
        · cases cap with
          | zero => omega
          | succ q => exact But.of_chg (chg_put _ _ _ _)
        · cases cap with
          | zero => omega
          | succ q => rfl
      · obtain ⟨h2, h3, h4⟩ := grown cap (by omega)
        refine ⟨_, _, hgrow _ cap (fun a ha j u hj => ?_) (by simp) (by omega), h2, But.of_ext _ h3, .inr ⟨h4, h3⟩⟩
        cases ha
        refine run_loadCells_at (S := any) (o := 0) (cs := xs) ?_ j u hj
        have := (hblk.all).sub [] xs (q := rest) rfl rfl
        exact this
end

section
variable {P : Program} {n : Sz} {Q : Act → World → Prop} {f : Fr} {w : World} {ops : Array Oper} {rest : List Oper} {tt : List (Nat × Ti)} {d : Nat} {ty : TypeId} {pos : String} {aft : Array Edge} {g : Option (Nat × Bool)}
theorem GL.append {S : Nat → Nat × Nat → Prop} {t e : TypeId} {i ie : Ti} {B : Nat} {x y : Operand} {v u : Value} {k m sz : Nat} {xs news : List Value} (hT : Tys P tt) (hw : want ops f g = some true) (hlt : Nat.blt d n.size = true) (hi : TT.get tt t = some i) (hdesc : i.desc = .slice e) (hie : TT.get tt e = some ie) (hs : Nat.beq ie.size sz = true) (hsz : Nat.blt 0 sz = true) (hzl : Nat.beq ie.zero.length sz = true)
    (hx : ev f x = some v) (hy : ev f y = some u) (hown : Own B w v k sz e xs) (hsrc : Go.Proofs.YtefneilaongpbaaDoor.RdF S w u m news) (hl : news.length = m * sz) (h1 : ∀ u ∈ news, u.oneCell' = true) (hbytes : (k + m) * ie.bytes ≤ 140737488355328) (h63 : k + m ≤ 140737488355328) (hB : B ≤ w.heap.size)
    (h : ∀ v' w', Own B w' v' (k + m) sz e (xs ++ news) → But (rowOf v) w w' → (rowOf v' = rowOf v ∨ rowOf v' = some w.heap.size ∧ Ext w w') → GL P n Q ops rest ((d, v') :: f) w') :
    GL P n Q ops (⟨some d, .call { callee := .builtin .append, args := #[x, y], argTypes := #[t, t] }, ty, pos, aft, g⟩ :: rest) f w := by
  obtain ⟨v', w', hr, h2, h3, h4⟩ := run_app (P := P) (ty := ty) hT hi hdesc hie (Nat.eq_of_beq_eq_true hs) (by simpa [Nat.blt_eq] using hsz) (Nat.eq_of_beq_eq_true hzl) hown hsrc hl h1 hbytes h63 hB
  exact GL.yields hw rfl hlt (fun a ha => by simp [execOp, resolve, ha.eval hx, ha.eval hy, invoke, builtin, hr]) (h v' w' h2 h3 h4)
end
end Go.Bd
namespace Go.Proofs.YtefneilaongpbaaDoor
open Go Go.Bd
theorem RdF.ofOwn {B : Nat} {w : World} {v : Value} {n sz : Nat} {T : TypeId} {cs : List Value} (h : Own B w v n sz T cs) : RdF (fun b fr => B ≤ b ∧ fr = (0, 0) ∧ rowOf v = some b) w v n cs := by
  obtain ⟨hl, h⟩ := h
  rcases h with ⟨rfl, p, rfl⟩ | ⟨g, cap, rest, rfl, hB, hn, hblk, hr⟩
  · obtain rfl : cs = [] := List.eq_nil_of_length_eq_zero (by omega)
    exact .nil _ _ _ _
  · refine ⟨_, cap, rfl, hn, ?_⟩
    cases cap with
    | zero => 
      obtain rfl : n = 0 := by omega
      exact .inl (List.eq_nil_of_length_eq_zero (by simpa using hl))
    | succ cap =>
      refine .inr ⟨g, 0, rfl, ?_⟩
      have := (hblk.at [] cs (q := rest) (o := 0) rfl rfl)
      exact this.imp fun b fr ⟨h1, h2⟩ => ⟨h1 ▸ hB, h2, by rw [h1]; rfl⟩
/-- Bytes, digests of one's own. -/
abbrev OwnB (B : Nat) (w : World) (v : Value) (bs : Bytes) : Prop := Own B w v bs.length 1 5 (bcells bs)
abbrev OwnD (B : Nat) (w : World) (v : Value) (ds : List Dig) : Prop := Own B w v ds.length 32 25 (dcells ds)
theorem Own.sep {B B' : Nat} {w : World} {v v' : Value} {n n' sz sz' : Nat} {T T' : TypeId} {cs cs' : List Value} (h : Own B w v n sz T cs) (h' : Own B' w v' n' sz' T' cs') (hne : Nat.beq T T' = false) : ∀ k, rowOf v = some k → rowOf v' ≠ some k := by
  intro k hk hk'
  rcases h.2 with ⟨rfl, p, rfl⟩ | ⟨g, cap, rest, rfl, hB, hn, hblk, hr⟩
  · simp [rowOf] at hk
  · rcases h'.2 with ⟨rfl, p, rfl⟩ | ⟨g', cap', rest', rfl, hB', hn', hblk', hr'⟩
    · simp [rowOf] at hk'
    · cases cap with
      | zero => simp [rowOf] at hk
      | succ c =>
        cases cap' with
        | zero => simp [rowOf] at hk'
        | succ c' =>
          simp [rowOf] at hk hk'
          subst hk
          subst hk'
          unfold Blk at hblk hblk'
          rw [hblk] at hblk'
          simp at hblk'
          exact Nat.ne_of_beq_eq_false hne hblk'.2
end Go.Proofs.YtefneilaongpbaaDoor
/-
  Slicing; making slices; building structs, arrays and slices; the least of two; an element of an array's value; a string's bytes.
-/
set_option linter.unusedVariables false
set_option linter.unusedSimpArgs false
set_option maxRecDepth 100000
namespace Go.Bd
open Go Go.RowKit

def bndOk (f : Fr) (dflt : Nat) (x : Option Operand) (L : Nat) : Prop := match x with
  | none => L = dflt
  | some y => ∃ K A, ev f y = some (.int K A) ∧ A = (L : Int)
def cutP (p : Option Addr) (L M sz : Nat) : Option Addr := if M = L then p else p.map (·.add (L * sz))
section
variable {P : Program} {n : Sz} {Q : Act → World → Prop} {f : Fr} {w : World} {ops : Array Oper} {rest : List Oper} {tt : List (Nat × Ti)} {d : Nat} {ty : TypeId} {pos : String} {aft : Array Edge} {g : Option (Nat × Bool)}
theorem run_bound {f : Fr} {a : Act} (ha : St n f a) {y : Operand} {K : IntKind} {A : Int} {L m : Nat} {code : BoundsCode} (h : ev f y = some (.int K A)) (hA : A = (L : Int)) (hL : L ≤ m) (w : World) : (Instr.sliceBound (a.eval y) m code).run P w = .ok L w := by
  rw [ha.eval h]
  simp [Instr.sliceBound, asIntOf, hA, hL]
theorem run_slice {t e : TypeId} {i ie : Ti} {x : Operand} {lo hi mx : Option Operand} {p : Option Addr} {m c L H M sz : Nat} (hT : Tys P tt) (hi' : TT.get tt t = some i) (hdesc : i.desc = .slice e) (hie : TT.get tt e = some ie) (hs : ie.size = sz)
    (hx : ev f x = some (.slice p m c)) (hlo : bndOk f 0 lo L) (hhi : bndOk f m hi H) (hmx : bndOk f c mx M) (hmh : mx.isSome = true → hi.isSome = true) (hLH : L ≤ H) (hHM : H ≤ M) (hMc : M ≤ c) (w : World) :
    ∀ a, St n f a → (execOp a.eval ⟨some d, .slice t x lo hi mx, ty, pos, aft, g⟩).run P w = .ok (.value (.slice (cutP p L M sz) (H - L) (M - L))) w := by
  intro a ha
  have hu : P.underlying t = some (.slice e) := by have := (hT.ok t i hi').desc; rw [hdesc] at this; exact this
  have hsz := fun w => (hT.ok e ie hie).run_sizeOf w
  rw [hs] at hsz
  have B : ∀ (y : Operand) (L m : Nat), (∃ K A, ev f y = some (.int K A) ∧ A = (L : Int)) → L ≤ m → ∀ code w, (Instr.sliceBound (a.eval y) m code).run P w = .ok L w := fun y L m ⟨K, A, h1, h2⟩ hL code w => run_bound ha h1 h2 hL w
  have hb : (Instr.sliceBounds true m c (lo.map a.eval) (hi.map a.eval) (mx.map a.eval)).run P w = .ok (L, H, M) w := by
    rcases mx with _ | ym <;> rcases hi with _ | yh <;> rcases lo with _ | yl
    all_goals simp only [bndOk] at hlo hhi hmx
    · subst hlo hhi hmx; simp [Instr.sliceBounds]
    · subst hhi hmx; simp [Instr.sliceBounds, B _ _ _ hlo hLH]
    · subst hlo hmx; simp [Instr.sliceBounds, B _ _ _ hhi hHM]
    · subst hmx; simp [Instr.sliceBounds, B _ _ _ hhi hHM, B _ _ _ hlo hLH]
    · simp at hmh
    · simp at hmh
    · subst hlo; simp [Instr.sliceBounds, B _ _ _ hmx hMc, B _ _ _ hhi hHM]
    · simp [Instr.sliceBounds, B _ _ _ hmx hMc, B _ _ _ hhi hHM, B _ _ _ hlo hLH]
  simp [execOp, Instr.sliceAt, Instr.slice, ha.eval hx, run_underlying hu, hb, hsz, cutP]
theorem GL.slice {t e : TypeId} {i ie : Ti} {x : Operand} {lo hi mx : Option Operand} {p : Option Addr} {m c : Nat} (L H M sz : Nat) (hT : Tys P tt) (hw : want ops f g = some true) (hlt : Nat.blt d n.size = true) (hi' : TT.get tt t = some i) (hdesc : i.desc = .slice e) (hie : TT.get tt e = some ie) (hs : ie.size = sz)
    (hx : ev f x = some (.slice p m c)) (hlo : bndOk f 0 lo L) (hhi : bndOk f m hi H) (hmx : bndOk f c mx M) (hmh : mx.isSome = true → hi.isSome = true) (hLH : L ≤ H) (hHM : H ≤ M) (hMc : M ≤ c)
    (h : GL P n Q ops rest ((d, .slice (cutP p L M sz) (H - L) (M - L)) :: f) w) : GL P n Q ops (⟨some d, .slice t x lo hi mx, ty, pos, aft, g⟩ :: rest) f w :=
  GL.yields hw rfl hlt (run_slice hT hi' hdesc hie hs hx hlo hhi hmx hmh hLH hHM hMc w) h
theorem GQ.slice {t e : TypeId} {i ie : Ti} {x : Operand} {lo hi mx : Option Operand} {p : Option Addr} {m c : Nat} (L H M sz : Nat) (hT : Tys P tt) (hw : want ops f g = some true) (hlt : Nat.blt d n.size = true) (hi' : TT.get tt t = some i) (hdesc : i.desc = .slice e) (hie : TT.get tt e = some ie) (hs : ie.size = sz)
    (hx : ev f x = some (.slice p m c)) (hlo : bndOk f 0 lo L) (hhi : bndOk f m hi H) (hmx : bndOk f c mx M) (hmh : mx.isSome = true → hi.isSome = true) (hLH : L ≤ H) (hHM : H ≤ M) (hMc : M ≤ c)
    (h : GQ P n Q ops rest ((d, .slice (cutP p L M sz) (H - L) (M - L)) :: f) w) : GQ P n Q ops (⟨some d, .slice t x lo hi mx, ty, pos, aft, g⟩ :: rest) f w :=
  GQ.yields hw rfl hlt (fun w _ => run_slice hT hi' hdesc hie hs hx hlo hhi hmx hmh hLH hHM hMc w) h
/-- An array's whole, by its address. -/
theorem run_sliceArr {t e : TypeId} {i ie : Ti} {x : Operand} {b o m : Nat} (hT : Tys P tt) (hi' : TT.get tt t = some i) (hdesc : i.desc = .arr m e) (hie : TT.get tt e = some ie) (hx : ev f x = some (ptr b o)) (w : World) :
    ∀ a, St n f a → (execOp a.eval ⟨some d, .slice t x none none none, ty, pos, aft, g⟩).run P w = .ok (.value (.slice (some ⟨b, o, none⟩) m m)) w := by
  intro a ha
  have hu : P.underlying t = some (.array m e) := by have := (hT.ok t i hi').desc; rw [hdesc] at this; exact this
  have hsz := fun w => (hT.ok e ie hie).run_sizeOf w
  have h0 : ∀ s, (⟨b, o, none⟩ : Addr).add (0 * s) = ⟨b, o, none⟩ := fun s => by rw [add_addr]; simp
  simp [execOp, Instr.sliceAt, Instr.sliceBounds, ha.eval hx, Instr.sureAddr, run_underlying hu, hsz, h0]
  intro _
  simpa using h0 0
theorem GL.sliceArr {t e : TypeId} {i ie : Ti} {x : Operand} {b o m : Nat} (hT : Tys P tt) (hw : want ops f g = some true) (hlt : Nat.blt d n.size = true) (hi' : TT.get tt t = some i) (hdesc : i.desc = .arr m e) (hie : TT.get tt e = some ie) (hx : ev f x = some (ptr b o))
    (h : GL P n Q ops rest ((d, .slice (some ⟨b, o, none⟩) m m) :: f) w) : GL P n Q ops (⟨some d, .slice t x none none none, ty, pos, aft, g⟩ :: rest) f w :=
  GL.yields hw rfl hlt (run_sliceArr hT hi' hdesc hie hx w) h
theorem GQ.sliceArr {t e : TypeId} {i ie : Ti} {x : Operand} {b o m : Nat} (hT : Tys P tt) (hw : want ops f g = some true) (hlt : Nat.blt d n.size = true) (hi' : TT.get tt t = some i) (hdesc : i.desc = .arr m e) (hie : TT.get tt e = some ie) (hx : ev f x = some (ptr b o))
    (h : GQ P n Q ops rest ((d, .slice (some ⟨b, o, none⟩) m m) :: f) w) : GQ P n Q ops (⟨some d, .slice t x none none none, ty, pos, aft, g⟩ :: rest) f w :=
  GQ.yields hw rfl hlt (fun w _ => run_sliceArr hT hi' hdesc hie hx w) h

/-! min -/
theorem run_minop {x y : Operand} {tys : Array TypeId} {A B : Int} (hx : ev f x = some (iv A)) (hy : ev f y = some (iv B)) (w : World) :
    ∀ a, St n f a → (execOp a.eval ⟨some d, .call { callee := .builtin .min, args := #[x, y], argTypes := tys }, ty, pos, aft, g⟩).run P w = .ok (.value (iv (if B < A then B else A))) w := by
  intro a ha
  have := run_min_int2 (P := P) (w := w) tys ty .i64 .i64 A B
  simp [execOp, resolve, ha.eval hx, ha.eval hy, invoke, builtin, this]
theorem GL.min {x y : Operand} {tys : Array TypeId} {A B : Int} (hw : want ops f g = some true) (hlt : Nat.blt d n.size = true) (hx : ev f x = some (iv A)) (hy : ev f y = some (iv B))
    (h : GL P n Q ops rest ((d, iv (if B < A then B else A)) :: f) w) : GL P n Q ops (⟨some d, .call { callee := .builtin .min, args := #[x, y], argTypes := tys }, ty, pos, aft, g⟩ :: rest) f w :=
  GL.yields hw rfl hlt (run_minop hx hy w) h
theorem run_capop {x : Operand} {t e : TypeId} {i : Ti} {p : Option Addr} {m c : Nat} (hT : Tys P tt) (hi' : TT.get tt t = some i) (hdesc : i.desc = .slice e) (hx : ev f x = some (.slice p m c)) (w : World) :
    ∀ a, St n f a → (execOp a.eval ⟨some d, .call { callee := .builtin .cap, args := #[x], argTypes := #[t] }, ty, pos, aft, g⟩).run P w = .ok (.value (iv c)) w := by
  intro a ha
  have hu : P.underlying t = some (.slice e) := by have := (hT.ok t i hi').desc; rw [hdesc] at this; exact this
  simp [execOp, resolve, ha.eval hx, invoke, builtin, Builtin.cap_, run_underlying hu, goInt]
theorem GL.cap {x : Operand} {t e : TypeId} {i : Ti} {p : Option Addr} {m c : Nat} (hT : Tys P tt) (hw : want ops f g = some true) (hlt : Nat.blt d n.size = true) (hi' : TT.get tt t = some i) (hdesc : i.desc = .slice e) (hx : ev f x = some (.slice p m c))
    (h : GL P n Q ops rest ((d, iv c) :: f) w) : GL P n Q ops (⟨some d, .call { callee := .builtin .cap, args := #[x], argTypes := #[t] }, ty, pos, aft, g⟩ :: rest) f w :=
  GL.yields hw rfl hlt (run_capop hT hi' hdesc hx w) h

/-! an element of an array's value; of a string -/
theorem run_indexV {t e : TypeId} {i ie : Ti} {x y : Operand} {m j : Nat} {K : IntKind} {A : Int} {cs : List Value} {v : Value} (hT : Tys P tt) (hi' : TT.get tt t = some i) (hdesc : i.desc = .arr m e) (hie : TT.get tt e = some ie) (hse : ie.size = 1) (hag : ie.desc.agg = false)
    (hx : ev f x = some (.agg cs.toArray)) (hy : ev f y = some (.int K A)) (hA : A = (j : Int)) (hj : j < m) (hv : cs[j]? = some v) (w : World) :
    ∀ a, St n f a → (execOp a.eval ⟨some d, .index t x y, ty, pos, aft, g⟩).run P w = .ok (.value v) w := by
  intro a ha
  have hu : P.underlying t = some (.array m e) := by have := (hT.ok t i hi').desc; rw [hdesc] at this; exact this
  have hsz := fun w => (hT.ok e ie hie).run_sizeOf w
  have hg := fun w => (hT.ok e ie hie).run_isAgg w
  rw [hse] at hsz
  rw [hag] at hg
  simp [execOp, Instr.index, ha.eval hx, ha.eval hy, asIntOf, run_underlying hu, hA, hj, hsz, part, hg, hv]
theorem GL.indexV {t e : TypeId} {i ie : Ti} {x y : Operand} {m : Nat} (j : Nat) {K : IntKind} {A : Int} {cs : List Value} {v : Value} (hT : Tys P tt) (hw : want ops f g = some true) (hlt : Nat.blt d n.size = true) (hi' : TT.get tt t = some i) (hdesc : i.desc = .arr m e) (hie : TT.get tt e = some ie) (hse : ie.size = 1) (hag : ie.desc.agg = false)
    (hx : ev f x = some (.agg cs.toArray)) (hy : ev f y = some (.int K A)) (hA : A = (j : Int)) (hj : j < m) (hv : cs[j]? = some v)
    (h : GL P n Q ops rest ((d, v) :: f) w) : GL P n Q ops (⟨some d, .index t x y, ty, pos, aft, g⟩ :: rest) f w :=
  GL.yields hw rfl hlt (run_indexV hT hi' hdesc hie hse hag hx hy hA hj hv w) h
theorem GQ.indexV {t e : TypeId} {i ie : Ti} {x y : Operand} {m : Nat} (j : Nat) {K : IntKind} {A : Int} {cs : List Value} {v : Value} (hT : Tys P tt) (hw : want ops f g = some true) (hlt : Nat.blt d n.size = true) (hi' : TT.get tt t = some i) (hdesc : i.desc = .arr m e) (hie : TT.get tt e = some ie) (hse : ie.size = 1) (hag : ie.desc.agg = false)
    (hx : ev f x = some (.agg cs.toArray)) (hy : ev f y = some (.int K A)) (hA : A = (j : Int)) (hj : j < m) (hv : cs[j]? = some v)
    (h : GQ P n Q ops rest ((d, v) :: f) w) : GQ P n Q ops (⟨some d, .index t x y, ty, pos, aft, g⟩ :: rest) f w :=
  GQ.yields hw rfl hlt (fun w _ => run_indexV hT hi' hdesc hie hse hag hx hy hA hj hv w) h
theorem run_indexS {t : TypeId} {x y : Operand} {j : Nat} {K : IntKind} {A : Int} {s : ByteArray} {b : UInt8} (hu : P.underlying t = some .string)
    (hx : ev f x = some (.string s)) (hy : ev f y = some (.int K A)) (hA : A = (j : Int)) (hb : s[j]? = some b) (w : World) :
    ∀ a, St n f a → (execOp a.eval ⟨some d, .index t x y, ty, pos, aft, g⟩).run P w = .ok (.value (bv b)) w := by
  intro a ha
  simp [execOp, Instr.index, ha.eval hx, ha.eval hy, asIntOf, run_underlying hu, hA, hb]
theorem GL.indexS {t : TypeId} {x y : Operand} (j : Nat) {K : IntKind} {A : Int} {s : ByteArray} {b : UInt8} (hu : P.underlying t = some .string) (hw : want ops f g = some true) (hlt : Nat.blt d n.size = true)
    (hx : ev f x = some (.string s)) (hy : ev f y = some (.int K A)) (hA : A = (j : Int)) (hb : s[j]? = some b)
    (h : GL P n Q ops rest ((d, bv b) :: f) w) : GL P n Q ops (⟨some d, .index t x y, ty, pos, aft, g⟩ :: rest) f w :=
  GL.yields hw rfl hlt (run_indexS hu hx hy hA hb w) h

/-! making -/
theorem GL.makeSlice {t e : TypeId} {i ie : Ti} {x y : Operand} {k c : Nat} {A B : Int} (hT : Tys P tt) (hw : want ops f g = some true) (hlt : Nat.blt d n.size = true) (hi' : TT.get tt t = some i) (hdesc : i.desc = .slice e) (hie : TT.get tt e = some ie)
    (hx : ev f x = some (iv A)) (hy : ev f y = some (iv B)) (hA : A = (k : Int)) (hB : B = (c : Int)) (hkc : k ≤ c) (hby : ie.bytes * c ≤ 281474976710656) (hc : c ≤ 281474976710656)
    (h : ∀ b w', b = w.heap.size → Blk w' b e (madeCells ie.zero.toArray (c * ie.size)).toList → Ext w w' → GL P n Q ops rest ((d, .slice (some ⟨b, 0, none⟩) k c) :: f) w') : GL P n Q ops (⟨some d, .makeSlice t x y, ty, pos, aft, g⟩ :: rest) f w := by
  have hu : P.underlying t = some (.slice e) := by have := (hT.ok t i hi').desc; rw [hdesc] at this; exact this
  obtain ⟨ix, z, hix, hz, hzc, hxs, hxb⟩ := (hT.ok e ie hie).more
  have hbb : (ix.bytes : Int) * (c : Int) ≤ 281474976710656 := by
    rw [hxb]
    have : ((ie.bytes * c : Nat) : Int) ≤ 281474976710656 := by omega
    rwa [Int.natCast_mul] at this
  have hm := run_make (P := P) w t e ix z hu hix hz .i64 .i64 k c (by omega) (by omega) hbb (by omega)
  simp only [Int.toNat_natCast, hzc, hxs] at hm
  refine GL.yields (w' := w.alloc (.cells (madeCells ie.zero.toArray (c * ie.size)) e)) hw rfl hlt (fun a ha => ?_) (h w.heap.size _ rfl ?_ (ext_alloc w _))
  · simp [execOp, ha.eval hx, ha.eval hy, hA, hB, hm]
  · have := blk_alloc w (madeCells ie.zero.toArray (c * ie.size)).toList e
    simpa using this

/-! building -/
def fillL (place : Nat → Option (Nat × Nat)) (cells : List Value) : List (Nat × Value) → Option (List Value)
  | [] => some cells
  | (i, v) :: rest => match place i with
    | none => none
    | some (off, size) => if v.cells.size ≠ size ∨ cells.length < off + v.cells.size then none else fillL place (splice cells off v.cells.toList) rest
theorem foldl_set (vs : List Value) : ∀ (k off : Nat) (c : Array Value), off + k + vs.length ≤ c.size → (vs.zipIdx k).foldl (fun cs (p : Value × Nat) => cs.setIfInBounds (off + p.2) p.1) c = (splice c.toList (off + k) vs).toArray := by
  induction vs with
  | nil => intro k off c h; simp [splice_nil]
  | cons v vs ih =>
    intro k off c h
    simp only [List.length_cons] at h
    simp only [List.zipIdx_cons, List.foldl_cons]
    rw [ih (k + 1) off _ (by simp; omega)]
    congr 1
    rw [Array.toList_setIfInBounds, show off + (k + 1) = off + k + 1 by omega, splice_cons _ _ _ _ (by simp; omega)]
theorem fill_eq (place : Nat → Option (Nat × Nat)) : ∀ (parts : List (Nat × Value)) (cells r : List Value), fillL place cells parts = some r → Instr.fill place cells.toArray parts = some r.toArray
  | [], cells, r, h => by simp [fillL] at h; simp [Instr.fill, h]
  | (i, v) :: rest, cells, r, h => by
    simp only [fillL] at h
    cases hp : place i with
    | none => simp [hp] at h
    | some os =>
      obtain ⟨off, size⟩ := os
      simp only [hp] at h
      split at h
      · cases h
      · rename_i hc
        have hc1 : v.cells.size = size := by
          rcases Nat.decEq v.cells.size size with h1 | h1
          · exact absurd (.inl h1) hc
          · exact h1
        have hc2 : ¬ cells.length < off + v.cells.size := fun h1 => hc (.inr h1)
        have ih := fill_eq place rest _ r h
        simp only [Instr.fill, hp]
        rw [if_neg (by simp [hc1]; omega)]
        have hz : v.cells.zipIdx.foldl (fun cs (x : Value × Nat) => cs.setIfInBounds (off + x.2) x.1) cells.toArray = (splice cells off v.cells.toList).toArray := by
          rw [← Array.foldl_toList, Array.toList_zipIdx]
          have := foldl_set v.cells.toList 0 off cells.toArray (by simp; omega)
          simpa using this
        exact (congrArg (fun z => Instr.fill place z rest) hz).trans ih
theorem fillL_one {sz : Nat} {z : List Value} {v : Value} {vs : List Value} (hv : v.cells = vs.toArray) (hl : vs.length = sz) (hz : z.length = sz) : fillL (fun k => some (k * sz, sz)) z [(0, v)] = some vs := by
  have h1 : v.cells.size = sz := by rw [hv]; simpa using hl
  simp only [fillL, Nat.zero_mul, Nat.zero_add]
  rw [if_neg (by rw [h1, hz]; simp)]
  congr 1
  simp [splice, hv, hl, ← hz]
theorem fillL_two {sz : Nat} {z : List Value} {v u : Value} {vs us : List Value} (hv : v.cells = vs.toArray) (hl : vs.length = sz) (hu : u.cells = us.toArray) (hl' : us.length = sz) (hz : z.length = 2 * sz) : fillL (fun k => some (k * sz, sz)) z [(0, v), (1, u)] = some (vs ++ us) := by
  have h1 : v.cells.size = sz := by rw [hv]; simpa using hl
  have h2 : u.cells.size = sz := by rw [hu]; simpa using hl'
  simp only [fillL, Nat.zero_mul, Nat.zero_add, Nat.one_mul]
  have e1 : splice z 0 v.cells.toList = vs ++ z.drop sz := by simp [splice, hv, hl]
  rw [if_neg (by rw [h1, hz]; simp; omega), e1, if_neg (by rw [h2]; simp [hl, hz]; omega)]
  congr 1
  simp [splice, hu, hl', ← hl]
  omega
theorem madeLen (z : Array Value) (n : Nat) : (madeCells z n).toList.length = n := by simp [madeCells]
def partsOf (f : Fr) : List (Nat × Operand) → Option (List (Nat × Value))
  | [] => some []
  | (i, x) :: r => match ev f x, partsOf f r with
    | some v, some vs => some ((i, v) :: vs)
    | _, _ => none
theorem parts_map {a : Act} (ha : St n f a) : ∀ (xs : List (Nat × Operand)) (vs : List (Nat × Value)), partsOf f xs = some vs → xs.map (fun x => (x.1, a.eval x.2)) = vs
  | [], vs, h => by simpa [partsOf] using h
  | (i, x) :: xs, vs, h => by
    simp only [partsOf] at h
    split at h
    · rename_i v us hx hxs
      simp only [Option.some.injEq] at h
      subst h
      rw [List.map_cons, ha.eval hx, parts_map ha xs us hxs]
    · cases h
def sizesL (tt : List (Nat × Ti)) : List (TypeId × Nat) → Option (List (Nat × Nat))
  | [] => some []
  | (t, o) :: r => match TT.get tt t, sizesL tt r with
    | some i, some q => some ((o, i.size) :: q)
    | _, _ => none
theorem run_places (hT : Tys P tt) (w : World) : ∀ (gs : List Field) (q : List (Nat × Nat)), sizesL tt (gs.map fun g => (g.type, g.offset)) = some q → (gs.mapM (fun g => do pure (g.offset, ← sizeOf g.type) : Field → Sem (Nat × Nat))).run P w = .ok q w
  | [], q, h => by simp [sizesL] at h; subst h; simp
  | g :: gs, q, h => by
    simp only [List.map_cons, sizesL] at h
    split at h
    · rename_i i q' hi hq
      simp only [Option.some.injEq] at h
      subst h
      have ih := run_places hT w gs q' hq
      have hs := (hT.ok _ i hi).run_sizeOf w
      simp only [List.mapM_cons, Sem.run_bind, hs, Result.andThen_ok, Sem.run_pure, ih]
    · cases h
theorem run_build {t : TypeId} {i : Ti} {fs : List (TypeId × Nat)} {q : List (Nat × Nat)} {parts : Array (Nat × Operand)} {vs : List (Nat × Value)} {r : List Value} (hT : Tys P tt) (hi' : TT.get tt t = some i) (hdesc : i.desc = .struct fs) (hq : sizesL tt fs = some q) (hp : partsOf f parts.toList = some vs) (hfill : fillL (q[·]?) i.zero vs = some r) (w : World) :
    ∀ a, St n f a → (execOp a.eval ⟨some d, .build t parts, ty, pos, aft, g⟩).run P w = .ok (.value (.agg r.toArray)) w := by
  intro a ha
  have := (hT.ok t i hi').desc
  rw [hdesc] at this
  obtain ⟨gs, hu, hgs⟩ := this
  obtain ⟨z, hz, hzc⟩ := (hT.ok t i hi').run_zero w
  rw [← hgs] at hq
  have hpl := run_places hT w gs.toList q hq
  have hpm : (parts.map fun (x : Nat × Operand) => (x.1, a.eval x.2)) = vs.toArray := by
    apply Array.ext'
    rw [Array.toList_map]
    exact parts_map ha _ _ hp
  have hf := fill_eq (q[·]?) vs i.zero r hfill
  have hmapM : (gs.mapM (fun g => do pure (g.offset, ← sizeOf g.type) : Field → Sem (Nat × Nat))).run P w = .ok q.toArray w := by
    rw [Array.mapM_eq_mapM_toList]
    show Sem.run P ((gs.toList.mapM (fun g => do pure (g.offset, ← sizeOf g.type) : Field → Sem (Nat × Nat))) >>= fun l => pure l.toArray) w = _
    simp only [Sem.run_bind, hpl, Result.andThen_ok, Sem.run_pure]
  have hb : (Instr.build t vs.toArray).run P w = .ok (.agg r.toArray) w := by
    have hf' : Instr.fill (q.toArray[·]?) i.zero.toArray vs = some r.toArray := by
      rw [← hf]
      congr 1
      funext k
      simp
    simp only [Instr.build, Sem.run_bind, hz, Result.andThen_ok, run_underlying hu, hmapM, hzc, hf']
    rfl
  have : (execOp a.eval ⟨some d, .build t parts, ty, pos, aft, g⟩) = (do let v ← Instr.build t (parts.map fun (x : Nat × Operand) => (x.1, a.eval x.2)); pure (Next.value v) : Sem Next) := rfl
  rw [this, hpm]
  simp [hb]
theorem GL.build {t : TypeId} {i : Ti} {fs : List (TypeId × Nat)} {q : List (Nat × Nat)} {parts : Array (Nat × Operand)} {vs : List (Nat × Value)} (r : List Value) (hT : Tys P tt) (hw : want ops f g = some true) (hlt : Nat.blt d n.size = true) (hi' : TT.get tt t = some i) (hdesc : i.desc = .struct fs) (hq : sizesL tt fs = some q) (hp : partsOf f parts.toList = some vs) (hfill : fillL (q[·]?) i.zero vs = some r)
    (h : GL P n Q ops rest ((d, .agg r.toArray) :: f) w) : GL P n Q ops (⟨some d, .build t parts, ty, pos, aft, g⟩ :: rest) f w :=
  GL.yields hw rfl hlt (run_build hT hi' hdesc hq hp hfill w) h
theorem GQ.build {t : TypeId} {i : Ti} {fs : List (TypeId × Nat)} {q : List (Nat × Nat)} {parts : Array (Nat × Operand)} {vs : List (Nat × Value)} (r : List Value) (hT : Tys P tt) (hw : want ops f g = some true) (hlt : Nat.blt d n.size = true) (hi' : TT.get tt t = some i) (hdesc : i.desc = .struct fs) (hq : sizesL tt fs = some q) (hp : partsOf f parts.toList = some vs) (hfill : fillL (q[·]?) i.zero vs = some r)
    (h : GQ P n Q ops rest ((d, .agg r.toArray) :: f) w) : GQ P n Q ops (⟨some d, .build t parts, ty, pos, aft, g⟩ :: rest) f w :=
  GQ.yields hw rfl hlt (fun w _ => run_build hT hi' hdesc hq hp hfill w) h
theorem run_buildArr {t e : TypeId} {i ie : Ti} {m : Nat} {parts : Array (Nat × Operand)} {vs : List (Nat × Value)} {r : List Value} (hT : Tys P tt) (hi' : TT.get tt t = some i) (hdesc : i.desc = .arr m e) (hie : TT.get tt e = some ie) (hp : partsOf f parts.toList = some vs) (hfill : fillL (fun k => some (k * ie.size, ie.size)) i.zero vs = some r) (w : World) :
    ∀ a, St n f a → (execOp a.eval ⟨some d, .build t parts, ty, pos, aft, g⟩).run P w = .ok (.value (.agg r.toArray)) w := by
  intro a ha
  have hu : P.underlying t = some (.array m e) := by have := (hT.ok t i hi').desc; rw [hdesc] at this; exact this
  obtain ⟨z, hz, hzc⟩ := (hT.ok t i hi').run_zero w
  have hsz := (hT.ok e ie hie).run_sizeOf w
  have hpm : (parts.map fun (x : Nat × Operand) => (x.1, a.eval x.2)) = vs.toArray := by
    apply Array.ext'
    rw [Array.toList_map]
    exact parts_map ha _ _ hp
  have hf := fill_eq _ vs i.zero r hfill
  have hb : (Instr.build t vs.toArray).run P w = .ok (.agg r.toArray) w := by
    simp only [Instr.build, Sem.run_bind, hz, Result.andThen_ok, run_underlying hu, hsz, hzc, hf]
    rfl
  have : (execOp a.eval ⟨some d, .build t parts, ty, pos, aft, g⟩) = (do let v ← Instr.build t (parts.map fun (x : Nat × Operand) => (x.1, a.eval x.2)); pure (Next.value v) : Sem Next) := rfl
  rw [this, hpm]
  simp [hb]
theorem GL.buildArr {t e : TypeId} {i ie : Ti} {m : Nat} {parts : Array (Nat × Operand)} {vs : List (Nat × Value)} (r : List Value) (hT : Tys P tt) (hw : want ops f g = some true) (hlt : Nat.blt d n.size = true) (hi' : TT.get tt t = some i) (hdesc : i.desc = .arr m e) (hie : TT.get tt e = some ie) (hp : partsOf f parts.toList = some vs) (hfill : fillL (fun k => some (k * ie.size, ie.size)) i.zero vs = some r)
    (h : GL P n Q ops rest ((d, .agg r.toArray) :: f) w) : GL P n Q ops (⟨some d, .build t parts, ty, pos, aft, g⟩ :: rest) f w :=
  GL.yields hw rfl hlt (run_buildArr hT hi' hdesc hie hp hfill w) h
theorem GQ.buildArr {t e : TypeId} {i ie : Ti} {m : Nat} {parts : Array (Nat × Operand)} {vs : List (Nat × Value)} (r : List Value) (hT : Tys P tt) (hw : want ops f g = some true) (hlt : Nat.blt d n.size = true) (hi' : TT.get tt t = some i) (hdesc : i.desc = .arr m e) (hie : TT.get tt e = some ie) (hp : partsOf f parts.toList = some vs) (hfill : fillL (fun k => some (k * ie.size, ie.size)) i.zero vs = some r)
    (h : GQ P n Q ops rest ((d, .agg r.toArray) :: f) w) : GQ P n Q ops (⟨some d, .build t parts, ty, pos, aft, g⟩ :: rest) f w :=
  GQ.yields hw rfl hlt (fun w _ => run_buildArr hT hi' hdesc hie hp hfill w) h
/-- A slice of so many elements, in new memory. -/
theorem GL.buildSlice {t e : TypeId} {i ie : Ti} {m : Nat} {parts : Array (Nat × Operand)} {vs : List (Nat × Value)} (r : List Value) (hT : Tys P tt) (hw : want ops f g = some true) (hlt : Nat.blt d n.size = true) (hi' : TT.get tt t = some i) (hdesc : i.desc = .slice e) (hie : TT.get tt e = some ie) (hbig : Nat.ble (m * ie.size) 16777216 = true) (hp : partsOf f parts.toList = some vs) (hfill : fillL (fun k => some (k * ie.size, ie.size)) (madeCells ie.zero.toArray (m * ie.size)).toList vs = some r)
    (h : ∀ b w', b = w.heap.size → Blk w' b e r → Ext w w' → GL P n Q ops rest ((d, .slice (some ⟨b, 0, none⟩) m m) :: f) w') : GL P n Q ops (⟨some d, .buildSlice t m parts, ty, pos, aft, g⟩ :: rest) f w := by
  have hu : P.underlying t = some (.slice e) := by have := (hT.ok t i hi').desc; rw [hdesc] at this; exact this
  obtain ⟨z, hz, hzc⟩ := (hT.ok e ie hie).run_zero w
  have hsz := (hT.ok e ie hie).run_sizeOf w
  have hf := fill_eq _ vs _ r hfill
  refine GL.yields (w' := w.alloc (.cells r.toArray e)) (v := .slice (some ⟨w.heap.size, 0, none⟩) m m) hw rfl hlt (fun a ha => ?_) (h w.heap.size _ rfl (blk_alloc w r e) (ext_alloc w _))
  have hpm : (parts.map fun (x : Nat × Operand) => (x.1, a.eval x.2)) = vs.toArray := by
    apply Array.ext'
    rw [Array.toList_map]
    exact parts_map ha _ _ hp
  have hbig' : ¬ (m * ie.size > 2 ^ 24) := by have := Nat.le_of_ble_eq_true hbig; omega
  have hb : (Instr.buildSlice t m vs.toArray).run P w = .ok (.slice (some ⟨w.heap.size, 0, none⟩) m m) (w.alloc (.cells r.toArray e)) := by
    by_cases h0 : m * ie.size = 0
    · have hf' : Instr.fill (fun k => some (k * ie.size, ie.size)) #[] vs = some r.toArray := by
        rw [← hf, h0]; simp [madeCells]
      simp only [Instr.buildSlice, Sem.run_bind, Result.andThen_ok, run_underlying hu, hsz, if_neg hbig', if_pos h0, Sem.run_pure]
      rw [h0]
      simp only [Array.range_zero', Array.map_empty]
      simp [hf', newRow]
    · simp only [Instr.buildSlice, Sem.run_bind, Result.andThen_ok, run_underlying hu, hsz, if_neg hbig', if_neg h0, hz, hzc, Sem.run_pure]
      have hf' : Instr.fill (fun k => some (k * ie.size, ie.size)) (madeCells ie.zero.toArray (m * ie.size)) vs = some r.toArray := by simpa using hf
      simp only [madeCells] at hf'
      rw [hf']
      simp [newRow]
  have : (execOp a.eval ⟨some d, .buildSlice t m parts, ty, pos, aft, g⟩) = (do let v ← Instr.buildSlice t m (parts.map fun (x : Nat × Operand) => (x.1, a.eval x.2)); Pure.pure (Next.value v) : Sem Next) := rfl
  rw [this, hpm]
  simp [hb]
end
end Go.Bd
