/-
  How Go's slices lie in memory, as plain lists; what is new; appending.
-/
import Derived.Test.YtefneilaongpbaaKeys
set_option linter.unusedVariables false
set_option maxRecDepth 100000
namespace Go.Proofs.Ytefneilaongpbaa
open Go Go.Bd Go.RowKit

abbrev Where := Nat → Nat × Nat → Prop
/-- In memory from block B on, not frozen. -/
abbrev fresh (B : Nat) : Where := fun b fr => B ≤ b ∧ fr = (0, 0)

inductive All2 {α β : Type} (R : α → β → Prop) : List α → List β → Prop
  | nil : All2 R [] []
  | cons {a : α} {b : β} {xs : List α} {ys : List β} (h : R a b) (t : All2 R xs ys) : All2 R (a :: xs) (b :: ys)
section
variable {α β : Type} {R R' : α → β → Prop}
theorem All2.imp (hi : ∀ a b, R a b → R' a b) {xs : List α} {ys : List β} (h : All2 R xs ys) : All2 R' xs ys := by
  induction h with
  | nil => exact .nil
  | cons h _ ih => exact .cons (hi _ _ h) ih
theorem All2.length {xs : List α} {ys : List β} (h : All2 R xs ys) : xs.length = ys.length := by
  induction h with
  | nil => rfl
  | cons _ _ ih => simp [ih]
theorem All2.at {xs : List α} {ys : List β} (h : All2 R xs ys) : ∀ (i : Nat) (b : β), ys[i]? = some b → ∃ a, xs[i]? = some a ∧ R a b := by
  induction h with
  | nil => intro i b hb; simp at hb
  | cons h _ ih =>
    intro i b hb
    cases i with
    | zero => simp at hb; subst hb; exact ⟨_, rfl, h⟩
    | succ i => simpa using ih i b (by simpa using hb)
theorem All2.append {xs xs' : List α} {ys ys' : List β} (h : All2 R xs ys) (h' : All2 R xs' ys') : All2 R (xs ++ xs') (ys ++ ys') := by
  induction h with
  | nil => exact h'
  | cons h _ ih => exact .cons h ih
theorem All2.take {xs : List α} {ys : List β} (h : All2 R xs ys) : ∀ n, All2 R (xs.take n) (ys.take n) := by
  induction h with
  | nil => intro n; simpa using .nil
  | cons h t ih =>
    intro n
    cases n with
    | zero => exact .nil
    | succ n => exact .cons h (ih n)
theorem All2.drop {xs : List α} {ys : List β} (h : All2 R xs ys) : ∀ n, All2 R (xs.drop n) (ys.drop n) := by
  induction h with
  | nil => intro n; simpa using .nil
  | cons h t ih =>
    intro n
    cases n with
    | zero => exact .cons h t
    | succ n => exact ih n
end

/-- A slice of n elements whose cells, all in a row, are these. -/
def RdF (S : Where) (w : World) (v : Value) (n : Nat) (cs : List Value) : Prop :=
  ∃ p c, v = .slice p n c ∧ n ≤ c ∧ (cs = [] ∨ ∃ b o, p = some ⟨b, o, none⟩ ∧ At S w b o cs)
section
variable {S S' : Where} {w w' : World} {v : Value} {n : Nat} {cs : List Value}
theorem RdF.ext (h : RdF S w v n cs) (he : Ext w w') : RdF S w' v n cs := by
  obtain ⟨p, c, hv, hc, h⟩ := h
  exact ⟨p, c, hv, hc, h.imp id fun ⟨b, o, hp, hA⟩ => ⟨b, o, hp, hA.ext he⟩⟩
theorem RdF.imp (h : RdF S w v n cs) (hS : ∀ b fr, S b fr → S' b fr) : RdF S' w v n cs := by
  obtain ⟨p, c, hv, hc, h⟩ := h
  exact ⟨p, c, hv, hc, h.imp id fun ⟨b, o, hp, hA⟩ => ⟨b, o, hp, hA.imp hS⟩⟩
theorem RdF.keep (h : RdF S w v n cs) (hk : ∀ b fr, S b fr → w'.heap[b]? = w.heap[b]?) : RdF S w' v n cs := by
  obtain ⟨p, c, hv, hc, h⟩ := h
  refine ⟨p, c, hv, hc, h.imp id fun ⟨b, o, hp, hA⟩ => ⟨b, o, hp, ?_⟩⟩
  obtain ⟨C, T, fr, hh, hS, _⟩ := id hA
  exact hA.keep (hk b fr hS)
/-- What is read lies below the heap's end. -/
theorem RdF.below (h : RdF S w v n cs) : RdF (fun b fr => S b fr ∧ b < w.heap.size) w v n cs := by
  obtain ⟨p, c, hv, hc, h⟩ := h
  refine ⟨p, c, hv, hc, h.imp id fun ⟨b, o, hp, hA⟩ => ⟨b, o, hp, ?_⟩⟩
  obtain ⟨C, T, fr, hh, hS, r⟩ := id hA
  exact ⟨C, T, fr, hh, ⟨hS, hA.lt⟩, r⟩
theorem RdF.nil (S : Where) (w : World) (p : Option Addr) (c : Nat) : RdF S w (.slice p 0 c) 0 [] := ⟨p, c, rfl, Nat.zero_le _, .inl rfl⟩
theorem RdF.own {B n : Nat} {e : TypeId} {sz : Nat} (h : w.ownsRow B e sz v n cs) : RdF (fresh B) w v n cs := by
  obtain ⟨hl, h⟩ := h
  rcases h with ⟨rfl, rfl⟩ | ⟨g, cap, cur, rfl, hB, hh, hn, hcap, hsz, htk⟩
  · obtain rfl : cs = [] := List.eq_nil_of_length_eq_zero (by omega)
    exact .nil _ _ _ _
  · refine ⟨_, cap, rfl, hn, .inr ⟨g, 0, rfl, cur, e, (0, 0), hh, ⟨hB, rfl⟩, fun j u hj => ?_⟩⟩
    rw [← htk] at hj
    have : j < n * sz := by
      have h1 := (List.getElem?_eq_some_iff.1 hj).1
      simp at h1
      omega
    rw [List.getElem?_take, if_pos this] at hj
    simpa using hj
end

/-! the kinds of slices -/
abbrev Bytes := List UInt8
def bcells (bs : Bytes) : List Value := bs.map bv
theorem bcells_one (bs : Bytes) : ∀ u ∈ bcells bs, u.oneCell' = true := by
  intro u hu
  obtain ⟨b, _, rfl⟩ := List.mem_map.1 hu
  rfl
@[simp] theorem bcells_length (bs : Bytes) : (bcells bs).length = bs.length := by simp [bcells]
def RdB (S : Where) (w : World) (v : Value) (bs : Bytes) : Prop := RdF S w v bs.length (bcells bs)
def dcells (ds : List Dig) : List Value := ds.flatMap Dig.cells
theorem dcells_length (ds : List Dig) : (dcells ds).length = ds.length * 32 := by
  induction ds with
  | nil => rfl
  | cons d ds ih => simp [dcells, d.len] at ih ⊢; omega
theorem dcells_one (ds : List Dig) : ∀ u ∈ dcells ds, u.oneCell' = true := by
  intro u hu
  obtain ⟨d, _, h⟩ := List.mem_flatMap.1 hu
  exact d.one u h
def RdD (S : Where) (w : World) (v : Value) (ds : List Dig) : Prop := RdF S w v ds.length (dcells ds)
/-- A slice of things that lead on. -/
def RdL {α : Type} (S : Where) (C : World → List Value → α → Prop) (w : World) (v : Value) (xs : List α) : Prop := ∃ es, All2 (C w) es xs ∧ RdF S w v xs.length es.flatten
structure Pair where
  key : Dig
  val : Bytes
  deriving DecidableEq
def PairC (S : Where) (w : World) (e : List Value) (x : Pair) : Prop := ∃ u, e = x.key.cells ++ [u] ∧ RdB S w u x.val
def RdP (S : Where) (w : World) (v : Value) (ps : List Pair) : Prop := RdL S (PairC S) w v ps
def BytesC (S : Where) (w : World) (e : List Value) (x : Bytes) : Prop := ∃ u, e = [u] ∧ RdB S w u x
def RdBs (S : Where) (w : World) (v : Value) (bs : List Bytes) : Prop := RdL S (BytesC S) w v bs
structure Node where
  leaf : Bool
  key : Dig
  val : Bytes
  left : Int
  right : Int
def ncells (x : Node) (u : Value) : List Value := .bool x.leaf :: (x.key.cells ++ [u, iv x.left, iv x.right])
def NodeC (S : Where) (w : World) (e : List Value) (x : Node) : Prop := ∃ u, e = ncells x u ∧ RdB S w u x.val
def RdN (S : Where) (w : World) (v : Value) (ns : List Node) : Prop := RdL S (NodeC S) w v ns
section
variable {S S' : Where} {w w' : World} {v : Value}
theorem RdB.ext {bs : Bytes} (h : RdB S w v bs) (he : Ext w w') : RdB S w' v bs := RdF.ext h he
theorem RdB.imp {bs : Bytes} (h : RdB S w v bs) (hS : ∀ b fr, S b fr → S' b fr) : RdB S' w v bs := RdF.imp h hS
theorem RdB.keep {bs : Bytes} (h : RdB S w v bs) (hk : ∀ b fr, S b fr → w'.heap[b]? = w.heap[b]?) : RdB S w' v bs := RdF.keep h hk
theorem RdD.ext {bs : List Dig} (h : RdD S w v bs) (he : Ext w w') : RdD S w' v bs := RdF.ext h he
theorem RdD.imp {bs : List Dig} (h : RdD S w v bs) (hS : ∀ b fr, S b fr → S' b fr) : RdD S' w v bs := RdF.imp h hS
theorem RdD.keep {bs : List Dig} (h : RdD S w v bs) (hk : ∀ b fr, S b fr → w'.heap[b]? = w.heap[b]?) : RdD S w' v bs := RdF.keep h hk
theorem RdP.ext {xs : List Pair} (h : RdP S w v xs) (he : Ext w w') : RdP S w' v xs := by
  obtain ⟨es, h1, h2⟩ := h
  exact ⟨es, h1.imp fun e x ⟨u, hu, hb⟩ => ⟨u, hu, hb.ext he⟩, h2.ext he⟩
theorem RdP.imp {xs : List Pair} (h : RdP S w v xs) (hS : ∀ b fr, S b fr → S' b fr) : RdP S' w v xs := by
  obtain ⟨es, h1, h2⟩ := h
  exact ⟨es, h1.imp fun e x ⟨u, hu, hb⟩ => ⟨u, hu, hb.imp hS⟩, h2.imp hS⟩
theorem RdP.keep {xs : List Pair} (h : RdP S w v xs) (hk : ∀ b fr, S b fr → w'.heap[b]? = w.heap[b]?) : RdP S w' v xs := by
  obtain ⟨es, h1, h2⟩ := h
  exact ⟨es, h1.imp fun e x ⟨u, hu, hb⟩ => ⟨u, hu, hb.keep hk⟩, h2.keep hk⟩
theorem RdBs.ext {xs : List Bytes} (h : RdBs S w v xs) (he : Ext w w') : RdBs S w' v xs := by
  obtain ⟨es, h1, h2⟩ := h
  exact ⟨es, h1.imp fun e x ⟨u, hu, hb⟩ => ⟨u, hu, hb.ext he⟩, h2.ext he⟩
theorem RdBs.imp {xs : List Bytes} (h : RdBs S w v xs) (hS : ∀ b fr, S b fr → S' b fr) : RdBs S' w v xs := by
  obtain ⟨es, h1, h2⟩ := h
  exact ⟨es, h1.imp fun e x ⟨u, hu, hb⟩ => ⟨u, hu, hb.imp hS⟩, h2.imp hS⟩
theorem RdBs.keep {xs : List Bytes} (h : RdBs S w v xs) (hk : ∀ b fr, S b fr → w'.heap[b]? = w.heap[b]?) : RdBs S w' v xs := by
  obtain ⟨es, h1, h2⟩ := h
  exact ⟨es, h1.imp fun e x ⟨u, hu, hb⟩ => ⟨u, hu, hb.keep hk⟩, h2.keep hk⟩
theorem RdN.ext {xs : List Node} (h : RdN S w v xs) (he : Ext w w') : RdN S w' v xs := by
  obtain ⟨es, h1, h2⟩ := h
  exact ⟨es, h1.imp fun e x ⟨u, hu, hb⟩ => ⟨u, hu, hb.ext he⟩, h2.ext he⟩
theorem RdN.imp {xs : List Node} (h : RdN S w v xs) (hS : ∀ b fr, S b fr → S' b fr) : RdN S' w v xs := by
  obtain ⟨es, h1, h2⟩ := h
  exact ⟨es, h1.imp fun e x ⟨u, hu, hb⟩ => ⟨u, hu, hb.imp hS⟩, h2.imp hS⟩
theorem RdN.keep {xs : List Node} (h : RdN S w v xs) (hk : ∀ b fr, S b fr → w'.heap[b]? = w.heap[b]?) : RdN S w' v xs := by
  obtain ⟨es, h1, h2⟩ := h
  exact ⟨es, h1.imp fun e x ⟨u, hu, hb⟩ => ⟨u, hu, hb.keep hk⟩, h2.keep hk⟩
end

/-! an element of a slice -/
theorem flatten_at {α : Type} (sz : Nat) : ∀ (es : List (List α)), (∀ e ∈ es, e.length = sz) → ∀ (i : Nat) (e : List α), es[i]? = some e → es.flatten = (es.take i).flatten ++ (e ++ (es.drop (i + 1)).flatten) ∧ (es.take i).flatten.length = i * sz
  | [], _, i, e, h => by simp at h
  | x :: es, hl, i, e, h => by
    cases i with
    | zero => simp at h; subst h; simp
    | succ i =>
      have h' : es[i]? = some e := by simpa using h
      obtain ⟨h1, h2⟩ := flatten_at sz es (fun y hy => hl y (by simp [hy])) i e h'
      have hx := hl x (by simp)
      refine ⟨by simp only [List.flatten_cons, List.take_succ_cons, List.drop_succ_cons]; rw [h1]; simp, by simp only [List.take_succ_cons, List.flatten_cons, List.length_append, h2, hx]; rw [Nat.add_mul]; omega⟩
theorem RdL.elem {α : Type} {S : Where} {C : World → List Value → α → Prop} {w : World} {v : Value} {xs : List α} (sz : Nat) (hC : ∀ e x, C w e x → e.length = sz) (h : RdL S C w v xs) {i : Nat} {x : α} (hx : xs[i]? = some x) (hsz : 0 < sz) :
    ∃ b o c e, v = .slice (some ⟨b, o, none⟩) xs.length c ∧ C w e x ∧ At S w b (o + i * sz) e := by
  obtain ⟨es, h1, p, c, hv, hc, h2⟩ := h
  obtain ⟨e, he, hCe⟩ := h1.at i x hx
  have hall : ∀ e ∈ es, e.length = sz := by
    intro e he
    obtain ⟨j, hj⟩ := List.mem_iff_getElem?.1 he
    have hjl : j < xs.length := by rw [← h1.length]; exact (List.getElem?_eq_some_iff.1 hj).1
    obtain ⟨e', he', hC'⟩ := h1.at j _ (List.getElem?_eq_getElem hjl)
    rw [hj] at he'; cases he'
    exact hC _ _ hC'
  obtain ⟨h3, h4⟩ := flatten_at sz es hall i e he
  rcases h2 with h2 | ⟨b, o, rfl, hA⟩
  · have : (es.flatten).length = 0 := by rw [h2]; rfl
    rw [h3] at this
    have hel := hC _ _ hCe
    simp at this
    have : e.length = 0 := by rw [this.2.1]; rfl
    omega
  · exact ⟨b, o, c, e, hv, hCe, hA.sub _ e h3 (by rw [h4])⟩
theorem pairC_len {S : Where} {w : World} (e : List Value) (x : Pair) (h : PairC S w e x) : e.length = 33 := by
  obtain ⟨u, rfl, _⟩ := h; simp [x.key.len]
theorem bytesC_len {S : Where} {w : World} (e : List Value) (x : Bytes) (h : BytesC S w e x) : e.length = 1 := by
  obtain ⟨u, rfl, _⟩ := h; rfl
theorem ncells_len (x : Node) (u : Value) : (ncells x u).length = 36 := by simp [ncells, x.key.len]
theorem nodeC_len {S : Where} {w : World} (e : List Value) (x : Node) (h : NodeC S w e x) : e.length = 36 := by
  obtain ⟨u, rfl, _⟩ := h; exact ncells_len x u
/-- Element i of a slice of bytes, of digests. -/
theorem RdB.elem {S : Where} {w : World} {v : Value} {bs : Bytes} (h : RdB S w v bs) {i : Nat} (hi : i < bs.length) : ∃ b o c, v = .slice (some ⟨b, o, none⟩) bs.length c ∧ At S w b (o + i) [bv (bs.getD i 0)] := by
  obtain ⟨p, c, hv, hc, h⟩ := h
  rcases h with h | ⟨b, o, rfl, hA⟩
  · have : bs.length = 0 := by rw [← bcells_length, h]; rfl
    omega
  · exact ⟨b, o, c, hv, hA.one (by simp [bcells, List.getD, hi]) rfl⟩
theorem RdD.elem {S : Where} {w : World} {v : Value} {ds : List Dig} (h : RdD S w v ds) {i : Nat} {d : Dig} (hd : ds[i]? = some d) : ∃ b o c, v = .slice (some ⟨b, o, none⟩) ds.length c ∧ At S w b (o + i * 32) d.cells := by
  obtain ⟨p, c, hv, hc, h⟩ := h
  have hfl : dcells ds = (ds.map Dig.cells).flatten := by simp [dcells, List.flatMap]
  obtain ⟨h1, h2⟩ := flatten_at 32 (ds.map Dig.cells) (by simp [Dig.len]) i d.cells (by simp [hd])
  rcases h with h | ⟨b, o, rfl, hA⟩
  · have hl : (dcells ds).length = 0 := by rw [h]; rfl
    rw [dcells_length] at hl
    have := (List.getElem?_eq_some_iff.1 hd).1
    omega
  · rw [hfl] at hA
    exact ⟨b, o, c, hv, hA.sub _ d.cells h1 (by rw [h2])⟩
end Go.Proofs.Ytefneilaongpbaa
