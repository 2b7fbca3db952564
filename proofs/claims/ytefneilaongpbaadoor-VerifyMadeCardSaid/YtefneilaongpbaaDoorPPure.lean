/-
  Maps in plain Lean: with a value for a key, without a key; what was put is got and dropped again.
-/
import Derived.Test.YtefneilaongpbaaDoorPairsA
set_option linter.unusedVariables false
set_option linter.unusedSimpArgs false
namespace Go.Proofs.YtefneilaongpbaaDoor
open Go Go.Bd
def without (ps : List Pair) (k : Dig) : List Pair := ps.filter fun x => !decide (x.key = k)
/-- How many in front are ahead. -/
def front (ps : List Pair) (k : Dig) : Nat := (ps.takeWhile fun x => aheadB x.key k).length
theorem front_le (ps : List Pair) (k : Dig) : front ps k ≤ ps.length := (List.takeWhile_sublist _).length_le
theorem front_eq : ∀ (ps : List Pair) (k : Dig) (n : Nat), (∀ (i : Nat) (x : Pair), i < n → ps[i]? = some x → aheadB x.key k = true) → n ≤ ps.length → (∀ x, ps[n]? = some x → aheadB x.key k = false) → front ps k = n
  | [], k, n, _, h, _ => by simp at h; subst h; rfl
  | x :: ps, k, 0, _, _, h => by
    have := h x rfl
    simp [front, this]
  | x :: ps, k, n + 1, h1, h2, h3 => by
    have h4 := h1 0 x (by omega) rfl
    have := front_eq ps k n (fun i y hi hy => h1 (i + 1) y (by omega) (by simpa using hy)) (by simpa using h2) (fun y hy => h3 y (by simpa using hy))
    simp only [front] at this ⊢
    rw [List.takeWhile_cons, h4]
    simp [this]
def withL (rest : List Pair) (k : Dig) (v : Bytes) : List Pair := rest.take (front rest k) ++ (⟨k, v⟩ :: rest.drop (front rest k))
/-- In the keys' order. -/
def PW (ps : List Pair) : Prop := ps.Pairwise fun x y => x.key.num < y.key.num
theorem MapOk.pw {ps : List Pair} (h : MapOk ps) : PW ps := List.pairwise_iff_getElem.2 fun i j hi hj hij => h.lt' hij (List.getElem?_eq_getElem hi) (List.getElem?_eq_getElem hj)
theorem MapOk.valid {ps : List Pair} (h : MapOk ps) : ∀ x ∈ ps, valB x.val.length = true := fun x hx => by
  obtain ⟨i, hi⟩ := List.mem_iff_getElem?.1 hx
  exact h.val i x hi
theorem MapOk.of {ps : List Pair} (h1 : ps.length ≤ 512) (h2 : ∀ x ∈ ps, valB x.val.length = true) (h3 : PW ps) : MapOk ps :=
  ⟨h1, fun i x hx => h2 x (List.mem_of_getElem? hx), fun i x y hx hy => by
    obtain ⟨hi, rfl⟩ := List.getElem?_eq_some_iff.1 hx
    obtain ⟨hj, rfl⟩ := List.getElem?_eq_some_iff.1 hy
    exact List.pairwise_iff_getElem.1 h3 i (i + 1) hi hj (by omega)⟩
theorem PW.sub {ps qs : List Pair} (h : PW ps) (hs : qs.Sublist ps) : PW qs := List.Pairwise.sublist hs h
theorem PW.one {ps : List Pair} (h : PW ps) {x y : Pair} (hx : x ∈ ps) (hy : y ∈ ps) (hk : x.key = y.key) : x = y := by
  obtain ⟨i, hi⟩ := List.mem_iff_getElem?.1 hx
  obtain ⟨j, hj⟩ := List.mem_iff_getElem?.1 hy
  obtain ⟨hi', rfl⟩ := List.getElem?_eq_some_iff.1 hi
  obtain ⟨hj', rfl⟩ := List.getElem?_eq_some_iff.1 hj
  rcases Nat.lt_trichotomy i j with h1 | h1 | h1
  · have := List.pairwise_iff_getElem.1 h i j hi' hj' h1
    rw [hk] at this; omega
  · subst h1; rfl
  · have := List.pairwise_iff_getElem.1 h j i hj' hi' h1
    rw [hk] at this; omega
/-- Sorted lists of the same pairs are the same. -/
theorem sorted_ext : ∀ {ps qs : List Pair}, PW ps → PW qs → (∀ x, x ∈ ps ↔ x ∈ qs) → ps = qs
  | [], [], _, _, _ => rfl
  | [], y :: qs, _, _, h => by have := (h y).2 (by simp); cases this
  | x :: ps, [], _, _, h => by have := (h x).1 (by simp); cases this
  | x :: ps, y :: qs, hp, hq, h => by
    have hp' := List.pairwise_cons.1 hp
    have hq' := List.pairwise_cons.1 hq
    have hxy : x = y := by
      have h1 := (h x).1 (by simp)
      have h2 := (h y).2 (by simp)
      rcases List.mem_cons.1 h1 with e | e
      · exact e
      rcases List.mem_cons.1 h2 with e2 | e2
      · exact e2.symm
      · have := hq'.1 x e
        have := hp'.1 y e2
        omega
    subst hxy
    rw [sorted_ext hp'.2 hq'.2 fun z => ?_]
    have hz := h z
    simp only [List.mem_cons] at hz
    constructor
    · intro hm
      have h1 := hp'.1 z hm
      rcases hz.1 (.inr hm) with e | e
      · subst e; omega
      · exact e
    · intro hm
      have h1 := hq'.1 z hm
      rcases hz.2 (.inr hm) with e | e
      · subst e; omega
      · exact e
theorem mem_without {ps : List Pair} {k : Dig} {x : Pair} : x ∈ without ps k ↔ x ∈ ps ∧ x.key ≠ k := by simp [without]
theorem PW.without {ps : List Pair} (h : PW ps) (k : Dig) : PW (without ps k) := h.sub List.filter_sublist
theorem withL_eq (rest : List Pair) (k : Dig) (v : Bytes) : withL rest k v = rest.takeWhile (fun x => aheadB x.key k) ++ (⟨k, v⟩ :: rest.dropWhile (fun x => aheadB x.key k)) := by
  have h := List.takeWhile_append_dropWhile (p := fun x : Pair => aheadB x.key k) (l := rest)
  have h1 : rest.take (front rest k) = rest.takeWhile (fun x => aheadB x.key k) := by
    conv => lhs; arg 2; rw [← h]
    exact List.take_left
  have h2 : rest.drop (front rest k) = rest.dropWhile (fun x => aheadB x.key k) := by
    conv => lhs; arg 2; rw [← h]
    exact List.drop_left
  unfold withL
  rw [h1, h2]
theorem mem_withL {rest : List Pair} {k : Dig} {v : Bytes} {x : Pair} : x ∈ withL rest k v ↔ x = ⟨k, v⟩ ∨ x ∈ rest := by
  unfold withL
  conv => rhs; rw [← List.take_append_drop (front rest k) rest]
  simp only [List.mem_append, List.mem_cons]
  constructor
  · rintro (h | h | h)
    · exact .inr (.inl h)
    · exact .inl h
    · exact .inr (.inr h)
  · rintro (h | h | h)
    · exact .inr (.inl h)
    · exact .inl h
    · exact .inr (.inr h)
theorem length_withL (rest : List Pair) (k : Dig) (v : Bytes) : (withL rest k v).length = rest.length + 1 := by
  have : front rest k ≤ rest.length := (List.takeWhile_sublist _).length_le
  simp only [withL, List.length_append, List.length_cons, List.length_take, List.length_drop]
  omega
theorem withL_split {A B : List Pair} {k : Dig} {v : Bytes} (hA : ∀ x ∈ A, x.key.num < k.num) (hB : ∀ x ∈ B, k.num < x.key.num) : withL (A ++ B) k v = A ++ (⟨k, v⟩ :: B) := by
  have h1 : (A ++ B).takeWhile (fun x => aheadB x.key k) = A := by
    rw [List.takeWhile_append_of_pos (fun x hx => by simp [aheadB, hA x hx])]
    cases B with
    | nil => simp
    | cons b B => have := hB b (by simp); have h : ¬ b.key.num < k.num := by omega
                  simp [aheadB, h]
  have h2 : (A ++ B).dropWhile (fun x => aheadB x.key k) = B := by
    rw [List.dropWhile_append_of_pos (fun x hx => by simp [aheadB, hA x hx])]
    cases B with
    | nil => simp
    | cons b B => have := hB b (by simp); have h : ¬ b.key.num < k.num := by omega
                  simp [aheadB, h]
  rw [withL_eq, h1, h2]
theorem without_of_ne {A : List Pair} {k : Dig} (h : ∀ x ∈ A, x.key ≠ k) : without A k = A := List.filter_eq_self.2 fun x hx => by simp [h x hx]
theorem without_append (A B : List Pair) (k : Dig) : without (A ++ B) k = without A k ++ without B k := List.filter_append ..
theorem without_cons_eq {x : Pair} {B : List Pair} {k : Dig} (h : x.key = k) : without (x :: B) k = without B k := by simp [without, h]
theorem PW.withL {ps : List Pair} (h : PW ps) (k : Dig) (v : Bytes) : PW (withL (Go.Proofs.YtefneilaongpbaaDoor.without ps k) k v) := by
  have hw := h.without k
  rw [withL_eq]
  have hsp := List.takeWhile_append_dropWhile (p := fun x : Pair => aheadB x.key k) (l := Go.Proofs.YtefneilaongpbaaDoor.without ps k)
  generalize hA : (Go.Proofs.YtefneilaongpbaaDoor.without ps k).takeWhile (fun x => aheadB x.key k) = A at hsp ⊢
  generalize hB : (Go.Proofs.YtefneilaongpbaaDoor.without ps k).dropWhile (fun x => aheadB x.key k) = B at hsp ⊢
  have hAk : ∀ x ∈ A, x.key.num < k.num := by
    intro x hx
    rw [← hA] at hx
    have := List.all_takeWhile (p := fun x : Pair => aheadB x.key k) (l := Go.Proofs.YtefneilaongpbaaDoor.without ps k)
    have := List.all_eq_true.1 this x hx
    simpa [aheadB] using this
  rw [← hsp] at hw
  have hw' := List.pairwise_append.1 hw
  have hBk : ∀ x ∈ B, k.num < x.key.num := by
    cases B with
    | nil => intro x hx; cases hx
    | cons b B =>
      have hb : ¬ b.key.num < k.num := by
        have := List.head_dropWhile_not (fun x : Pair => aheadB x.key k) (l := Go.Proofs.YtefneilaongpbaaDoor.without ps k) (by rw [hB]; simp)
        simp only [hB, List.head_cons] at this
        simpa [aheadB] using this
      have hbne : b.key ≠ k := by
        have : b ∈ Go.Proofs.YtefneilaongpbaaDoor.without ps k := by rw [← hsp]; simp
        exact (mem_without.1 this).2
      have hbk : k.num < b.key.num := by
        rcases Nat.lt_or_eq_of_le (Nat.le_of_not_lt hb) with h1 | h1
        · exact h1
        · exact absurd (Dig.num_inj h1.symm) hbne
      intro x hx
      rcases List.mem_cons.1 hx with rfl | hx
      · exact hbk
      · have := (List.pairwise_cons.1 hw'.2.1).1 x hx
        omega
  refine List.pairwise_append.2 ⟨hw'.1, List.pairwise_cons.2 ⟨hBk, hw'.2.1⟩, ?_⟩
  intro x hx y hy
  rcases List.mem_cons.1 hy with rfl | hy
  · exact hAk x hx
  · exact hw'.2.2 x hx y hy
/-- A map, cut at a key. -/
theorem MapOk.cut {ps : List Pair} (h : MapOk ps) (k : Dig) : (∀ x ∈ ps.take (ahead ps k), x.key.num < k.num) ∧ (∀ x ∈ ps.drop (ahead ps k), k.num ≤ x.key.num) := by
  constructor
  · intro x hx
    obtain ⟨i, hi⟩ := List.mem_iff_getElem?.1 hx
    rw [List.getElem?_take] at hi
    split at hi
    · rename_i hlt
      have := (ahead_iff h k i x hi).2 hlt
      simpa [aheadB] using this
    · cases hi
  · intro x hx
    obtain ⟨i, hi⟩ := List.mem_iff_getElem?.1 hx
    rw [List.getElem?_drop] at hi
    have := mt (ahead_iff h k _ x hi).1 (by omega)
    simpa [aheadB] using this
theorem MapOk.cut_has {ps : List Pair} (h : MapOk ps) {k : Dig} (hk : hasK ps k = true) : ∃ y, ps.drop (ahead ps k) = y :: ps.drop (ahead ps k + 1) ∧ y.key = k ∧ ps = ps.take (ahead ps k) ++ y :: ps.drop (ahead ps k + 1) ∧ ∀ x ∈ ps.drop (ahead ps k + 1), k.num < x.key.num := by
  obtain ⟨y, hy, rfl⟩ := hasK_find hk
  obtain ⟨hi, hy'⟩ := List.getElem?_eq_some_iff.1 hy
  have hd : ps.drop (ahead ps y.key) = y :: ps.drop (ahead ps y.key + 1) := by
    rw [List.drop_eq_getElem_cons hi, hy']
  refine ⟨y, hd, rfl, ?_, fun x hx => ?_⟩
  · rw [← hd, List.take_append_drop]
  · obtain ⟨i, hi⟩ := List.mem_iff_getElem?.1 hx
    rw [List.getElem?_drop] at hi
    exact h.lt' (by omega) hy hi
theorem MapOk.cut_not {ps : List Pair} (h : MapOk ps) {k : Dig} (hk : hasK ps k = false) : ∀ x ∈ ps.drop (ahead ps k), k.num < x.key.num := by
  intro x hx
  have h1 := (h.cut k).2 x hx
  rcases Nat.lt_or_eq_of_le h1 with h2 | h2
  · exact h2
  · have hm := List.mem_of_mem_drop hx
    obtain ⟨i, hi⟩ := List.mem_iff_getElem?.1 hm
    have := (found_ahead h hi (Dig.num_inj h2.symm)).2
    rw [hk] at this; cases this
theorem ne_of_num_lt {a b : Dig} (h : a.num < b.num) : a ≠ b := fun e => by subst e; omega
theorem ne_of_num_gt {a b : Dig} (h : b.num < a.num) : a ≠ b := fun e => by subst e; omega
theorem MapOk.with_has {ps : List Pair} (h : MapOk ps) {k : Dig} (hk : hasK ps k = true) (v : Bytes) : withL (without ps k) k v = ps.take (ahead ps k) ++ (⟨k, v⟩ :: ps.drop (ahead ps k + 1)) := by
  obtain ⟨y, h1, h2, h3, h4⟩ := h.cut_has hk
  have hA := (h.cut k).1
  conv => lhs; rw [h3]
  rw [without_append, without_cons_eq h2, without_of_ne (fun x hx => ne_of_num_lt (hA x hx)), without_of_ne (fun x hx => ne_of_num_gt (h4 x hx)), withL_split hA h4]
theorem MapOk.with_not {ps : List Pair} (h : MapOk ps) {k : Dig} (hk : hasK ps k = false) (v : Bytes) : withL (without ps k) k v = ps.take (ahead ps k) ++ (⟨k, v⟩ :: ps.drop (ahead ps k)) := by
  have hA := (h.cut k).1
  have hB := h.cut_not hk
  conv => lhs; rw [← List.take_append_drop (ahead ps k) ps]
  rw [without_append, without_of_ne (fun x hx => ne_of_num_lt (hA x hx)), without_of_ne (fun x hx => ne_of_num_gt (hB x hx)), withL_split hA hB]
theorem MapOk.without_has {ps : List Pair} (h : MapOk ps) {k : Dig} (hk : hasK ps k = true) : without ps k = ps.take (ahead ps k) ++ ps.drop (ahead ps k + 1) := by
  obtain ⟨y, h1, h2, h3, h4⟩ := h.cut_has hk
  have hA := (h.cut k).1
  conv => lhs; rw [h3]
  rw [without_append, without_cons_eq h2, without_of_ne (fun x hx => ne_of_num_lt (hA x hx)), without_of_ne (fun x hx => ne_of_num_gt (h4 x hx))]
theorem MapOk.without_not {ps : List Pair} (h : MapOk ps) {k : Dig} (hk : hasK ps k = false) : without ps k = ps := by
  refine without_of_ne fun x hx e => ?_
  obtain ⟨i, hi⟩ := List.mem_iff_getElem?.1 hx
  have := (found_ahead h hi e).2
  rw [hk] at this; cases this
theorem MapOk.has_iff {ps : List Pair} (h : MapOk ps) (k : Dig) : hasK ps k = true ↔ ∃ x ∈ ps, x.key = k := by
  constructor
  · intro hk
    obtain ⟨x, hx, e⟩ := hasK_find hk
    exact ⟨x, List.mem_of_getElem? hx, e⟩
  · rintro ⟨x, hx, e⟩
    obtain ⟨i, hi⟩ := List.mem_iff_getElem?.1 hx
    exact (found_ahead h hi e).2
theorem MapOk.got {ps : List Pair} (h : MapOk ps) {x : Pair} (hx : x ∈ ps) : gotB ps x.key = true ∧ gotV ps x.key = x.val := by
  obtain ⟨i, hi⟩ := List.mem_iff_getElem?.1 hx
  obtain ⟨rfl, h2⟩ := found_ahead h hi rfl
  have : gotB ps x.key = true := by simp [gotB, mapB_t h, h2]
  exact ⟨this, by simp [gotV, this, hi]⟩
theorem MapOk.got_not {ps : List Pair} (h : MapOk ps) {k : Dig} (hk : ∀ x ∈ ps, x.key ≠ k) : gotB ps k = false ∧ gotV ps k = [] := by
  have h1 : hasK ps k = false := hasK_none fun i x hx => hk x (List.mem_of_getElem? hx)
  have : gotB ps k = false := by simp [gotB, h1]
  exact ⟨this, by simp [gotV, this]⟩
theorem MapOk.without {ps : List Pair} (h : MapOk ps) (k : Dig) : MapOk (Go.Proofs.YtefneilaongpbaaDoor.without ps k) :=
  .of (Nat.le_trans (List.length_filter_le _ _) h.few) (fun x hx => h.valid x (mem_without.1 hx).1) (h.pw.without k)
theorem length_without {ps : List Pair} (h : MapOk ps) (k : Dig) : (without ps k).length = if hasK ps k then ps.length - 1 else ps.length := by
  cases hk : hasK ps k
  · rw [h.without_not hk]; simp
  · rw [h.without_has hk]
    obtain ⟨y, hy, _⟩ := hasK_find hk
    have := (List.getElem?_eq_some_iff.1 hy).1
    simp
    omega
theorem MapOk.with {ps : List Pair} (h : MapOk ps) (k : Dig) {v : Bytes} (hv : valB v.length = true) (hl : (withL (Go.Proofs.YtefneilaongpbaaDoor.without ps k) k v).length ≤ 512) : MapOk (withL (Go.Proofs.YtefneilaongpbaaDoor.without ps k) k v) :=
  .of hl (fun x hx => by
    rcases mem_withL.1 hx with rfl | h1
    · exact hv
    · exact h.valid x (mem_without.1 h1).1) (h.pw.withL k v)
/-- What is answered of a key's putting: an error, or a map. -/
noncomputable def putE (ps : List Pair) (k : Dig) (v : Bytes) : Int := if mapB ps && valB v.length then (if 512 < (withL (without ps k) k v).length then 9 else 0) else 8
noncomputable def putL (ps : List Pair) (k : Dig) (v : Bytes) : List Pair := if putE ps k v = 0 then withL (without ps k) k v else []
noncomputable def dropE (ps : List Pair) (k : Dig) : Int := if mapB ps then (if hasK ps k then 0 else 6) else 8
noncomputable def dropL (ps : List Pair) (k : Dig) : List Pair := if dropE ps k = 0 then without ps k else []
theorem putE_bad {ps : List Pair} {k : Dig} {v : Bytes} (h : (mapB ps && valB v.length) = false) : putE ps k v = 8 ∧ putL ps k v = [] := by
  have : putE ps k v = 8 := by simp [putE, h]
  exact ⟨this, by simp [putL, this]⟩
theorem putE_full {ps : List Pair} {k : Dig} {v : Bytes} (h : (mapB ps && valB v.length) = true) (hl : 512 < (withL (without ps k) k v).length) : putE ps k v = 9 ∧ putL ps k v = [] := by
  have : putE ps k v = 9 := by simp [putE, h, hl]
  exact ⟨this, by simp [putL, this]⟩
theorem putE_ok {ps : List Pair} {k : Dig} {v : Bytes} (h : (mapB ps && valB v.length) = true) (hl : (withL (without ps k) k v).length ≤ 512) : putE ps k v = 0 ∧ putL ps k v = withL (without ps k) k v := by
  have : putE ps k v = 0 := by simp [putE, h]; omega
  exact ⟨this, by simp [putL, this]⟩
theorem put_len {ps : List Pair} (h : MapOk ps) (k : Dig) (v : Bytes) : (withL (without ps k) k v).length = if hasK ps k then ps.length else ps.length + 1 := by
  rw [length_withL, length_without h]
  cases hk : hasK ps k
  · simp
  · obtain ⟨y, hy, _⟩ := hasK_find hk
    have := (List.getElem?_eq_some_iff.1 hy).1
    simp
    omega
theorem putE_iff {ps : List Pair} {k : Dig} {v : Bytes} : putE ps k v = 0 ↔ MapOk ps ∧ valB v.length = true ∧ (withL (without ps k) k v).length ≤ 512 := by
  unfold putE
  rw [← mapB_iff]
  cases h1 : mapB ps <;> cases h2 : valB v.length <;> simp
theorem putL_ok {ps : List Pair} {k : Dig} {v : Bytes} (h : putE ps k v = 0) : putL ps k v = withL (without ps k) k v := by simp [putL, h]
/-- What was put is a map; it is got, and dropped again; all else stays. -/
theorem put_map {ps : List Pair} {k : Dig} {v : Bytes} (h : putE ps k v = 0) : MapOk (putL ps k v) := by
  obtain ⟨h1, h2, h3⟩ := putE_iff.1 h
  rw [putL_ok h]
  exact h1.with k h2 h3
theorem put_got {ps : List Pair} {k : Dig} {v : Bytes} (h : putE ps k v = 0) : gotB (putL ps k v) k = true ∧ gotV (putL ps k v) k = v := by
  have hm := put_map h
  have : (⟨k, v⟩ : Pair) ∈ putL ps k v := by rw [putL_ok h]; exact mem_withL.2 (.inl rfl)
  exact hm.got this
theorem put_other {ps : List Pair} {k o : Dig} {v : Bytes} (h : putE ps k v = 0) (hne : o ≠ k) : gotB (putL ps k v) o = gotB ps o ∧ gotV (putL ps k v) o = gotV ps o := by
  have hm := put_map h
  obtain ⟨h1, _, _⟩ := putE_iff.1 h
  by_cases hx : ∃ x ∈ ps, x.key = o
  · obtain ⟨x, hx, rfl⟩ := hx
    have hx' : x ∈ putL ps k v := by rw [putL_ok h]; exact mem_withL.2 (.inr (mem_without.2 ⟨hx, hne⟩))
    rw [(hm.got hx').1, (hm.got hx').2, (h1.got hx).1, (h1.got hx).2]
    exact ⟨rfl, rfl⟩
  · have h2 : ∀ x ∈ ps, x.key ≠ o := fun x hm e => hx ⟨x, hm, e⟩
    have h3 : ∀ x ∈ putL ps k v, x.key ≠ o := fun x hm => by
      rw [putL_ok h] at hm
      rcases mem_withL.1 hm with rfl | h4
      · exact fun e => hne e.symm
      · exact h2 x (mem_without.1 h4).1
    rw [(hm.got_not h3).1, (hm.got_not h3).2, (h1.got_not h2).1, (h1.got_not h2).2]
    exact ⟨rfl, rfl⟩
theorem put_drop {ps : List Pair} {k : Dig} {v : Bytes} (h : putE ps k v = 0) : dropE (putL ps k v) k = 0 ∧ dropL (putL ps k v) k = without ps k := by
  have hm := put_map h
  obtain ⟨h1, _, _⟩ := putE_iff.1 h
  have hk : hasK (putL ps k v) k = true := (hm.has_iff k).2 ⟨⟨k, v⟩, by rw [putL_ok h]; exact mem_withL.2 (.inl rfl), rfl⟩
  have hd : dropE (putL ps k v) k = 0 := by simp [dropE, mapB_t hm, hk]
  refine ⟨hd, ?_⟩
  simp only [dropL, hd, if_true]
  refine sorted_ext (hm.pw.without k) (h1.pw.without k) fun x => ?_
  rw [mem_without, mem_without, putL_ok h, mem_withL, mem_without]
  constructor
  · rintro ⟨rfl | h2, h3⟩
    · exact absurd rfl h3
    · exact h2
  · rintro ⟨h2, h3⟩
    exact ⟨.inr ⟨h2, h3⟩, h3⟩
end Go.Proofs.YtefneilaongpbaaDoor
