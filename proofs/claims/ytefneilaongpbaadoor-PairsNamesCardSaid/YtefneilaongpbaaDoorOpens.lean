import Derived.Test.YtefneilaongpbaaDoorPrf1
import Derived.Deep.Slices
import Derived.Deep.Fields
import Derived.OpenShut
import Derived.WideShapes
import Derived.ChangeArms
import Derived.ReadAgain
import Derived.Carry
import Derived.ProofKit
/-
  What the row's reading of an argument says of the memory: bytes, digests, proofs.
-/
set_option linter.unusedVariables false
set_option linter.unusedSimpArgs false
set_option maxRecDepth 100000
namespace Go.Proofs.YtefneilaongpbaaDoor
open Go Go.Bd Go.RowKit Go.ChangeShapes Go.WideShapes

theorem list_of {α : Type} (n : Nat) (p : Nat → α → Prop) (h : ∀ i, i < n → ∃ a, p i a) : ∃ l : List α, l.length = n ∧ ∀ i a, l[i]? = some a → p i a := by
  induction n with
  | zero => exact ⟨[], rfl, fun i a h => by simp at h⟩
  | succ n ih =>
    obtain ⟨l, hl, hp⟩ := ih (fun i hi => h i (by omega))
    obtain ⟨a, ha⟩ := h n (by omega)
    refine ⟨l ++ [a], by simp [hl], fun i b hb => ?_⟩
    by_cases hi : i < l.length
    · rw [List.getElem?_append_left hi] at hb; exact hp i b hb
    · rw [List.getElem?_append_right (by omega)] at hb
      have h0 : i - l.length = 0 := by
        have := (List.getElem?_eq_some_iff.1 hb).1
        simp at this
        omega
      rw [h0] at hb
      simp at hb
      subst hb
      rw [show i = n by omega]
      exact ha
section
variable {w : World}
theorem open_cells {a : Addr} {cs : List Value} (hpos : 0 < cs.length) (h : ∀ j, j < cs.length → w.cell? (a.add j) = cs[j]?) : ∃ b o, a = ⟨b, o, none⟩ ∧ At any w b o cs := by
  have h0 := h 0 hpos
  have e0 : a.add 0 = a := by simp [Addr.add]
  rw [e0, List.getElem?_eq_getElem hpos] at h0
  unfold World.cell? at h0
  split at h0
  · rename_i c T fr hh
    split at h0
    · cases h0
    · rename_i hs
      have hs' : a.spot = none := by cases hsp : a.spot with
        | none => rfl
        | some x => rw [hsp] at hs; simp at hs
      refine ⟨a.block, a.off, by cases a; simp_all, c, T, fr, hh, trivial, fun j v hj => ?_⟩
      have hjl := (List.getElem?_eq_some_iff.1 hj).1
      have hc := h j hjl
      have ea : a.add j = ⟨a.block, a.off + j, none⟩ := by
        unfold Addr.add
        split
        · rename_i hj0; subst hj0; cases a; simp_all
        · rfl
      rw [ea, hj] at hc
      simpa [World.cell?, hh] using hc
  · cases h0
theorem open_rows {α : Type} (C : List Value → α → Prop) {a : Addr} {len cap sz : Nat} (hsz : 0 < sz) (hlc : len ≤ cap) (h : ∀ i, i < len → ∃ e x, e.length = sz ∧ C e x ∧ ∀ j, j < sz → w.cell? (a.add (i * sz + j)) = e[j]?) :
    ∃ es xs, All2 C es xs ∧ xs.length = len ∧ RdF any w (.slice (some a) len cap) len es.flatten := by
  obtain ⟨l, hl, hp⟩ := list_of (α := List Value × α) len (fun i y => y.1.length = sz ∧ C y.1 y.2 ∧ ∀ j, j < sz → w.cell? (a.add (i * sz + j)) = y.1[j]?) (fun i hi => by
    obtain ⟨e, x, h1, h2, h3⟩ := h i hi
    exact ⟨(e, x), h1, h2, h3⟩)
  have hall : ∀ (l : List (List Value × α)), (∀ y ∈ l, C y.1 y.2) → All2 C (l.map (·.1)) (l.map (·.2)) := by
    intro l
    induction l with
    | nil => intro _; exact .nil
    | cons y l ih => intro h; exact .cons (h y (by simp)) (ih fun z hz => h z (by simp [hz]))
  refine ⟨l.map (·.1), l.map (·.2), hall l (fun y hy => ?_), by simp [hl], ?_⟩
  · obtain ⟨i, hi⟩ := List.mem_iff_getElem?.1 hy
    exact (hp i y hi).2.1
  · have hlen : ∀ (l : List (List Value × α)), (∀ y ∈ l, y.1.length = sz) → (l.map (·.1)).flatten.length = l.length * sz := by
      intro l
      induction l with
      | nil => intro _; simp
      | cons y l ih => 
        intro h
        have h1 := h y (by simp)
        have h2 := ih fun z hz => h z (by simp [hz])
        simp only [List.map_cons, List.flatten_cons, List.length_append, List.length_cons, h1, h2]
        rw [Nat.add_mul]; omega
    have hsz' : ∀ y ∈ l, y.1.length = sz := fun y hy => by
      obtain ⟨i, hi⟩ := List.mem_iff_getElem?.1 hy
      exact (hp i y hi).1
    refine ⟨some a, cap, rfl, hlc, ?_⟩
    by_cases h0 : len = 0
    · left
      have : l = [] := List.eq_nil_of_length_eq_zero (by omega)
      simp [this]
    · right
      have hfl := hlen l hsz'
      obtain ⟨b, o, rfl, hA⟩ := open_cells (w := w) (a := a) (cs := (l.map (·.1)).flatten) (by rw [hfl, hl]; exact Nat.mul_pos (by omega) hsz) (fun q hq => by
        rw [hfl] at hq
        have hi : q / sz < l.length := Nat.div_lt_of_lt_mul (by rw [Nat.mul_comm]; exact hq)
        have hmod := Nat.mod_lt q hsz
        have hy : l[q / sz]? = some l[q / sz] := List.getElem?_eq_getElem hi
        obtain ⟨h1, h2, h3⟩ := hp (q / sz) _ hy
        have hd : q / sz * sz + q % sz = q := by rw [Nat.mul_comm]; exact Nat.div_add_mod q sz
        have h4 := h3 (q % sz) hmod
        rw [hd] at h4
        rw [h4]
        obtain ⟨h5, h6⟩ := flatten_at sz (l.map (·.1)) (by intro e he; obtain ⟨y, hy, rfl⟩ := List.mem_map.1 he; exact hsz' y hy) (q / sz) l[q / sz].1 (by simp [hy])
        rw [h5, List.getElem?_append_right (by omega), List.getElem?_append_left (by omega)]
        congr 1
        omega)
      exact ⟨b, o, rfl, hA⟩
end

theorem cells_u8 : Tryd.prog.cellsOf 5 = 1 := by kernel_rfl
theorem cells_dig : Tryd.prog.cellsOf 25 = 32 := by kernel_rfl
theorem cells_bytes : Tryd.prog.cellsOf 32 = 1 := by kernel_rfl
theorem cells_digs : Tryd.prog.cellsOf 33 = 1 := by kernel_rfl
theorem cells_int : Tryd.prog.cellsOf 3 = 1 := by kernel_rfl
theorem cells_bool : Tryd.prog.cellsOf 4 = 1 := by kernel_rfl
section
variable {H : Type} {enc : TypeId × Value → H} {w : World} {base : Nat} {spare : Nat → Bool} {held : Bool}
theorem open_u8 {fuel : Nat} {cs : List Value} {x : DataW H × List MemPlace} (h : DataW.trod enc Tryd.prog w base spare held fuel 5 cs = some x) : ∃ b : UInt8, cs = [bv b] := by
  obtain ⟨n, rfl, _, hw⟩ := DataW.trod_int Tryd.underlying5 h
  simp only [Lit.wf, Bool.and_eq_true, decide_eq_true_eq, IntKind.min, IntKind.max] at hw
  have h0 : 0 ≤ n ∧ n < 256 := by
    obtain ⟨h1, h2⟩ := hw
    constructor
    · simpa [IntKind.signed] using h1
    · have : n ≤ 255 := by simpa [IntKind.signed, IntKind.bits] using h2
      omega
  refine ⟨UInt8.ofNat n.toNat, ?_⟩
  show [Value.int IntKind.u8 n] = [Value.int IntKind.u8 ((UInt8.ofNat n.toNat).toNat : Int)]
  have : ((UInt8.ofNat n.toNat).toNat : Int) = n := by
    rw [UInt8.toNat_ofNat']
    rw [Nat.mod_eq_of_lt (by omega)]
    omega
  rw [this]
theorem open_dig {fuel : Nat} {cs : List Value} {x : DataW H × List MemPlace} (h : DataW.trod enc Tryd.prog w base spare held fuel 25 cs = some x) : ∃ k : Dig, cs = k.cells := by
  obtain ⟨xs, m, _, _, hlen, hxl, hi⟩ := DataW.trod_array Tryd.underlying25 h
  rw [cells_dig] at hlen
  obtain ⟨l, hl, hp⟩ := list_of (α := UInt8) 32 (fun i b => cs[i]? = some (bv b)) (fun i hi' => by
    have h1 := hi i hi'
    rw [cells_u8, Nat.mul_one] at h1
    obtain ⟨y, hy⟩ : ∃ y, xs[i]? = some y := ⟨_, List.getElem?_eq_getElem (by omega)⟩
    rw [hy] at h1
    obtain ⟨b, hb⟩ := open_u8 h1
    refine ⟨b, ?_⟩
    have : ((cs.drop i).take 1)[0]? = some (bv b) := by rw [hb]; rfl
    simpa using this)
  refine ⟨⟨l, hl⟩, ?_⟩
  apply List.ext_getElem?
  intro i
  by_cases h32 : i < 32
  · have hb : l[i]? = some l[i] := List.getElem?_eq_getElem (by omega)
    rw [hp i _ hb]
    simp [Dig.cells, hb]
  · rw [List.getElem?_eq_none (by omega), List.getElem?_eq_none (by simp [Dig.cells, hl]; omega)]
theorem all2_bytes {es : List (List Value)} {xs : Bytes} (h : All2 (fun e (x : UInt8) => e = [bv x]) es xs) : es.flatten = bcells xs := by
  induction h with
  | nil => rfl
  | cons h _ ih => subst h; simp [ih, bcells]
theorem all2_digs {es : List (List Value)} {xs : List Dig} (h : All2 (fun e (x : Dig) => e = x.cells) es xs) : es.flatten = dcells xs := by
  induction h with
  | nil => rfl
  | cons h _ ih => subst h; simp [ih, dcells]
theorem open_bytes {fuel : Nat} {cs : List Value} {x : DataW H × List MemPlace} (h : DataW.trod enc Tryd.prog w base spare held fuel 32 cs = some x) : ∃ v bs, cs = [v] ∧ RdB any w v bs := by
  rcases Go.Deep.open_slice Tryd.underlying32 h with ⟨rfl, _⟩ | ⟨a, len, cap, m, n, D, Pl, rfl, hb, hl, hm, hmm, hx, hi⟩
  · exact ⟨_, [], rfl, RdF.nil _ _ _ _⟩
  · obtain ⟨es, xs, h1, h2, h3⟩ := open_rows (w := w) (fun e (x : UInt8) => e = [bv x]) (a := a) (len := len) (cap := cap) (sz := 1) (by omega) hl (fun i hil => by
      obtain ⟨cs', hc, ht⟩ := hi i (by rw [hmm]; split <;> omega)
      rw [cells_u8] at hc
      obtain ⟨b, rfl⟩ := open_u8 ht
      obtain ⟨_, _, hat⟩ := World.cells?_some hc
      refine ⟨_, b, rfl, rfl, fun j hj => ?_⟩
      rw [← Go.Deep.add_add]
      exact hat j hj)
    exact ⟨_, xs, rfl, by unfold RdB; rw [h2, ← all2_bytes h1]; exact h3⟩
theorem open_digs {fuel : Nat} {cs : List Value} {x : DataW H × List MemPlace} (h : DataW.trod enc Tryd.prog w base spare held fuel 33 cs = some x) : ∃ v ds, cs = [v] ∧ RdD any w v ds := by
  rcases Go.Deep.open_slice Tryd.underlying33 h with ⟨rfl, _⟩ | ⟨a, len, cap, m, n, D, Pl, rfl, hb, hl, hm, hmm, hx, hi⟩
  · exact ⟨_, [], rfl, RdF.nil _ _ _ _⟩
  · obtain ⟨es, xs, h1, h2, h3⟩ := open_rows (w := w) (fun e (x : Dig) => e = x.cells) (a := a) (len := len) (cap := cap) (sz := 32) (by omega) hl (fun i hil => by
      obtain ⟨cs', hc, ht⟩ := hi i (by rw [hmm]; split <;> omega)
      rw [cells_dig] at hc
      obtain ⟨k, rfl⟩ := open_dig ht
      obtain ⟨_, _, hat⟩ := World.cells?_some hc
      refine ⟨_, k, k.len, rfl, fun j hj => ?_⟩
      rw [← Go.Deep.add_add]
      exact hat j hj)
    exact ⟨_, xs, rfl, by unfold RdD; rw [h2, ← all2_digs h1]; exact h3⟩
theorem open_proof {r : Reach} {b0 : Nat} {v : Value} {d : DataW H} {p : List MemPlace} (hv : Value.okWide Tryd.prog w r b0 35 v) (h : DataW.Trod enc Tryd.prog w base spare held 35 v d p) :
    ∃ x u s, v = prv x u s ∧ PrfM any w x u s := by
  have hs : Tryd.prog.underlying 35 = some _ := Tryd.underlying35
  obtain ⟨cs, rfl, hsz⟩ := okWide_struct hs hv
  obtain ⟨fuel, hf⟩ := h
  obtain ⟨xs, n, _, hx, hcl, hlen, hg⟩ := DataW.trod_struct hs hf
  have h67 : Tryd.prog.cellsOf 35 = 67 := by kernel_rfl
  rw [h67] at hsz
  have hcl' : cs.toList.length = 67 := by simpa using hsz
  have get : ∀ i, i < 5 → ∃ y, xs[i]? = some y := fun i hi => ⟨_, List.getElem?_eq_getElem (by rw [hlen]; exact hi)⟩
  obtain ⟨y0, e0⟩ := get 0 (by omega)
  obtain ⟨y1, e1⟩ := get 1 (by omega)
  obtain ⟨y2, e2⟩ := get 2 (by omega)
  obtain ⟨y3, e3⟩ := get 3 (by omega)
  obtain ⟨y4, e4⟩ := get 4 (by omega)
  have f0 : DataW.trod enc Tryd.prog w base spare held n 25 (((Value.agg cs).cells.toList.drop 0).take (Tryd.prog.cellsOf 25)) = some y0 := (hg 0 _ rfl).trans e0
  have f1 : DataW.trod enc Tryd.prog w base spare held n 5 (((Value.agg cs).cells.toList.drop 32).take (Tryd.prog.cellsOf 5)) = some y1 := (hg 1 _ rfl).trans e1
  have f2 : DataW.trod enc Tryd.prog w base spare held n 25 (((Value.agg cs).cells.toList.drop 33).take (Tryd.prog.cellsOf 25)) = some y2 := (hg 2 _ rfl).trans e2
  have f3 : DataW.trod enc Tryd.prog w base spare held n 32 (((Value.agg cs).cells.toList.drop 65).take (Tryd.prog.cellsOf 32)) = some y3 := (hg 3 _ rfl).trans e3
  have f4 : DataW.trod enc Tryd.prog w base spare held n 33 (((Value.agg cs).cells.toList.drop 66).take (Tryd.prog.cellsOf 33)) = some y4 := (hg 4 _ rfl).trans e4
  rw [cells_dig] at f0 f2
  rw [cells_u8] at f1
  rw [cells_bytes] at f3
  rw [cells_digs] at f4
  obtain ⟨k, hk⟩ := open_dig f0
  obtain ⟨e, he⟩ := open_u8 f1
  obtain ⟨o, ho⟩ := open_dig f2
  obtain ⟨u, bs, hu, hub⟩ := open_bytes f3
  obtain ⟨s, ds, hs', hsd⟩ := open_digs f4
  refine ⟨⟨k, e, o, bs, ds⟩, u, s, ?_, ⟨hub, hsd⟩⟩
  have key : cs.toList = pcells ⟨k, e, o, bs, ds⟩ u s := by
    have a1 : cs.toList = cs.toList.take 32 ++ ((cs.toList.drop 32).take 1 ++ ((cs.toList.drop 33).take 32 ++ ((cs.toList.drop 65).take 1 ++ (cs.toList.drop 66).take 1))) := by
      have b1 : (cs.toList.drop 66).take 1 = cs.toList.drop 66 := List.take_of_length_le (by simp; omega)
      rw [b1]
      have b2 : (cs.toList.drop 65).take 1 ++ cs.toList.drop 66 = cs.toList.drop 65 := by
        rw [show cs.toList.drop 66 = (cs.toList.drop 65).drop 1 by rw [List.drop_drop]]; exact List.take_append_drop 1 _
      rw [b2]
      have b3 : (cs.toList.drop 33).take 32 ++ cs.toList.drop 65 = cs.toList.drop 33 := by
        rw [show cs.toList.drop 65 = (cs.toList.drop 33).drop 32 by rw [List.drop_drop]]; exact List.take_append_drop 32 _
      rw [b3]
      have b4 : (cs.toList.drop 32).take 1 ++ cs.toList.drop 33 = cs.toList.drop 32 := by
        rw [show cs.toList.drop 33 = (cs.toList.drop 32).drop 1 by rw [List.drop_drop]]; exact List.take_append_drop 1 _
      rw [b4, List.take_append_drop]
    rw [a1]
    simp only [Value.cells, List.drop_zero] at hk he ho hu hs'
    rw [hk, he, ho, hu, hs']
    simp [pcells]
  rw [prv, ← key]
end
end Go.Proofs.YtefneilaongpbaaDoor
/-
  Arguments opened: pairs, nodes, trees, digests.
-/
set_option linter.unusedVariables false
set_option linter.unusedSimpArgs false
set_option maxRecDepth 100000
namespace Go.Proofs.YtefneilaongpbaaDoor
open Go Go.Bd Go.RowKit Go.ChangeShapes Go.WideShapes Go.ChangeAt
theorem cells_pair : Tryd.prog.cellsOf 76 = 33 := by kernel_rfl
section
variable {H : Type} {enc : TypeId × Value → H} {w : World} {base : Nat} {spare : Nat → Bool} {held : Bool}
theorem open_pair {fuel : Nat} {cs : List Value} {x : DataW H × List MemPlace} (h : DataW.trod enc Tryd.prog w base spare held fuel 76 cs = some x) : ∃ k u bs, cs = Dig.cells k ++ [u] ∧ RdB any w u bs := by
  have hs : Tryd.prog.underlying 76 = some _ := Tryd.underlying76
  obtain ⟨xs, n, _, hx, hcl, hlen, hg⟩ := DataW.trod_struct hs h
  rw [cells_pair] at hcl
  have get : ∀ i, i < 2 → ∃ y, xs[i]? = some y := fun i hi => ⟨_, List.getElem?_eq_getElem (by rw [hlen]; exact hi)⟩
  obtain ⟨y0, e0⟩ := get 0 (by omega)
  obtain ⟨y1, e1⟩ := get 1 (by omega)
  have f0 : DataW.trod enc Tryd.prog w base spare held n 25 ((cs.drop 0).take (Tryd.prog.cellsOf 25)) = some y0 := (hg 0 _ rfl).trans e0
  have f1 : DataW.trod enc Tryd.prog w base spare held n 32 ((cs.drop 32).take (Tryd.prog.cellsOf 32)) = some y1 := (hg 1 _ rfl).trans e1
  rw [cells_dig] at f0
  rw [cells_bytes] at f1
  obtain ⟨k, hk⟩ := open_dig f0
  obtain ⟨u, bs, hu, hub⟩ := open_bytes f1
  refine ⟨k, u, bs, ?_, hub⟩
  have b1 : (cs.drop 32).take 1 = cs.drop 32 := List.take_of_length_le (by rw [List.length_drop, hcl]; omega)
  rw [← hk, ← hu, b1, List.drop_zero, List.take_append_drop]
theorem all2_pairs {S : Where} {es : List (List Value)} {xs : List Pair} (h : All2 (fun e (x : Pair) => PairC S w e x) es xs) : All2 (PairC S w) es xs := h
theorem open_pairs {fuel : Nat} {cs : List Value} {x : DataW H × List MemPlace} (h : DataW.trod enc Tryd.prog w base spare held fuel 22 cs = some x) : ∃ v ps, cs = [v] ∧ RdP any w v ps := by
  rcases Go.Deep.open_slice Tryd.underlying22 h with ⟨rfl, _⟩ | ⟨a, len, cap, m, n, D, Pl, rfl, hb, hl, hm, hmm, hx, hi⟩
  · exact ⟨_, [], rfl, [], .nil, RdF.nil _ _ _ _⟩
  · obtain ⟨es, xs, h1, h2, h3⟩ := open_rows (w := w) (PairC any w) (a := a) (len := len) (cap := cap) (sz := 33) (by omega) hl (fun i hil => by
      obtain ⟨cs', hc, ht⟩ := hi i (by rw [hmm]; split <;> omega)
      rw [cells_pair] at hc
      obtain ⟨k, u, bs, rfl, hub⟩ := open_pair ht
      obtain ⟨_, _, hat⟩ := World.cells?_some hc
      refine ⟨_, ⟨k, bs⟩, by simp [Dig.len], ⟨u, rfl, hub⟩, fun j hj => ?_⟩
      rw [← Go.Deep.add_add]
      exact hat j hj)
    exact ⟨_, xs, rfl, es, h1, by rw [h2]; exact h3⟩
/-! arguments -/
theorem arg_slice {r : Reach} {b0 : Nat} {t e : TypeId} {v : Value} (hu : Tryd.prog.underlying t = some (.slice e)) (hv : Value.okWide Tryd.prog w r b0 t v) : ∃ a len cap, v = .slice a len cap := okWide_slice hu hv
theorem arg_pairs {r : Reach} {b0 : Nat} {v : Value} {d : DataW H} {p : List MemPlace} (hv : Value.okWide Tryd.prog w r b0 22 v) (h : DataW.Trod enc Tryd.prog w base spare held 22 v d p) : ∃ ps, RdP any w v ps := by
  obtain ⟨a, len, cap, rfl⟩ := okWide_slice Tryd.underlying22 hv
  obtain ⟨fuel, hf⟩ := h
  obtain ⟨u, ps, hu, hr⟩ := open_pairs hf
  have : Value.slice a len cap = u := by simpa [Value.cells] using hu
  rw [this]; exact ⟨ps, hr⟩
theorem arg_bytes {r : Reach} {b0 : Nat} {v : Value} {d : DataW H} {p : List MemPlace} (hv : Value.okWide Tryd.prog w r b0 32 v) (h : DataW.Trod enc Tryd.prog w base spare held 32 v d p) : ∃ bs, RdB any w v bs := by
  obtain ⟨a, len, cap, rfl⟩ := okWide_slice Tryd.underlying32 hv
  obtain ⟨fuel, hf⟩ := h
  obtain ⟨u, bs, hu, hr⟩ := open_bytes hf
  have : Value.slice a len cap = u := by simpa [Value.cells] using hu
  rw [this]; exact ⟨bs, hr⟩
theorem arg_dig {r : Reach} {b0 : Nat} {v : Value} {d : DataW H} {p : List MemPlace} (hv : Value.okWide Tryd.prog w r b0 25 v) (h : DataW.Trod enc Tryd.prog w base spare held 25 v d p) : ∃ k, v = dv k := by
  have hs : Tryd.prog.underlying 25 = some _ := Tryd.underlying25
  unfold Value.okWide at hv
  rw [hs] at hv
  obtain ⟨cs, rfl, _⟩ := hv
  obtain ⟨fuel, hf⟩ := h
  obtain ⟨k, hk⟩ := open_dig hf
  refine ⟨k, ?_⟩
  have : cs.toList = k.cells := hk
  rw [dv, ← this]
end
end Go.Proofs.YtefneilaongpbaaDoor
