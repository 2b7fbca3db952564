/-
  Slices of one's own, and appending; slicing; making slices; building structs, arrays and slices.
-/
import Derived.Test.YtefneilaongpbaaMem
import Derived.Laws.MakeOwn
import Derived.Laws.IdiomCopy
set_option linter.unusedVariables false
set_option linter.unusedSimpArgs false
set_option maxRecDepth 100000
namespace Go.Bd
open Go Go.RowKit

/-- A slice of n elements of sz cells, in a block of one's own from B on, from its beginning; or an empty one without room. -/
def Own (B : Nat) (w : World) (v : Value) (n sz : Nat) (T : TypeId) (cs : List Value) : Prop :=
  cs.length = n * sz ∧ ((n = 0 ∧ ∃ p, v = .slice p 0 0) ∨ ∃ g cap rest, v = .slice (some ⟨g, 0, none⟩) n cap ∧ B ≤ g ∧ n ≤ cap ∧ Blk w g T (cs ++ rest) ∧ rest.length = (cap - n) * sz)
/-- The block in which there is room, or elements. -/
def rowOf : Value → Option Nat
  | .slice (some a) _ (_ + 1) => some a.block
  | _ => none
/-- All but one of the old blocks is as it was. -/
structure But (r : Option Nat) (w w' : World) : Prop where
  os : w'.os = w.os
  tape : w'.tape = w.tape
  output : w'.output = w.output
  size : w.heap.size ≤ w'.heap.size
  block : ∀ k, k < w.heap.size → some k ≠ r → w'.heap[k]? = w.heap[k]?
theorem But.below {r : Option Nat} {w0 w w' : World} {B : Nat} (h : But r w w') (hr : ∀ k, r = some k → B ≤ k) (hB : B ≤ w.heap.size) (h0 : Below B w0 w) : Below B w0 w' :=
  h0.trans ⟨h.os, h.tape, h.output, h.size, fun k hk => h.block k (by omega) (fun e => by have := hr k e.symm; omega)⟩
theorem But.ext {w w' : World} (h : But none w w') : Ext w w' := ⟨h.os, h.tape, h.output, h.size, fun k hk => h.block k hk (by simp)⟩
theorem But.of_ext {w w' : World} (r : Option Nat) (h : Ext w w') : But r w w' := ⟨h.os, h.tape, h.output, h.size, fun k hk _ => h.block k hk⟩
theorem But.of_chg {b : Nat} {w w' : World} (h : Chg b w w') : But (some b) w w' := ⟨h.os, h.tape, h.output, by rw [h.size]; exact Nat.le_refl _, fun k _ hk => h.block k (by simpa using hk)⟩
theorem Own.bare (B : Nat) (w : World) (p : Option Addr) (sz : Nat) (T : TypeId) : Own B w (.slice p 0 0) 0 sz T [] := ⟨by simp, .inl ⟨rfl, p, rfl⟩⟩
theorem Own.shape {B : Nat} {w : World} {v : Value} {n sz : Nat} {T : TypeId} {cs : List Value} (h : Own B w v n sz T cs) : ∃ p c, v = .slice p n c := by
  rcases h.2 with ⟨rfl, p, rfl⟩ | ⟨g, cap, rest, rfl, _⟩
  · exact ⟨_, _, rfl⟩
  · exact ⟨_, _, rfl⟩
theorem Own.keep {B : Nat} {w w' : World} {v : Value} {n sz : Nat} {T : TypeId} {cs : List Value} (h : Own B w v n sz T cs) (hk : ∀ g, rowOf v = some g → g < w.heap.size → w'.heap[g]? = w.heap[g]?) (hsz : 0 < sz) : Own B w' v n sz T cs := by
  obtain ⟨hl, h⟩ := h
  refine ⟨hl, ?_⟩
  rcases h with h | ⟨g, cap, rest, rfl, hB, hn, hblk, hr⟩
  · exact .inl h
  · cases cap with
    | zero =>
      obtain rfl : n = 0 := by omega
      exact .inl ⟨rfl, _, rfl⟩
    | succ cap => exact .inr ⟨g, _, rest, rfl, hB, hn, hblk.keep (hk g rfl hblk.lt), hr⟩
theorem Own.ext {B : Nat} {w w' : World} {v : Value} {n sz : Nat} {T : TypeId} {cs : List Value} (h : Own B w v n sz T cs) (he : Ext w w') : Own B w' v n sz T cs := by
  obtain ⟨hl, h⟩ := h
  refine ⟨hl, h.imp id ?_⟩
  rintro ⟨g, cap, rest, rfl, hB, hn, hblk, hr⟩
  exact ⟨g, cap, rest, rfl, hB, hn, hblk.ext he, hr⟩
theorem Own.mono {B B' : Nat} {w : World} {v : Value} {n sz : Nat} {T : TypeId} {cs : List Value} (h : Own B w v n sz T cs) (hB : B' ≤ B) : Own B' w v n sz T cs := by
  obtain ⟨hl, h⟩ := h
  refine ⟨hl, h.imp id ?_⟩
  rintro ⟨g, cap, rest, rfl, hB', r⟩
  exact ⟨g, cap, rest, rfl, by omega, r⟩
theorem Own.row {B : Nat} {w : World} {v : Value} {n sz : Nat} {T : TypeId} {cs : List Value} (h : Own B w v n sz T cs) {k : Nat} (hk : rowOf v = some k) : B ≤ k ∧ k < w.heap.size := by
  rcases h.2 with ⟨rfl, p, rfl⟩ | ⟨g, cap, rest, rfl, hB, hn, hblk, hr⟩
  · simp [rowOf] at hk
  · cases cap with
    | zero => simp [rowOf] at hk
    | succ c => simp [rowOf] at hk; subst hk; exact ⟨hB, hblk.lt⟩

section
variable {P : Program} {tt : List (Nat × Ti)}
theorem Ti.Ok.more {t : TypeId} {i : Ti} (h : i.Ok P t) : ∃ x z, P.info? t = some x ∧ x.zero = some z ∧ z.cells = i.zero.toArray ∧ x.size = i.size ∧ x.bytes = i.bytes := by
  obtain ⟨x, hx, _, hs, hb⟩ := h.run_info (default : World)
  have hz := h.zero
  simp only [hx, Option.bind_some] at hz
  cases hzz : x.zero with
  | none => simp [hzz] at hz
  | some z => simp [hzz] at hz; exact ⟨x, z, hx, hzz, by simp [← hz], hs, hb⟩
theorem run_loadCells_at {S : Nat → Nat × Nat → Prop} {w : World} {b o : Nat} {cs : List Value} (h : At S w b o cs) : ∀ j v, cs[j]? = some v → w.cell? ((⟨b, o, none⟩ : Addr).add j) = some v := fun j v hj => by
  rw [add_addr]; exact h.cell hj

/-- Appending. -/
theorem run_app {S : Nat → Nat × Nat → Prop} {t ty e : TypeId} {i ie : Ti} {B : Nat} {w : World} {v x : Value} {n m sz : Nat} {xs news : List Value} (hT : Tys P tt) (hi : TT.get tt t = some i) (hdesc : i.desc = .slice e) (hie : TT.get tt e = some ie) (hs : ie.size = sz) (hsz : 0 < sz) (hzl : ie.zero.length = sz)
    (hown : Own B w v n sz e xs) (hsrc : Go.Proofs.Ytefneilaongpbaa.RdF S w x m news) (hl : news.length = m * sz) (h1 : ∀ u ∈ news, u.oneCell' = true) (hbytes : (n + m) * ie.bytes ≤ 140737488355328) (h63 : n + m ≤ 140737488355328) (hB : B ≤ w.heap.size) :
    ∃ v' w', (Builtin.append_ #[t, t] ty #[v, x]).run P w = .ok v' w' ∧ Own B w' v' (n + m) sz e (xs ++ news) ∧ But (rowOf v) w w' ∧ (rowOf v' = rowOf v ∨ rowOf v' = some w.heap.size ∧ Ext w w') := by
  have hu : P.underlying t = some (.slice e) := by have := (hT.ok t i hi).desc; rw [hdesc] at this; exact this
  obtain ⟨ix, z, hix, hz, hzc, hxs, hxb⟩ := (hT.ok e ie hie).more
  obtain ⟨p, c, rfl, hmc, hsrc⟩ := hsrc
  have hxl : xs.length = n * sz := hown.1
  subst hs
  by_cases hm : m = 0
  · subst hm
    have hnil : news = [] := List.eq_nil_of_length_eq_zero (by simpa using hl)
    subst hnil
    refine ⟨v, w, ?_, by simpa using hown, But.of_ext _ (Ext.refl w), .inl rfl⟩
    have hlc : ∀ a : Addr, (loadCells a 0).run P w = .ok #[] w := fun a => by
      have := run_loadCells_list (P := P) w a [] (by simp)
      simpa using this
    rcases hown.2 with ⟨rfl, q, rfl⟩ | ⟨g, cap, rest, rfl, hBg, hn, hblk, hr⟩
    · cases p <;> cases q <;> simp [Builtin.append_, run_underlying hu, sizeOf, typeInfo, hix, Builtin.lenOf, Builtin.firstCells, hlc, storeCells]
    · cases p <;> simp [Builtin.append_, run_underlying hu, sizeOf, typeInfo, hix, Builtin.lenOf, Builtin.firstCells, hlc, storeCells, hn]
  · have hne : news ≠ [] := by
      intro h0
      rw [h0] at hl
      have : 0 < m * ie.size := Nat.mul_pos (by omega) hsz
      simp at hl
      omega
    obtain ⟨b, o, rfl, hA⟩ := hsrc.resolve_left hne
    have hnews := run_loadCells_at hA
    have grown : ∀ (old : Nat), old < n + m → 
        Own B (w.drew.alloc (.cells (xs.toArray ++ news.toArray ++ Builtin.zeroCells z.cells (grownCap w (n + m) old e - (n + m))) e)) (.slice (some ⟨w.heap.size, 0, none⟩) (n + m) (grownCap w (n + m) old e)) (n + m) ie.size e (xs ++ news) ∧
        Ext w (w.drew.alloc (.cells (xs.toArray ++ news.toArray ++ Builtin.zeroCells z.cells (grownCap w (n + m) old e - (n + m))) e)) ∧
        rowOf (.slice (some ⟨w.heap.size, 0, none⟩) (n + m) (grownCap w (n + m) old e)) = some w.heap.size := by
      intro old ho
      have hge := grownCap_ge w (n + m) old e
      refine ⟨⟨by rw [List.length_append, hxl, hl, Nat.add_mul], .inr ⟨w.heap.size, _, (Builtin.zeroCells z.cells (grownCap w (n + m) old e - (n + m))).toList, rfl, hB, hge, ?_, ?_⟩⟩, ⟨rfl, rfl, rfl, by simp, fun k hk => heap_alloc_old w.drew _ hk⟩, ?_⟩
      · have := heap_alloc_new w.drew (.cells (xs.toArray ++ news.toArray ++ Builtin.zeroCells z.cells (grownCap w (n + m) old e - (n + m))) e)
        have ea : xs.toArray ++ news.toArray ++ Builtin.zeroCells z.cells (grownCap w (n + m) old e - (n + m)) = ((xs ++ news) ++ (Builtin.zeroCells z.cells (grownCap w (n + m) old e - (n + m))).toList).toArray := by
          apply Array.ext'
          simp
        rw [ea] at this ⊢
        exact this
      · have : (Builtin.zeroCells z.cells (grownCap w (n + m) old e - (n + m))).size = (grownCap w (n + m) old e - (n + m)) * ie.size := by rw [size_zeroCells, hzc]; simp [hzl]
        simpa using this
      · cases hg : grownCap w (n + m) old e with
        | zero => omega
        | succ q => rfl
    have hb2 : (n + m) * ix.bytes ≤ 140737488355328 := by rw [hxb]; exact hbytes
    have hnl : news.length = m * ix.size := by rw [hxs]; exact hl
    have hgrow : ∀ (q : Option Addr) (old : Nat), (∀ a, q = some a → ∀ j u, xs[j]? = some u → w.cell? (a.add j) = some u) → (q = none → n = 0 ∧ old = 0) → old < n + m →
        (Builtin.append_ #[t, t] ty #[.slice q n old, .slice (some ⟨b, o, none⟩) m c]).run P w = .ok (.slice (some ⟨w.heap.size, 0, none⟩) (n + m) (grownCap w (n + m) old e)) (w.drew.alloc (.cells (xs.toArray ++ news.toArray ++ Builtin.zeroCells z.cells (grownCap w (n + m) old e - (n + m))) e)) := by
      intro q old hold hno ho
      cases q with
      | some a => exact run_append_grow (P := P) w t ty e ix z hu hix hz a n old xs (by rw [hxs]; exact hxl) (hold a rfl) _ m c news hnl hnews ho (by omega) (growslice_fits ho hb2)
      | none =>
        obtain ⟨rfl, rfl⟩ := hno rfl
        have hx0 : xs = [] := List.eq_nil_of_length_eq_zero (by simpa using hxl)
        subst hx0
        have := run_append_nil (P := P) w t ty e ix z hu hix hz ⟨b, o, none⟩ m c news hnl hnews (by omega) (by omega) (by simp only [Nat.zero_add] at hb2; omega)
        simp only [Nat.zero_add, Array.empty_append]
        simpa using this
    rcases hown.2 with ⟨rfl, q, rfl⟩ | ⟨g, cap, rest, rfl, hBg, hn, hblk, hr⟩
    · have hx0 : xs = [] := List.eq_nil_of_length_eq_zero (by simpa using hxl)
      obtain ⟨h2, h3, h4⟩ := grown 0 (by omega)
      exact ⟨_, _, hgrow q 0 (fun a _ j u hj => by simp [hx0] at hj) (fun _ => ⟨rfl, rfl⟩) (by omega), h2, But.of_ext _ h3, .inr ⟨h4, h3⟩⟩
    · by_cases hroom : n + m ≤ cap
      · have hst := run_storeCells (P := P) news (n * ie.size) 0 g (xs ++ rest) e (0, 0) w hblk (by
          simp only [List.length_append, hxl, hl, hr, Nat.add_zero]
          rw [← Nat.add_mul, ← Nat.add_mul]
          exact Nat.mul_le_mul_right _ (by omega)) h1 (by intro j _; simp)
        have hlc := run_loadCells_list (P := P) w ⟨b, o, none⟩ news hnews
        rw [hnl] at hlc
        have hsp : splice (xs ++ rest) (n * ie.size) news = (xs ++ news) ++ rest.drop (m * ie.size) := by
          unfold splice
          rw [← hxl, List.take_left, ← List.append_assoc]
          congr 1
          rw [← hl, ← List.drop_drop, List.drop_left]
        refine ⟨.slice (some ⟨g, 0, none⟩) (n + m) cap, World.put w g (n * ie.size) news, ?_, ⟨by rw [List.length_append, hxl, hl, Nat.add_mul], .inr ⟨g, cap, rest.drop (m * ie.size), rfl, hBg, hroom, ?_, ?_⟩⟩, ?_, .inl ?_⟩
        · rw [hxs] at hlc
          have hst' := hst
          simp only [Nat.add_zero] at hst'
          simp [Builtin.append_, run_underlying hu, sizeOf, typeInfo, hix, Builtin.lenOf, Builtin.firstCells, hroom, hxs, hlc, add_addr, hst']
        · rw [← hsp]; exact blk_put hblk
        · rw [List.length_drop, hr, ← Nat.sub_mul]; congr 1; omega
        · cases cap with
          | zero => omega
          | succ q => exact But.of_chg (chg_put _ _ _ _)
        · cases cap with
          | zero => omega
          | succ q => rfl
      · obtain ⟨h2, h3, h4⟩ := grown cap (by omega)
        refine ⟨_, _, hgrow _ cap (fun a ha j u hj => ?_) (by simp) (by omega), h2, But.of_ext _ h3, .inr ⟨h4, h3⟩⟩
        cases ha
        refine run_loadCells_at (S := any) (o := 0) (cs := xs) ?_ j u hj
        have := (hblk.all).sub [] xs (q := rest) rfl rfl
        exact this
end

section
variable {P : Program} {n : Sz} {Q : Act → World → Prop} {f : Fr} {w : World} {ops : Array Oper} {rest : List Oper} {tt : List (Nat × Ti)} {d : Nat} {ty : TypeId} {pos : String} {aft : Array Edge} {g : Option (Nat × Bool)}
theorem GL.append {S : Nat → Nat × Nat → Prop} {t e : TypeId} {i ie : Ti} {B : Nat} {x y : Operand} {v u : Value} {k m sz : Nat} {xs news : List Value} (hT : Tys P tt) (hw : want ops f g = some true) (hlt : Nat.blt d n.size = true) (hi : TT.get tt t = some i) (hdesc : i.desc = .slice e) (hie : TT.get tt e = some ie) (hs : Nat.beq ie.size sz = true) (hsz : Nat.blt 0 sz = true) (hzl : Nat.beq ie.zero.length sz = true)
    (hx : ev f x = some v) (hy : ev f y = some u) (hown : Own B w v k sz e xs) (hsrc : Go.Proofs.Ytefneilaongpbaa.RdF S w u m news) (hl : news.length = m * sz) (h1 : ∀ u ∈ news, u.oneCell' = true) (hbytes : (k + m) * ie.bytes ≤ 140737488355328) (h63 : k + m ≤ 140737488355328) (hB : B ≤ w.heap.size)
    (h : ∀ v' w', Own B w' v' (k + m) sz e (xs ++ news) → But (rowOf v) w w' → (rowOf v' = rowOf v ∨ rowOf v' = some w.heap.size ∧ Ext w w') → GL P n Q ops rest ((d, v') :: f) w') :
    GL P n Q ops (⟨some d, .call { callee := .builtin .append, args := #[x, y], argTypes := #[t, t] }, ty, pos, aft, g⟩ :: rest) f w := by
  obtain ⟨v', w', hr, h2, h3, h4⟩ := run_app (P := P) (ty := ty) hT hi hdesc hie (Nat.eq_of_beq_eq_true hs) (by simpa [Nat.blt_eq] using hsz) (Nat.eq_of_beq_eq_true hzl) hown hsrc hl h1 hbytes h63 hB
  exact GL.yields hw rfl hlt (fun a ha => by simp [execOp, resolve, ha.eval hx, ha.eval hy, invoke, builtin, hr]) (h v' w' h2 h3 h4)
end
end Go.Bd
namespace Go.Proofs.Ytefneilaongpbaa
open Go Go.Bd
theorem RdF.ofOwn {B : Nat} {w : World} {v : Value} {n sz : Nat} {T : TypeId} {cs : List Value} (h : Own B w v n sz T cs) : RdF (fun b fr => B ≤ b ∧ fr = (0, 0) ∧ rowOf v = some b) w v n cs := by
  obtain ⟨hl, h⟩ := h
  rcases h with ⟨rfl, p, rfl⟩ | ⟨g, cap, rest, rfl, hB, hn, hblk, hr⟩
  · obtain rfl : cs = [] := List.eq_nil_of_length_eq_zero (by omega)
    exact .nil _ _ _ _
  · refine ⟨_, cap, rfl, hn, ?_⟩
    cases cap with
    | zero => 
      obtain rfl : n = 0 := by omega
      exact .inl (List.eq_nil_of_length_eq_zero (by simpa using hl))
    | succ cap =>
      refine .inr ⟨g, 0, rfl, ?_⟩
      have := (hblk.at [] cs (q := rest) (o := 0) rfl rfl)
      exact this.imp fun b fr ⟨h1, h2⟩ => ⟨h1 ▸ hB, h2, by rw [h1]; rfl⟩
/-- Bytes, digests of one's own. -/
abbrev OwnB (B : Nat) (w : World) (v : Value) (bs : Bytes) : Prop := Own B w v bs.length 1 5 (bcells bs)
abbrev OwnD (B : Nat) (w : World) (v : Value) (ds : List Dig) : Prop := Own B w v ds.length 32 23 (dcells ds)
theorem Own.sep {B B' : Nat} {w : World} {v v' : Value} {n n' sz sz' : Nat} {T T' : TypeId} {cs cs' : List Value} (h : Own B w v n sz T cs) (h' : Own B' w v' n' sz' T' cs') (hne : Nat.beq T T' = false) : ∀ k, rowOf v = some k → rowOf v' ≠ some k := by
  intro k hk hk'
  rcases h.2 with ⟨rfl, p, rfl⟩ | ⟨g, cap, rest, rfl, hB, hn, hblk, hr⟩
  · simp [rowOf] at hk
  · rcases h'.2 with ⟨rfl, p, rfl⟩ | ⟨g', cap', rest', rfl, hB', hn', hblk', hr'⟩
    · simp [rowOf] at hk'
    · cases cap with
      | zero => simp [rowOf] at hk
      | succ c =>
        cases cap' with
        | zero => simp [rowOf] at hk'
        | succ c' =>
          simp [rowOf] at hk hk'
          subst hk
          subst hk'
          unfold Blk at hblk hblk'
          rw [hblk] at hblk'
          simp at hblk'
          exact Nat.ne_of_beq_eq_false hne hblk'.2
end Go.Proofs.Ytefneilaongpbaa
