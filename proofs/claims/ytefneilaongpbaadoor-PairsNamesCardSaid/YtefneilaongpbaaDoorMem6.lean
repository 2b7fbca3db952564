/-
  A slice of one's own that begins somewhere in its block: appending, cutting its front.
-/
import Derived.Test.YtefneilaongpbaaDoorCut
set_option linter.unusedVariables false
set_option linter.unusedSimpArgs false
set_option maxRecDepth 100000
namespace Go.Bd
open Go.RowKit Go.Proofs.YtefneilaongpbaaDoor
def OwnO (B : Nat) (w : World) (v : Value) (n sz : Nat) (T : TypeId) (cs : List Value) : Prop :=
  cs.length = n * sz ∧ ((n = 0 ∧ ∃ p, v = .slice p 0 0) ∨ ∃ g o cap pre rest, v = .slice (some ⟨g, o, none⟩) n cap ∧ B ≤ g ∧ n ≤ cap ∧ pre.length = o ∧ Blk w g T (pre ++ (cs ++ rest)) ∧ rest.length = (cap - n) * sz)
theorem Own.o {B : Nat} {w : World} {v : Value} {n sz : Nat} {T : TypeId} {cs : List Value} (h : Own B w v n sz T cs) : OwnO B w v n sz T cs := by
  obtain ⟨hl, h⟩ := h
  refine ⟨hl, h.imp id ?_⟩
  rintro ⟨g, cap, rest, rfl, hB, hn, hblk, hr⟩
  exact ⟨g, 0, cap, [], rest, rfl, hB, hn, rfl, hblk, hr⟩
section
variable {B : Nat} {w w' : World} {v : Value} {n sz : Nat} {T : TypeId} {cs : List Value}
theorem OwnO.shape (h : OwnO B w v n sz T cs) : ∃ p c, v = .slice p n c ∧ n ≤ c := by
  rcases h.2 with ⟨rfl, p, rfl⟩ | ⟨g, o, cap, pre, rest, rfl, _, hn, _⟩
  · exact ⟨_, _, rfl, Nat.le_refl _⟩
  · exact ⟨_, _, rfl, hn⟩
theorem OwnO.keep (h : OwnO B w v n sz T cs) (hk : ∀ g, B ≤ g → g < w.heap.size → w'.heap[g]? = w.heap[g]?) : OwnO B w' v n sz T cs := by
  obtain ⟨hl, h⟩ := h
  refine ⟨hl, h.imp id ?_⟩
  rintro ⟨g, o, cap, pre, rest, rfl, hB, hn, hp, hblk, hr⟩
  exact ⟨g, o, cap, pre, rest, rfl, hB, hn, hp, hblk.keep (hk g hB hblk.lt), hr⟩
theorem OwnO.ext (h : OwnO B w v n sz T cs) (he : Ext w w') : OwnO B w' v n sz T cs := h.keep fun g _ hl => he.block g hl
theorem OwnO.fresh (h : OwnO B w v n sz T cs) : RdF (fresh B) w v n cs := by
  obtain ⟨hl, h⟩ := h
  rcases h with ⟨rfl, p, rfl⟩ | ⟨g, o, cap, pre, rest, rfl, hB, hn, hp, hblk, hr⟩
  · obtain rfl : cs = [] := List.eq_nil_of_length_eq_zero (by omega)
    exact .nil _ _ _ _
  · refine ⟨_, cap, rfl, hn, .inr ⟨g, o, rfl, ?_⟩⟩
    exact (hblk.at pre cs (q := rest) rfl hp.symm).imp fun b fr h => ⟨h.1 ▸ hB, h.2⟩
/-- Without its first elements. -/
theorem OwnO.tail {p : Option Addr} {c k : Nat} (h : OwnO B w (.slice p n c) n 1 T cs) (hk : k ≤ n) : OwnO B w (.slice (cutP p k c 1) (n - k) (c - k)) (n - k) 1 T (cs.drop k) := by
  obtain ⟨hl, h⟩ := h
  refine ⟨by rw [List.length_drop]; omega, ?_⟩
  rcases h with ⟨rfl, q, hq⟩ | ⟨g, o, cap, pre, rest, hv, hB, hn, hp, hblk, hr⟩
  · cases hq
    exact .inl ⟨by omega, _, by simp; rfl⟩
  · cases hv
    by_cases hc : k = c
    · subst hc
      obtain rfl : n = k := by omega
      exact .inl ⟨by omega, _, by simp; rfl⟩
    · refine .inr ⟨g, o + k, c - k, pre ++ cs.take k, rest, ?_, hB, by omega, by simp; omega, ?_, by rw [hr]; congr 1; omega⟩
      · rw [cutP_some (by omega)]; simp
      · have : (pre ++ cs.take k) ++ (cs.drop k ++ rest) = pre ++ (cs ++ rest) := by
          rw [List.append_assoc, ← List.append_assoc (cs.take k), List.take_append_drop]
        rw [this]; exact hblk
end
section
variable {P : Program} {tt : List (Nat × Ti)}
theorem run_appO {S : Nat → Nat × Nat → Prop} {t ty e : TypeId} {i ie : Ti} {B : Nat} {w : World} {v x : Value} {n m sz : Nat} {xs news : List Value} (hT : Tys P tt) (hi : TT.get tt t = some i) (hdesc : i.desc = .slice e) (hie : TT.get tt e = some ie) (hs : ie.size = sz) (hsz : 0 < sz) (hzl : ie.zero.length = sz)
    (hown : OwnO B w v n sz e xs) (hsrc : RdF S w x m news) (hl : news.length = m * sz) (h1 : ∀ u ∈ news, u.oneCell' = true) (hm : 0 < m) (hbytes : (n + m) * ie.bytes ≤ 140737488355328) (h63 : n + m ≤ 140737488355328) (hB : B ≤ w.heap.size) :
    ∃ v' w', (Builtin.append_ #[t, t] ty #[v, x]).run P w = .ok v' w' ∧ OwnO B w' v' (n + m) sz e (xs ++ news) ∧ Below B w w' := by
  have hu : P.underlying t = some (.slice e) := by have := (hT.ok t i hi).desc; rw [hdesc] at this; exact this
  obtain ⟨ix, z, hix, hz, hzc, hxs, hxb⟩ := (hT.ok e ie hie).more
  obtain ⟨p, c, rfl, hmc, hsrc⟩ := hsrc
  have hxl : xs.length = n * sz := hown.1
  subst hs
  have hne : news ≠ [] := by
    intro h0
    rw [h0] at hl
    have : 0 < m * ie.size := Nat.mul_pos hm hsz
    simp at hl
    omega
  obtain ⟨b, o, rfl, hA⟩ := hsrc.resolve_left hne
  have hnews := run_loadCells_at hA
  have grown : ∀ (old : Nat), old < n + m →
      OwnO B (w.drew.alloc (.cells (xs.toArray ++ news.toArray ++ Builtin.zeroCells z.cells (grownCap w (n + m) old e - (n + m))) e)) (.slice (some ⟨w.heap.size, 0, none⟩) (n + m) (grownCap w (n + m) old e)) (n + m) ie.size e (xs ++ news) ∧
      Below B w (w.drew.alloc (.cells (xs.toArray ++ news.toArray ++ Builtin.zeroCells z.cells (grownCap w (n + m) old e - (n + m))) e)) := by
    intro old ho
    have hge := grownCap_ge w (n + m) old e
    refine ⟨⟨by rw [List.length_append, hxl, hl, Nat.add_mul], .inr ⟨w.heap.size, 0, _, [], (Builtin.zeroCells z.cells (grownCap w (n + m) old e - (n + m))).toList, rfl, hB, hge, rfl, ?_, ?_⟩⟩, ⟨rfl, rfl, rfl, by simp, fun k hk => heap_alloc_old w.drew _ (Nat.lt_of_lt_of_le hk hB)⟩⟩
    · have := heap_alloc_new w.drew (.cells (xs.toArray ++ news.toArray ++ Builtin.zeroCells z.cells (grownCap w (n + m) old e - (n + m))) e)
      have ea : xs.toArray ++ news.toArray ++ Builtin.zeroCells z.cells (grownCap w (n + m) old e - (n + m)) = ([] ++ ((xs ++ news) ++ (Builtin.zeroCells z.cells (grownCap w (n + m) old e - (n + m))).toList)).toArray := by
        apply Array.ext'
        simp
      rw [ea] at this ⊢
      exact this
    · have : (Builtin.zeroCells z.cells (grownCap w (n + m) old e - (n + m))).size = (grownCap w (n + m) old e - (n + m)) * ie.size := by rw [size_zeroCells, hzc]; simp [hzl]
      simpa using this
  have hb2 : (n + m) * ix.bytes ≤ 140737488355328 := by rw [hxb]; exact hbytes
  have hnl : news.length = m * ix.size := by rw [hxs]; exact hl
  have hgrow : ∀ (q : Option Addr) (old : Nat), (∀ a, q = some a → ∀ j u, xs[j]? = some u → w.cell? (a.add j) = some u) → (q = none → n = 0 ∧ old = 0) → old < n + m →
      (Builtin.append_ #[t, t] ty #[.slice q n old, .slice (some ⟨b, o, none⟩) m c]).run P w = .ok (.slice (some ⟨w.heap.size, 0, none⟩) (n + m) (grownCap w (n + m) old e)) (w.drew.alloc (.cells (xs.toArray ++ news.toArray ++ Builtin.zeroCells z.cells (grownCap w (n + m) old e - (n + m))) e)) := by
    intro q old hold hno ho
    cases q with
    | some a => exact run_append_grow (P := P) w t ty e ix z hu hix hz a n old xs (by rw [hxs]; exact hxl) (hold a rfl) _ m c news hnl hnews ho (by omega) (growslice_fits ho hb2)
    | none =>
      obtain ⟨rfl, rfl⟩ := hno rfl
      have hx0 : xs = [] := List.eq_nil_of_length_eq_zero (by simpa using hxl)
      subst hx0
      have := run_append_nil (P := P) w t ty e ix z hu hix hz ⟨b, o, none⟩ m c news hnl hnews (by omega) (by omega) (by simp only [Nat.zero_add] at hb2; omega)
      simp only [Nat.zero_add, Array.empty_append]
      simpa using this
  rcases hown.2 with ⟨rfl, q, rfl⟩ | ⟨g, og, cap, pre, rest, rfl, hBg, hn, hp, hblk, hr⟩
  · have hx0 : xs = [] := List.eq_nil_of_length_eq_zero (by simpa using hxl)
    obtain ⟨h2, h3⟩ := grown 0 (by omega)
    exact ⟨_, _, hgrow q 0 (fun a _ j u hj => by simp [hx0] at hj) (fun _ => ⟨rfl, rfl⟩) (by omega), h2, h3⟩
  · by_cases hroom : n + m ≤ cap
    · have hfit : og + n * ie.size + m * ie.size ≤ (pre ++ (xs ++ rest)).length := by
        have : n * ie.size + m * ie.size ≤ n * ie.size + (cap - n) * ie.size := by
          have := Nat.mul_le_mul_right ie.size (show m ≤ cap - n by omega)
          omega
        simp only [List.length_append, hp, hxl, hr]
        omega
      have hst := run_storeCells (P := P) news (og + n * ie.size) 0 g (pre ++ (xs ++ rest)) e (0, 0) w hblk (by rw [hl]; omega) h1 (by intro j _; simp)
      have hlc := run_loadCells_list (P := P) w ⟨b, o, none⟩ news hnews
      rw [hnl] at hlc
      have hsp : splice (pre ++ (xs ++ rest)) (og + n * ie.size) news = pre ++ ((xs ++ news) ++ rest.drop (m * ie.size)) := by
        have e1 : pre ++ (xs ++ rest) = (pre ++ xs) ++ rest := by simp
        have e2 : (pre ++ xs).length = og + n * ie.size := by simp [hp, hxl]
        unfold splice
        rw [e1, ← e2, List.take_left, ← List.drop_drop, List.drop_left, hl]
        simp
      refine ⟨.slice (some ⟨g, og, none⟩) (n + m) cap, World.put w g (og + n * ie.size) news, ?_, ⟨by rw [List.length_append, hxl, hl, Nat.add_mul], .inr ⟨g, og, cap, pre, rest.drop (m * ie.size), rfl, hBg, hroom, hp, ?_, ?_⟩⟩, (chg_put w g _ news).below hBg (Below.refl _ _)⟩
      · rw [hxs] at hlc
        have hst' := hst
        simp only [Nat.add_zero] at hst'
        simp [Builtin.append_, run_underlying hu, sizeOf, typeInfo, hix, Builtin.lenOf, Builtin.firstCells, hroom, hxs, hlc, add_addr, hst']
      · rw [← hsp]; exact blk_put hblk
      · rw [List.length_drop, hr, ← Nat.sub_mul]; congr 1; omega
    · obtain ⟨h2, h3⟩ := grown cap (by omega)
      refine ⟨_, _, hgrow _ cap (fun a ha j u hj => ?_) (by simp) (by omega), h2, h3⟩
      cases ha
      have := hblk.at pre xs (q := rest) rfl hp.symm
      exact run_loadCells_at this j u hj
end
section
variable {P : Program} {n : Sz} {Q : Act → World → Prop} {f : Fr} {w : World} {ops : Array Oper} {rest : List Oper} {tt : List (Nat × Ti)} {d : Nat} {ty : TypeId} {pos : String} {aft : Array Edge} {g : Option (Nat × Bool)}
theorem GL.appendO {S : Nat → Nat × Nat → Prop} {t e : TypeId} {i ie : Ti} {B : Nat} {x y : Operand} {v u : Value} {k m sz : Nat} {xs news : List Value} (hT : Tys P tt) (hw : want ops f g = some true) (hlt : Nat.blt d n.size = true) (hi : TT.get tt t = some i) (hdesc : i.desc = .slice e) (hie : TT.get tt e = some ie) (hs : Nat.beq ie.size sz = true) (hsz : Nat.blt 0 sz = true) (hzl : Nat.beq ie.zero.length sz = true)
    (hx : ev f x = some v) (hy : ev f y = some u) (hown : OwnO B w v k sz e xs) (hsrc : RdF S w u m news) (hl : news.length = m * sz) (h1 : ∀ u ∈ news, u.oneCell' = true) (hm : 0 < m) (hbytes : (k + m) * ie.bytes ≤ 140737488355328) (h63 : k + m ≤ 140737488355328) (hB : B ≤ w.heap.size)
    (h : ∀ v' w', OwnO B w' v' (k + m) sz e (xs ++ news) → Below B w w' → GL P n Q ops rest ((d, v') :: f) w') :
    GL P n Q ops (⟨some d, .call { callee := .builtin .append, args := #[x, y], argTypes := #[t, t] }, ty, pos, aft, g⟩ :: rest) f w := by
  obtain ⟨v', w', hr, h2, h3⟩ := run_appO (P := P) (ty := ty) hT hi hdesc hie (Nat.eq_of_beq_eq_true hs) (by simpa [Nat.blt_eq] using hsz) (Nat.eq_of_beq_eq_true hzl) hown hsrc hl h1 hm hbytes h63 hB
  exact GL.yields hw rfl hlt (fun a ha => by simp [execOp, resolve, ha.eval hx, ha.eval hy, invoke, builtin, hr]) (h v' w' h2 h3)
end
end Go.Bd
