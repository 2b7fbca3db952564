/-
  copy, clear, append of zeros.
-/
import Derived.Test.YtefneilaongpbaaDoorMem
import Derived.Lib.AppendZerosOnto
import Derived.Lib.Overlaps
set_option linter.unusedVariables false
set_option linter.unusedSimpArgs false
set_option maxRecDepth 100000
namespace Go.Bd
open Go.RowKit
section
variable {P : Program} {n : Sz} {Q : Act → World → Prop} {f : Fr} {w : World} {ops : Array Oper} {rest : List Oper} {tt : List (Nat × Ti)} {d : Nat} {ty : TypeId} {pos : String} {aft : Array Edge} {g : Option (Nat × Bool)}
theorem run_firstCells {S : Nat → Nat × Nat → Prop} {v : Value} {m K sz : Nat} {cs : List Value} (h : Go.Proofs.YtefneilaongpbaaDoor.RdF S w v m cs) (hl : cs.length = m * sz) (hK : K ≤ m) (hsz : 0 < sz) : (Builtin.firstCells sz K v).run P w = .ok (cs.take (K * sz)).toArray w := by
  obtain ⟨p, c, rfl, hmc, hs⟩ := h
  have h0 : ∀ a : Addr, (loadCells a 0).run P w = .ok #[] w := fun a => by
    have := run_loadCells_list (P := P) w a [] (by simp)
    simpa using this
  rcases hs with rfl | ⟨b, o, rfl, hA⟩
  · have hm : m = 0 := by
      rcases Nat.eq_zero_or_pos m with h | h
      · exact h
      · have := Nat.mul_pos h hsz
        simp at hl
        omega
    subst hm
    obtain rfl : K = 0 := by omega
    cases p <;> simp [Builtin.firstCells, h0]
  · have hle : K * sz ≤ cs.length := by rw [hl]; exact Nat.mul_le_mul_right _ hK
    have := run_loadCells_list (P := P) w ⟨b, o, none⟩ (cs.take (K * sz)) (fun j v hj => by
      rw [List.getElem?_take] at hj
      split at hj
      · exact run_loadCells_at hA j v hj
      · cases hj)
    rw [List.length_take, Nat.min_eq_left hle] at this
    simpa [Builtin.firstCells] using this
theorem run_copyop {S : Nat → Nat × Nat → Prop} {t t' e T : TypeId} {i ie : Ti} {b o dl dc m sz : Nat} {c cs : List Value} {u : Value} (hT : Tys P tt) (hi : TT.get tt t = some i) (hdesc : i.desc = .slice e) (hie : TT.get tt e = some ie) (hs : ie.size = sz) (hsz : 0 < sz)
    (hB : Blk w b T c) (hsrc : Go.Proofs.YtefneilaongpbaaDoor.RdF S w u m cs) (hl : cs.length = m * sz) (h1 : ∀ q ∈ cs.take (min m dl * sz), q.oneCell' = true) (hfit : o + min m dl * sz ≤ c.length) :
    (Builtin.copy_ #[t, t'] ty #[.slice (some ⟨b, o, none⟩) dl dc, u]).run P w = .ok (iv (min m dl : Nat)) (World.put w b o (cs.take (min m dl * sz))) := by
  have hu : P.underlying t = some (.slice e) := by have := (hT.ok t i hi).desc; rw [hdesc] at this; exact this
  have hso := (hT.ok e ie hie).run_sizeOf w
  rw [hs] at hso
  have hK : min m dl ≤ m := Nat.min_le_left _ _
  have hf := run_firstCells (P := P) hsrc hl hK hsz
  have hle : min m dl * sz ≤ cs.length := by rw [hl]; exact Nat.mul_le_mul_right _ hK
  have hst := run_storeCells (P := P) (cs.take (min m dl * sz)) o 0 b c T (0, 0) w hB (by rw [List.length_take, Nat.min_eq_left hle]; omega) h1 (by intro j _; simp)
  have hlen : (Builtin.lenOf u).run P w = .ok m w := by
    obtain ⟨p, c', rfl, _⟩ := hsrc
    simp [Builtin.lenOf]
  have hmin : Nat.min m dl = min m dl := rfl
  simp only [Nat.add_zero] at hst
  simp [Builtin.copy_, run_underlying hu, hso, hlen, hf, hmin, hst, goInt]
theorem GL.copy {S : Nat → Nat × Nat → Prop} {t t' e T : TypeId} {i ie : Ti} {x y : Operand} {b o dl dc m : Nat} (sz : Nat) {c cs : List Value} {u : Value} (hT : Tys P tt) (hw : want ops f g = some true) (hlt : Nat.blt d n.size = true) (hi : TT.get tt t = some i) (hdesc : i.desc = .slice e) (hie : TT.get tt e = some ie) (hs : ie.size = sz) (hsz : Nat.blt 0 sz = true)
    (hx : ev f x = some (.slice (some ⟨b, o, none⟩) dl dc)) (hy : ev f y = some u) (hB : Blk w b T c) (hsrc : Go.Proofs.YtefneilaongpbaaDoor.RdF S w u m cs) (hl : cs.length = m * sz) (h1 : ∀ q ∈ cs.take (Min.min m dl * sz), q.oneCell' = true) (hfit : o + Min.min m dl * sz ≤ c.length)
    (h : ∀ w', Chg b w w' → Blk w' b T (splice c o (cs.take (Min.min m dl * sz))) → GL P n Q ops rest ((d, iv (Min.min m dl : Nat)) :: f) w') : GL P n Q ops (⟨some d, .call { callee := .builtin .copy, args := #[x, y], argTypes := #[t, t'] }, ty, pos, aft, g⟩ :: rest) f w := by
  have hsz' : 0 < sz := by simpa [Nat.blt_eq] using hsz
  exact GL.yields hw rfl hlt (fun a ha => by simp [execOp, resolve, ha.eval hx, ha.eval hy, invoke, builtin, run_copyop hT hi hdesc hie hs hsz' hB hsrc hl h1 hfit]) (h _ (chg_put _ _ _ _) (blk_put hB))
theorem GL.yields0 {o : Oper} {v : Value} {w' : World} (hw : want ops f o.guard = some true) (hd : o.dst = none)
    (hr : ∀ a, St n f a → (execOp a.eval o).run P w = .ok (.value v) w') (h : GL P n Q ops rest f w') : GL P n Q ops (o :: rest) f w := fun a ha => by
  unfold wpX
  rw [if_pos (wanted_of ha hw)]
  unfold opX
  rw [hr a ha, hd]
  exact h _ (by simpa [Act.put] using ha)
/-- clear: of elements, or of none. -/
theorem GL.clear {t e T : TypeId} {i ie : Ti} {x : Operand} {b o m dc : Nat} (sz : Nat) {c : List Value} (hT : Tys P tt) (hw : want ops f g = some true) (hi : TT.get tt t = some i) (hdesc : i.desc = .slice e) (hie : TT.get tt e = some ie) (hs : ie.size = sz) (hsz : Nat.blt 0 sz = true) (hzl : Nat.beq ie.zero.length sz = true) (hz1 : ie.zero.all (fun q => q.oneCell') = true)
    (hx : ev f x = some (.slice (some ⟨b, o, none⟩) m dc)) (hB : Blk w b T c) (hfit : o + m * sz ≤ c.length)
    (h : ∀ w' zs, zs.length = m * sz → Chg b w w' → Blk w' b T (splice c o zs) → GL P n Q ops rest f w') : GL P n Q ops (⟨none, .call { callee := .builtin .clear, args := #[x], argTypes := #[t] }, ty, pos, aft, g⟩ :: rest) f w := by
  have hu : P.underlying t = some (.slice e) := by have := (hT.ok t i hi).desc; rw [hdesc] at this; exact this
  obtain ⟨z, hz, hzc⟩ := (hT.ok e ie hie).run_zero w
  have hzl' : ie.zero.length = sz := Nat.eq_of_beq_eq_true hzl
  have hzs : (Builtin.zeroCells z.cells m).size = m * sz := by rw [size_zeroCells, hzc]; simp [hzl']
  have hsz' : 0 < sz := by simpa [Nat.blt_eq] using hsz
  have hz1' : ∀ q ∈ (Builtin.zeroCells z.cells m).toList, q.oneCell' = true := by
    intro q hq
    simp only [Builtin.zeroCells, Array.toList_map, List.mem_map] at hq
    obtain ⟨k, _, rfl⟩ := hq
    rw [hzc]
    have hk : k % ie.zero.toArray.size < ie.zero.toArray.size := Nat.mod_lt _ (by simp [hzl']; exact hsz')
    rw [getElem!_pos ie.zero.toArray _ hk]
    exact List.all_eq_true.1 hz1 _ (by simp)
  have hst := run_storeCells (P := P) (Builtin.zeroCells z.cells m).toList o 0 b c T (0, 0) w hB (by rw [Array.length_toList, hzs]; omega) hz1' (by intro j _; simp)
  simp only [Nat.add_zero] at hst
  refine GL.yields0 (v := .tuple #[]) hw rfl (w' := World.put w b o (Builtin.zeroCells z.cells m).toList) (fun a ha => ?_) (h _ (Builtin.zeroCells z.cells m).toList (by simpa using hzs) (chg_put _ _ _ _) (blk_put hB))
  cases m with
  | zero =>
    have : (Builtin.zeroCells z.cells 0).toList = [] := List.eq_nil_of_length_eq_zero (by simp [size_zeroCells])
    rw [this] at hst ⊢
    simp [storeCells] at hst
    simp [execOp, resolve, ha.eval hx, invoke, builtin, Builtin.clear_, run_underlying hu, ← hst]
  | succ m =>
    simp [execOp, resolve, ha.eval hx, invoke, builtin, Builtin.clear_, run_underlying hu, hz, hst]
/-- append of zeros where there is no room. -/
theorem run_appz {t tn e : TypeId} {i ie : Ti} {B : Nat} {m k cap sz : Nat} {xs : List Value} {kn : IntKind} {q : Option Addr} (hT : Tys P tt) (hi : TT.get tt t = some i) (hdesc : i.desc = .slice e) (hie : TT.get tt e = some ie) (htn : P.underlying tn = some (.int kn)) (hs : ie.size = sz) (hsz : 0 < sz) (hzl : ie.zero.length = sz)
    (hsrc : Go.Proofs.YtefneilaongpbaaDoor.RdF any w (.slice q m cap) m xs) (hl : xs.length = m * sz) (hk : 0 < k) (hg : cap < m + k) (hbytes : (m + k) * ie.bytes ≤ 140737488355328) (h63 : m + k ≤ 140737488355328) (hB : B ≤ w.heap.size) :
    ∃ v' w' zs, (Builtin.append_ #[t, tn] ty #[.slice q m cap, iv k]).run P w = .ok v' w' ∧ zs.length = k * sz ∧ Own B w' v' (m + k) sz e (xs ++ zs) ∧ Ext w w' ∧ rowOf v' = some w.heap.size := by
  have hu : P.underlying t = some (.slice e) := by have := (hT.ok t i hi).desc; rw [hdesc] at this; exact this
  obtain ⟨ix, z, hix, hz, hzc, hxs, hxb⟩ := (hT.ok e ie hie).more
  subst hs
  have hold := run_firstCells (P := P) (w := w.drew) (K := m) (hsrc.keep (w' := w.drew) fun _ _ _ => rfl) hl (Nat.le_refl _) hsz
  rw [List.take_of_length_le (by omega), ← hxs] at hold
  have hb2 : (m + k) * ix.bytes ≤ 140737488355328 := by rw [hxb]; exact hbytes
  have hkb : k * ix.bytes ≤ 140737488355328 := Nat.le_trans (Nat.mul_le_mul_right _ (by omega)) hb2
  have hrun := Lib.run_append_grow_zeros (P := P) w t tn ty e ix z .i64 kn hu htn hix hz q m cap xs hold k hk (by rw [hxs]; exact hsz) hg (by omega) (by omega) (growslice_fits hg hb2)
  have hge := grownCap_ge w (m + k) cap e
  have z1 : (Builtin.zeroCells z.cells k).size = k * ie.size := by rw [size_zeroCells, hzc]; simp [hzl]
  have z2 : (Builtin.zeroCells z.cells (grownCap w (m + k) cap e - (m + k))).size = (grownCap w (m + k) cap e - (m + k)) * ie.size := by rw [size_zeroCells, hzc]; simp [hzl]
  refine ⟨_, _, (Builtin.zeroCells z.cells k).toList, hrun, by simpa using z1, ⟨by rw [List.length_append, hl, Array.length_toList, z1, Nat.add_mul], .inr ⟨w.heap.size, _, (Builtin.zeroCells z.cells (grownCap w (m + k) cap e - (m + k))).toList, rfl, hB, hge, ?_, by simpa using z2⟩⟩, ⟨rfl, rfl, rfl, by simp, fun j hj => heap_alloc_old w.drew _ hj⟩, ?_⟩
  · have := heap_alloc_new w.drew (.cells (xs.toArray ++ Builtin.zeroCells z.cells k ++ Builtin.zeroCells z.cells (grownCap w (m + k) cap e - (m + k))) e)
    have ea : xs.toArray ++ Builtin.zeroCells z.cells k ++ Builtin.zeroCells z.cells (grownCap w (m + k) cap e - (m + k)) = ((xs ++ (Builtin.zeroCells z.cells k).toList) ++ (Builtin.zeroCells z.cells (grownCap w (m + k) cap e - (m + k))).toList).toArray := by
      apply Array.ext'
      simp
    rw [ea] at this ⊢
    exact this
  · cases hgc : grownCap w (m + k) cap e with
    | zero => omega
    | succ q => rfl
theorem GL.appendZ {t tn e : TypeId} {i ie : Ti} {B : Nat} {x y : Operand} {m cap : Nat} {A : Int} (k sz : Nat) {xs : List Value} {kn : IntKind} {q : Option Addr} (hT : Tys P tt) (hw : want ops f g = some true) (hlt : Nat.blt d n.size = true) (hi : TT.get tt t = some i) (hdesc : i.desc = .slice e) (hie : TT.get tt e = some ie) (htn : P.underlying tn = some (.int kn)) (hs : Nat.beq ie.size sz = true) (hsz : Nat.blt 0 sz = true) (hzl : Nat.beq ie.zero.length sz = true)
    (hx : ev f x = some (.slice q m cap)) (hy : ev f y = some (iv A)) (hA : A = (k : Nat)) (hsrc : Go.Proofs.YtefneilaongpbaaDoor.RdF any w (.slice q m cap) m xs) (hl : xs.length = m * sz) (hk : 0 < k) (hg : cap < m + k) (hbytes : (m + k) * ie.bytes ≤ 140737488355328) (h63 : m + k ≤ 140737488355328) (hB : B ≤ w.heap.size)
    (h : ∀ v' w' zs, zs.length = k * sz → Own B w' v' (m + k) sz e (xs ++ zs) → Ext w w' → rowOf v' = some w.heap.size → GL P n Q ops rest ((d, v') :: f) w') :
    GL P n Q ops (⟨some d, .call { callee := .builtin .append, args := #[x, y], argTypes := #[t, tn] }, ty, pos, aft, g⟩ :: rest) f w := by
  subst hA
  have hsz' : 0 < sz := by simpa [Nat.blt_eq] using hsz
  obtain ⟨v', w', zs, hr, h1, h2, h3, h4⟩ := run_appz (P := P) (ty := ty) (B := B) hT hi hdesc hie htn (Nat.eq_of_beq_eq_true hs) hsz' (Nat.eq_of_beq_eq_true hzl) hsrc hl hk hg hbytes h63 hB
  exact GL.yields hw rfl hlt (fun a ha => by simp [execOp, resolve, ha.eval hx, ha.eval hy, invoke, builtin, hr]) (h v' w' zs h1 h2 h3 h4)
/-- append where there is room. -/
theorem run_appin {S : Nat → Nat × Nat → Prop} {t e T : TypeId} {i ie : Ti} {b k cap m sz : Nat} {c cs : List Value} {u : Value} (hT : Tys P tt) (hi : TT.get tt t = some i) (hdesc : i.desc = .slice e) (hie : TT.get tt e = some ie) (hs : ie.size = sz) (hsz : 0 < sz)
    (hB : Blk w b T c) (hcl : c.length = cap * sz) (hsrc : Go.Proofs.YtefneilaongpbaaDoor.RdF S w u m cs) (hl : cs.length = m * sz) (h1 : ∀ q ∈ cs, q.oneCell' = true) (hroom : k + m ≤ cap) :
    (Builtin.append_ #[t, t] ty #[.slice (some ⟨b, 0, none⟩) k cap, u]).run P w = .ok (.slice (some ⟨b, 0, none⟩) (k + m) cap) (World.put w b (k * sz) cs) := by
  have hu : P.underlying t = some (.slice e) := by have := (hT.ok t i hi).desc; rw [hdesc] at this; exact this
  have hso := (hT.ok e ie hie).run_sizeOf w
  rw [hs] at hso
  have hf := run_firstCells (P := P) hsrc hl (Nat.le_refl m) hsz
  rw [List.take_of_length_le (by omega)] at hf
  have hle : k * sz + m * sz ≤ cap * sz := by rw [← Nat.add_mul]; exact Nat.mul_le_mul_right _ hroom
  have hst := run_storeCells (P := P) cs (k * sz) 0 b c T (0, 0) w hB (by omega) h1 (by intro j _; simp)
  have hlen : (Builtin.lenOf u).run P w = .ok m w := by
    obtain ⟨p, c', rfl, _⟩ := hsrc
    simp [Builtin.lenOf]
  have hty : ∀ (A B : Sem Value), (match (TypeDesc.slice e : TypeDesc) with | .int _ => A | _ => B) = B := fun _ _ => rfl
  simp only [Nat.add_zero] at hst
  obtain ⟨p, c', rfl, _⟩ := id hsrc
  simp [Builtin.append_, run_underlying hu, hso, hlen, hf, hroom, add_addr, hst]
theorem GL.appendIn {S : Nat → Nat × Nat → Prop} {t e T : TypeId} {i ie : Ti} {x y : Operand} {b k cap m : Nat} (sz : Nat) {c cs : List Value} {u : Value} (hT : Tys P tt) (hw : want ops f g = some true) (hlt : Nat.blt d n.size = true) (hi : TT.get tt t = some i) (hdesc : i.desc = .slice e) (hie : TT.get tt e = some ie) (hs : ie.size = sz) (hsz : Nat.blt 0 sz = true)
    (hx : ev f x = some (.slice (some ⟨b, 0, none⟩) k cap)) (hy : ev f y = some u) (hB : Blk w b T c) (hcl : c.length = cap * sz) (hsrc : Go.Proofs.YtefneilaongpbaaDoor.RdF S w u m cs) (hl : cs.length = m * sz) (h1 : ∀ q ∈ cs, q.oneCell' = true) (hroom : k + m ≤ cap)
    (h : ∀ w', Chg b w w' → Blk w' b T (splice c (k * sz) cs) → GL P n Q ops rest ((d, .slice (some ⟨b, 0, none⟩) (k + m) cap) :: f) w') : GL P n Q ops (⟨some d, .call { callee := .builtin .append, args := #[x, y], argTypes := #[t, t] }, ty, pos, aft, g⟩ :: rest) f w :=
  GL.yields hw rfl hlt (fun a ha => by simp [execOp, resolve, ha.eval hx, ha.eval hy, invoke, builtin, run_appin hT hi hdesc hie hs (by simpa [Nat.blt_eq] using hsz) hB hcl hsrc hl h1 hroom]) (h _ (chg_put _ _ _ _) (blk_put hB))
/-- slices.overlaps of a block of one's own and another one. -/
theorem GL.overlaps {gf : FuncId} {fn : Func} {args : Array Operand} {tys : Array TypeId} {t e tr : TypeId} {i ie : Ti} {b b' o la ca lb cb : Nat} {T T' : TypeId} {cs cs' : List Value} (hT : Tys P tt) (hw : want ops f g = some true) (hlt : Nat.blt d n.size = true) (hi : TT.get tt t = some i) (hdesc : i.desc = .slice e) (hie : TT.get tt e = some ie)
    (hf : P.funcs[gf]? = some fn) (hname : (fn.name == "runtime.NumGoroutine") = false) (hb : fn.body.isNone = true) (hn : Extern.findNext fn = none) (he : Extern.find fn = some (Extern.SlicesOverlaps.overlaps #[t, t] #[tr]))
    (hxs : evs f args.toList = some [.slice (some ⟨b, 0, none⟩) la ca, .slice (some ⟨b', o, none⟩) lb cb]) (hB : Blk w b T cs) (hB' : Blk w b' T' cs') (hne : b ≠ b') (hpos : 0 < cs'.length)
    (h : GL P n Q ops rest ((d, .bool false) :: f) w) : GL P n Q ops (⟨some d, .call { callee := .value (.func gf), args := args, argTypes := tys }, ty, pos, aft, g⟩ :: rest) f w := by
  have hu : P.underlying t = some (.slice e) := by have := (hT.ok t i hi).desc; rw [hdesc] at this; exact this
  have hz := fun w => (hT.ok e ie hie).run_sizeOf w
  have hB1 : w.heap[b]? = some (.cells cs.toArray T (0, 0)) := hB
  have hB2 : w.heap[b']? = some (.cells cs'.toArray T' (0, 0)) := hB'
  have hr := Lib.run_overlaps_apart (P := P) w t tr e hu ie.size hz ⟨b, 0, none⟩ ⟨b', o, none⟩ la ca lb cb hne T T' cs.length cs'.length (by simp [World.shape?, hB1]) (by simp [World.shape?, hB2]) (by omega) (by simp [World.frozen?, hB1]) (by simp [World.frozen?, hB1])
  refine GL.yields hw rfl hlt (fun a ha => ?_) h
  have hargs : args.map a.eval = #[.slice (some ⟨b, 0, none⟩) la ca, .slice (some ⟨b', o, none⟩) lb cb] := by
    apply Array.ext'
    simp only [Array.toList_map]
    exact evs_map ha _ _ hxs
  have hx2 := run_callFunc_extern (P := P) hf hname hb hn he #[.slice (some ⟨b, 0, none⟩) la ca, .slice (some ⟨b', o, none⟩) lb cb] w
  rw [hr] at hx2
  simp [execOp, resolve, Act.eval, Deferred.ofValue, hargs, invoke, hx2, Result.andThen]
end
end Go.Bd
