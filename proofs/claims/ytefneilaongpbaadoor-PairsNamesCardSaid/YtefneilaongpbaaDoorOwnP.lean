import Derived.Test.YtefneilaongpbaaDoorDraws
import Derived.Test.YtefneilaongpbaaDoorEq
import Derived.Test.YtefneilaongpbaaDoorPrf1
import Derived.Test.YtefneilaongpbaaDoorPrf
/-
  THE LAWS OF OPERATIONS THAT LEAVE THE WORLD ALONE, for walks by drawS (printed by gens.py out of Quiet, Mem3, Eq).
-/
set_option linter.unusedVariables false
set_option linter.unusedSimpArgs false
set_option maxRecDepth 100000
namespace Go.Bd
open Go Go.RowKit
section
variable {P : Program} {n : Sz} {Q : Act → World → Prop} {f : Fr} {w : World} {ops : Array Oper} {rest : List (Oper × Bool)} {tt : List (Nat × Ti)}
variable {d : Nat} {ty : TypeId} {pos : String} {aft : Array Edge} {g : Option (Nat × Bool)}
theorem GS.yields {d : Nat} {o : Oper} {v : Value} (hw : want ops f o.guard = some true) (hd : o.dst = some d) (hlt : Nat.blt d n.size = true)
    (hr : ∀ w', Ext w w' → ∀ a, St n f a → (execOp a.eval o).run P w' = .ok (.value v) w') (h : GS P n Q ops rest ((d, v) :: f) w) : GS P n Q ops ((o, false) :: rest) f w := fun a ha => by
  unfold wpS
  rw [if_pos (wanted_of ha hw)]
  refine ⟨v, fun w' he => ?_, ?_⟩
  · unfold opX
    rw [hr w' he a ha]
    exact ⟨rfl, Ext.refl _⟩
  · rw [hd]
    exact h _ (ha.put hlt _)
theorem GS.pass {d : Nat} {o : Oper} {b : Bool} (hw : want ops f o.guard = some false) (hd : o.dst = some d) (hlt : Nat.blt d n.size = true)
    (h : GS P n Q ops rest ((d, undef) :: f) w) : GS P n Q ops ((o, b) :: rest) f w := fun a ha => by
  unfold wpS
  rw [if_neg (by rw [wanted_of ha hw]; simp), hd]
  exact h _ (ha.put hlt _)
/-- An operation that makes memory. -/
theorem GS.op {o : Oper} (hw : want ops f o.guard = some true) (h : ∀ w', Ext w w' → GL P n (fun a w'' => Ext w' w'' ∧ wpS P ops Q rest a w'') ops [o] f w') : GS P n Q ops ((o, true) :: rest) f w := fun a ha => by
  unfold wpS
  rw [if_pos (wanted_of ha hw)]
  intro w' he
  have h1 := h w' he a ha
  unfold wpX at h1
  rw [if_pos (wanted_of ha hw)] at h1
  exact upx_mono (fun v w'' h2 => h2) h1
theorem GS.done {w' : World} (he : Ext w' w) (h : GS P n Q ops rest f w) : GL P n (fun a w'' => Ext w' w'' ∧ wpS P ops Q rest a w'') ops [] f w := fun a ha => ⟨he, h a ha⟩
theorem GS.tail {r : List Oper} {Q' : Act → World → Prop} (h : ∀ w', Ext w w' → GL P n Q' ops r f w') : GS P n (fun a w' => wpX P ops Q' r a w') ops [] f w := fun a ha w' he => h w' he a ha
theorem GS.call {gf : FuncId} {args : Array Operand} {tys : Array TypeId} {vs : List Value} {v : Value} (hw : want ops f g = some true) (hlt : Nat.blt d n.size = true) (hxs : evs f args.toList = some vs)
    (hc : ∀ w', Ext w w' → Does P gf vs.toArray w' fun u w'' => u = v ∧ Ext w' w'')
    (h : GS P n Q ops rest ((d, v) :: f) w) : GS P n Q ops ((⟨some d, .call { callee := .value (.func gf), args := args, argTypes := tys }, ty, pos, aft, g⟩, false) :: rest) f w := fun a ha => by
  unfold wpS
  rw [if_pos (wanted_of ha hw)]
  refine ⟨v, fun w' he => ?_, h _ (ha.put hlt _)⟩
  obtain ⟨⟨fn', hen⟩, hcalls⟩ := hc w' he
  have e1 : args.map a.eval = vs.toArray := by
    apply Array.ext'
    simp only [Array.toList_map]
    exact evs_map ha _ _ hxs
  have hrun : (execOp a.eval ⟨some d, .call { callee := .value (.func gf), args := args, argTypes := tys }, ty, pos, aft, g⟩).run P w' = .ok (.enter gf vs.toArray) w' := by
    simp [execOp, resolve, Act.eval, Deferred.ofValue, e1, invoke, run_callFunc hen]
  unfold opX
  rw [hrun]
  exact hcalls.mono fun e w'' hR => hR

theorem GS.pure {o : Oper} {v : Value} (hw : want ops f o.guard = some true) (hd : o.dst = some d) (hlt : Nat.blt d n.size = true) (hv : pureOp f o.op = some v)
    (h : GS P n Q ops rest ((d, v) :: f) w) : GS P n Q ops ((o, false) :: rest) f w := GS.yields hw hd hlt (fun w _ => run_pure hv w) h
theorem GS.cmp_t {op : BinOp} {t t' : TypeId} {x y : Operand} {K : IntKind} {A B : Int} (hw : want ops f g = some true) (hlt : Nat.blt d n.size = true) (ho : isCmp op = true) (hx : ev f x = some (.int K A)) (hy : ev f y = some (.int K B)) (hc : cmpP op A B)
    (h : GS P n Q ops rest ((d, .bool true) :: f) w) : GS P n Q ops ((⟨some d, .binOp op t x y t', ty, pos, aft, g⟩, false) :: rest) f w :=
  GS.yields hw rfl hlt (fun w _ => run_cmp ho hx hy true ⟨fun _ => rfl, fun _ => hc⟩ w) h
theorem GS.cmp_f {op : BinOp} {t t' : TypeId} {x y : Operand} {K : IntKind} {A B : Int} (hw : want ops f g = some true) (hlt : Nat.blt d n.size = true) (ho : isCmp op = true) (hx : ev f x = some (.int K A)) (hy : ev f y = some (.int K B)) (hc : ¬ cmpP op A B)
    (h : GS P n Q ops rest ((d, .bool false) :: f) w) : GS P n Q ops ((⟨some d, .binOp op t x y t', ty, pos, aft, g⟩, false) :: rest) f w :=
  GS.yields hw rfl hlt (fun w _ => run_cmp ho hx hy false ⟨fun h => (hc h).elim, fun h => by cases h⟩ w) h
theorem GS.cmp {op : BinOp} {t t' : TypeId} {x y : Operand} {K : IntKind} {A B : Int} (hw : want ops f g = some true) (hlt : Nat.blt d n.size = true) (ho : isCmp op = true) (hx : ev f x = some (.int K A)) (hy : ev f y = some (.int K B))
    (ht : cmpP op A B → GS P n Q ops rest ((d, .bool true) :: f) w) (hf : ¬ cmpP op A B → GS P n Q ops rest ((d, .bool false) :: f) w) : GS P n Q ops ((⟨some d, .binOp op t x y t', ty, pos, aft, g⟩, false) :: rest) f w := by
  by_cases hc : cmpP op A B
  · exact GS.cmp_t hw hlt ho hx hy hc (ht hc)
  · exact GS.cmp_f hw hlt ho hx hy hc (hf hc)
theorem GS.add_i64 {t t' : TypeId} {x y : Operand} {A B : Int} (hw : want ops f g = some true) (hlt : Nat.blt d n.size = true) (hx : ev f x = some (iv A)) (hy : ev f y = some (iv B)) (h1 : -9223372036854775808 ≤ A + B) (h2 : A + B ≤ 9223372036854775807)
    (h : GS P n Q ops rest ((d, iv (A + B)) :: f) w) : GS P n Q ops ((⟨some d, .binOp .add t x y t', ty, pos, aft, g⟩, false) :: rest) f w :=
  GS.yields hw rfl hlt (fun w he a ha => by simp [execOp, ha.eval hx, ha.eval hy, eqGuard, binOp, Op.intArith, wrap_i64 h1 h2]) h
theorem GS.sub_i64 {t t' : TypeId} {x y : Operand} {A B : Int} (hw : want ops f g = some true) (hlt : Nat.blt d n.size = true) (hx : ev f x = some (iv A)) (hy : ev f y = some (iv B)) (h1 : -9223372036854775808 ≤ A - B) (h2 : A - B ≤ 9223372036854775807)
    (h : GS P n Q ops rest ((d, iv (A - B)) :: f) w) : GS P n Q ops ((⟨some d, .binOp .sub t x y t', ty, pos, aft, g⟩, false) :: rest) f w :=
  GS.yields hw rfl hlt (fun w he a ha => by simp [execOp, ha.eval hx, ha.eval hy, eqGuard, binOp, Op.intArith, wrap_i64 h1 h2]) h
theorem GS.mul_i64 {t t' : TypeId} {x y : Operand} {A B : Int} (hw : want ops f g = some true) (hlt : Nat.blt d n.size = true) (hx : ev f x = some (iv A)) (hy : ev f y = some (iv B)) (h1 : -9223372036854775808 ≤ A * B) (h2 : A * B ≤ 9223372036854775807)
    (h : GS P n Q ops rest ((d, iv (A * B)) :: f) w) : GS P n Q ops ((⟨some d, .binOp .mul t x y t', ty, pos, aft, g⟩, false) :: rest) f w :=
  GS.yields hw rfl hlt (fun w he a ha => by simp [execOp, ha.eval hx, ha.eval hy, eqGuard, binOp, Op.intArith, wrap_i64 h1 h2]) h
theorem GS.quo_i64 {t t' : TypeId} {x y : Operand} {A B : Int} (hw : want ops f g = some true) (hlt : Nat.blt d n.size = true) (hx : ev f x = some (iv A)) (hy : ev f y = some (iv B)) (h1 : 0 ≤ A) (h2 : A ≤ 9223372036854775807) (h3 : 0 < B)
    (h : GS P n Q ops rest ((d, iv (A / B)) :: f) w) : GS P n Q ops ((⟨some d, .binOp .quo t x y t', ty, pos, aft, g⟩, false) :: rest) f w :=
  GS.yields hw rfl hlt (fun w he a ha => by
    have e : A.tdiv B = A / B := Int.tdiv_eq_ediv_of_nonneg h1
    have h4 : A / B ≤ A := Int.ediv_le_self _ h1
    have h5 : 0 ≤ A / B := Int.ediv_nonneg h1 (by omega)
    simp [execOp, ha.eval hx, ha.eval hy, eqGuard, binOp, Op.intDiv, show B ≠ 0 by omega, e, wrap_i64 (show -9223372036854775808 ≤ A / B by omega) (show A / B ≤ 9223372036854775807 by omega)]) h
theorem GS.rem_i64 {t t' : TypeId} {x y : Operand} {A B : Int} (hw : want ops f g = some true) (hlt : Nat.blt d n.size = true) (hx : ev f x = some (iv A)) (hy : ev f y = some (iv B)) (h1 : 0 ≤ A) (h3 : 0 < B)
    (h : GS P n Q ops rest ((d, iv (A % B)) :: f) w) : GS P n Q ops ((⟨some d, .binOp .rem t x y t', ty, pos, aft, g⟩, false) :: rest) f w :=
  GS.yields hw rfl hlt (fun w he a ha => by
    have e : A.tmod B = A % B := Int.tmod_eq_emod_of_nonneg h1
    simp [execOp, ha.eval hx, ha.eval hy, eqGuard, binOp, Op.intDiv, show B ≠ 0 by omega, e]) h
theorem GS.bin {op : BinOp} {t t' : TypeId} {x y : Operand} {K K' : IntKind} {A B : Int} {v : Value} (hw : want ops f g = some true) (hlt : Nat.blt d n.size = true) (hx : ev f x = some (.int K A)) (hy : ev f y = some (.int K' B))
    (hr : ∀ w, (do eqGuard op t x y (.int K A) (.int K' B); binOp op t (.int K A) (.int K' B) : Sem Value).run P w = .ok v w)
    (h : GS P n Q ops rest ((d, v) :: f) w) : GS P n Q ops ((⟨some d, .binOp op t x y t', ty, pos, aft, g⟩, false) :: rest) f w :=
  GS.yields hw rfl hlt (fun w he a ha => by
    have := hr w
    simp only [execOp, ha.eval hx, ha.eval hy]
    simp only [Sem.run_bind] at this ⊢
    rw [this]
    rfl) h
theorem GS.conv_int {src dst : TypeId} {x : Operand} {K K1 K' : IntKind} {A : Int} {i j : Ti} (hT : Tys P tt) (hw : want ops f g = some true) (hlt : Nat.blt d n.size = true) (hi : TT.get tt src = some i) (hdi : i.desc = .int K1) (hj : TT.get tt dst = some j) (hdj : j.desc = .int K') (hx : ev f x = some (.int K A))
    (h : GS P n Q ops rest ((d, .int K' (K'.wrap A)) :: f) w) : GS P n Q ops ((⟨some d, .convert src dst x, ty, pos, aft, g⟩, false) :: rest) f w :=
  GS.yields hw rfl hlt (fun w he a ha => by
    have hs : P.underlying src = some (.int K1) := by have := (hT.ok src i hi).desc; rw [hdi] at this; exact this
    have ht : P.underlying dst = some (.int K') := by have := (hT.ok dst j hj).desc; rw [hdj] at this; exact this
    simp [execOp, ha.eval hx, convert, run_underlying hs, run_underlying ht, Conv.intToInt]) h
theorem GS.len {t : TypeId} {x : Operand} {p : Option Addr} {m c e : Nat} {i : Ti} (hT : Tys P tt) (hw : want ops f g = some true) (hlt : Nat.blt d n.size = true) (hi : TT.get tt t = some i) (hdesc : i.desc = .slice e) (hx : ev f x = some (.slice p m c))
    (h : GS P n Q ops rest ((d, iv m) :: f) w) : GS P n Q ops ((⟨some d, .call { callee := .builtin .len, args := #[x], argTypes := #[t] }, ty, pos, aft, g⟩, false) :: rest) f w :=
  GS.yields hw rfl hlt (fun w he a ha => by
    have hu : P.underlying t = some (.slice e) := by have := (hT.ok t i hi).desc; rw [hdesc] at this; exact this
    simp [execOp, resolve, ha.eval hx, invoke, builtin, Builtin.len_, run_underlying hu, goInt]) h
theorem GS.fieldAddr {s : TypeId} {x : Operand} {b o j m e : Nat} {i ie : Ti} {fs : List (TypeId × Nat)} (hT : Tys P tt) (hw : want ops f g = some true) (hlt : Nat.blt d n.size = true) (hi : TT.get tt s = some i) (hdesc : i.desc = .struct fs) (hj : fs[j]? = some (e, m)) (hx : ev f x = some (ptr b o))
    (hie : TT.get tt e = some ie) (hz : Nat.beq ie.size 0 = false)
    (h : GS P n Q ops rest ((d, ptr b (o + m)) :: f) w) : GS P n Q ops ((⟨some d, .fieldAddr s x j, ty, pos, aft, g⟩, false) :: rest) f w :=
  GS.yields hw rfl hlt (fun w he a ha => by
    have := (hT.ok s i hi).desc
    rw [hdesc] at this
    obtain ⟨gs, hu, hgs⟩ := this
    rw [← hgs] at hj
    simp only [List.getElem?_map] at hj
    obtain ⟨fd, hfd, he⟩ := Option.map_eq_some_iff.1 hj
    have hfd' : gs[j]? = some fd := by simpa using hfd
    simp only [Prod.mk.injEq] at he
    have hs := (hT.ok e ie hie).run_sizeOf w
    have hz' : ie.size ≠ 0 := Nat.ne_of_beq_eq_false hz
    have hrun : (fieldPlace ⟨b, o, none⟩ fd).run P w = .ok ⟨b, o + fd.offset, none⟩ w := by
      simp [fieldPlace, he.1, hs, hz', add_addr]
    simp [execOp, ha.eval hx, Instr.fieldAt, run_underlying hu, hfd', Instr.sureAddr, hrun, he.2]) h
theorem GS.indexSlice (j s o' : Nat) {t : TypeId} {x y : Operand} {b o m c e : Nat} {A : Int} {K : IntKind} {i ie : Ti} (hT : Tys P tt) (hw : want ops f g = some true) (hlt : Nat.blt d n.size = true) (hi : TT.get tt t = some i) (hdesc : i.desc = .slice e) (hie : TT.get tt e = some ie)
    (hx : ev f x = some (.slice (some ⟨b, o, none⟩) m c)) (hy : ev f y = some (.int K A)) (hs : ie.size = s) (hA : A = (j : Int)) (hj : j < m) (ho : o + j * s = o')
    (h : GS P n Q ops rest ((d, ptr b o') :: f) w) : GS P n Q ops ((⟨some d, .indexAddr t x y, ty, pos, aft, g⟩, false) :: rest) f w :=
  GS.yields hw rfl hlt (fun w he a ha => by
    have hu : P.underlying t = some (.slice e) := by have := (hT.ok t i hi).desc; rw [hdesc] at this; exact this
    have hsz := (hT.ok e ie hie).run_sizeOf w
    rw [hs] at hsz
    simp [execOp, ha.eval hx, ha.eval hy, Instr.indexAt, asIntOf, run_underlying hu, hA, hj, hsz, add_addr, ho]) h
theorem GS.indexArr (j s o' : Nat) {t : TypeId} {x y : Operand} {b o m e : Nat} {A : Int} {K : IntKind} {i ie : Ti} (hT : Tys P tt) (hw : want ops f g = some true) (hlt : Nat.blt d n.size = true) (hi : TT.get tt t = some i) (hdesc : i.desc = .arr m e) (hie : TT.get tt e = some ie)
    (hx : ev f x = some (ptr b o)) (hy : ev f y = some (.int K A)) (hs : ie.size = s) (hA : A = (j : Int)) (hj : j < m) (ho : o + j * s = o')
    (h : GS P n Q ops rest ((d, ptr b o') :: f) w) : GS P n Q ops ((⟨some d, .indexAddr t x y, ty, pos, aft, g⟩, false) :: rest) f w :=
  GS.yields hw rfl hlt (fun w he a ha => by
    have hu : P.underlying t = some (.array m e) := by have := (hT.ok t i hi).desc; rw [hdesc] at this; exact this
    have hsz := (hT.ok e ie hie).run_sizeOf w
    rw [hs] at hsz
    simp [execOp, ha.eval hx, ha.eval hy, Instr.indexAt, asIntOf, Instr.sureAddr, run_underlying hu, hA, hj, hsz, add_addr, ho]) h
theorem GS.load1 {t : TypeId} {x : Operand} {i : Ti} {S : Nat → Nat × Nat → Prop} {b o : Nat} {v : Value} {vs : List Value} (hT : Tys P tt) (hw : want ops f g = some true) (hlt : Nat.blt d n.size = true) (hi : TT.get tt t = some i) (hg : i.desc.agg = false)
    (hx : ev f x = some (ptr b o)) (hA : At S w b o (v :: vs)) (h : GS P n Q ops rest ((d, v) :: f) w) : GS P n Q ops ((⟨some d, .load t x, ty, pos, aft, g⟩, false) :: rest) f w :=
  GS.yields hw rfl hlt (fun w he a ha => by
    have hc : w.cell? ⟨b, o, none⟩ = some v := by have := (hA.ext he).cell (j := 0) (v := v) rfl; simpa using this
    simp [execOp, Instr.loadAt, ha.eval hx, Instr.sureAddr, run_load1 hT hi hg hc]) h
theorem GS.loadN {t : TypeId} {x : Operand} {i : Ti} {S : Nat → Nat × Nat → Prop} {b o : Nat} {vs : List Value} (hT : Tys P tt) (hw : want ops f g = some true) (hlt : Nat.blt d n.size = true) (hi : TT.get tt t = some i) (hg : i.desc.agg = true)
    (hx : ev f x = some (ptr b o)) (hA : At S w b o vs) (hl : vs.length = i.size) (h : GS P n Q ops rest ((d, .agg vs.toArray) :: f) w) : GS P n Q ops ((⟨some d, .load t x, ty, pos, aft, g⟩, false) :: rest) f w :=
  GS.yields hw rfl hlt (fun w he a ha => by simp [execOp, Instr.loadAt, ha.eval hx, Instr.sureAddr, run_loadN hT hi hg (hA.ext he) hl]) h
theorem GS.eq_bytes {op : BinOp} {t t' e : TypeId} {x y : Operand} {m : Nat} {i ie : Ti} {xs ys : List UInt8} {c : Bool} (hT : Tys P tt) (hw : want ops f g = some true) (hlt : Nat.blt d n.size = true) (hi : TT.get tt t = some i) (hdesc : i.desc = .arr m e) (hie : TT.get tt e = some ie) (hde : ie.desc = .int .u8) (hse : ie.size = 1) (hng : P.eqGuardType P.depth t = false)
    (hx : ev f x = some (.agg (xs.map bv).toArray)) (hy : ev f y = some (.agg (ys.map bv).toArray)) (hlx : xs.length = m) (hly : ys.length = m) (hop : (op = .eql ∧ (c = true ↔ xs = ys)) ∨ (op = .neq ∧ (c = true ↔ xs ≠ ys)))
    (h : GS P n Q ops rest ((d, .bool c) :: f) w) : GS P n Q ops ((⟨some d, .binOp op t x y t', ty, pos, aft, g⟩, false) :: rest) f w :=
  GS.yields hw rfl hlt (fun w he a ha => by
    have hu : P.underlying t = some (.array m e) := by have := (hT.ok t i hi).desc; rw [hdesc] at this; exact this
    have he : P.underlying e = some (.int .u8) := by have := (hT.ok e ie hie).desc; rw [hde] at this; exact this
    have hsz : ∀ w, (sizeOf e).run P w = .ok 1 w := fun w => by rw [(hT.ok e ie hie).run_sizeOf w, hse]
    have hb := run_equalIn_bytes (P := P) w 9998 t e m hu he hsz xs ys hlx hly
    have e0 : ∀ zs : List UInt8, zs.map Extern.Stop.cell = zs.map bv := fun zs => rfl
    rw [e0, e0] at hb
    rcases hop with ⟨rfl, hcc⟩ | ⟨rfl, hcc⟩
    · simp only [execOp, ha.eval hx, ha.eval hy, Sem.run_bind, run_eqGuard_agg (P := P) w .eql t x y _ _ hng, Result.andThen_ok, run_eql_struct, hb, Sem.run_pure]
      have : (xs == ys) = c := by rw [Bool.eq_iff_iff, hcc]; simp
      rw [this]
    · simp only [execOp, ha.eval hx, ha.eval hy, Sem.run_bind, run_eqGuard_agg (P := P) w .neq t x y _ _ hng, Result.andThen_ok, run_neq_struct, hb, Sem.run_pure]
      have : (!(xs == ys)) = c := by rw [Bool.eq_iff_iff, hcc]; simp
      rw [this]) h
theorem GS.slice {t e : TypeId} {i ie : Ti} {x : Operand} {lo hi mx : Option Operand} {p : Option Addr} {m c : Nat} (L H M sz : Nat) (hT : Tys P tt) (hw : want ops f g = some true) (hlt : Nat.blt d n.size = true) (hi' : TT.get tt t = some i) (hdesc : i.desc = .slice e) (hie : TT.get tt e = some ie) (hs : ie.size = sz)
    (hx : ev f x = some (.slice p m c)) (hlo : bndOk f 0 lo L) (hhi : bndOk f m hi H) (hmx : bndOk f c mx M) (hmh : mx.isSome = true → hi.isSome = true) (hLH : L ≤ H) (hHM : H ≤ M) (hMc : M ≤ c)
    (h : GS P n Q ops rest ((d, .slice (cutP p L M sz) (H - L) (M - L)) :: f) w) : GS P n Q ops ((⟨some d, .slice t x lo hi mx, ty, pos, aft, g⟩, false) :: rest) f w :=
  GS.yields hw rfl hlt (fun w _ => run_slice hT hi' hdesc hie hs hx hlo hhi hmx hmh hLH hHM hMc w) h
theorem GS.sliceArr {t e : TypeId} {i ie : Ti} {x : Operand} {b o m : Nat} (hT : Tys P tt) (hw : want ops f g = some true) (hlt : Nat.blt d n.size = true) (hi' : TT.get tt t = some i) (hdesc : i.desc = .arr m e) (hie : TT.get tt e = some ie) (hx : ev f x = some (ptr b o))
    (h : GS P n Q ops rest ((d, .slice (some ⟨b, o, none⟩) m m) :: f) w) : GS P n Q ops ((⟨some d, .slice t x none none none, ty, pos, aft, g⟩, false) :: rest) f w :=
  GS.yields hw rfl hlt (fun w _ => run_sliceArr hT hi' hdesc hie hx w) h
theorem GS.indexV {t e : TypeId} {i ie : Ti} {x y : Operand} {m : Nat} (j : Nat) {K : IntKind} {A : Int} {cs : List Value} {v : Value} (hT : Tys P tt) (hw : want ops f g = some true) (hlt : Nat.blt d n.size = true) (hi' : TT.get tt t = some i) (hdesc : i.desc = .arr m e) (hie : TT.get tt e = some ie) (hse : ie.size = 1) (hag : ie.desc.agg = false)
    (hx : ev f x = some (.agg cs.toArray)) (hy : ev f y = some (.int K A)) (hA : A = (j : Int)) (hj : j < m) (hv : cs[j]? = some v)
    (h : GS P n Q ops rest ((d, v) :: f) w) : GS P n Q ops ((⟨some d, .index t x y, ty, pos, aft, g⟩, false) :: rest) f w :=
  GS.yields hw rfl hlt (fun w _ => run_indexV hT hi' hdesc hie hse hag hx hy hA hj hv w) h
theorem GS.build {t : TypeId} {i : Ti} {fs : List (TypeId × Nat)} {q : List (Nat × Nat)} {parts : Array (Nat × Operand)} {vs : List (Nat × Value)} (r : List Value) (hT : Tys P tt) (hw : want ops f g = some true) (hlt : Nat.blt d n.size = true) (hi' : TT.get tt t = some i) (hdesc : i.desc = .struct fs) (hq : sizesL tt fs = some q) (hp : partsOf f parts.toList = some vs) (hfill : fillL (q[·]?) i.zero vs = some r)
    (h : GS P n Q ops rest ((d, .agg r.toArray) :: f) w) : GS P n Q ops ((⟨some d, .build t parts, ty, pos, aft, g⟩, false) :: rest) f w :=
  GS.yields hw rfl hlt (fun w _ => run_build hT hi' hdesc hq hp hfill w) h
theorem GS.buildArr {t e : TypeId} {i ie : Ti} {m : Nat} {parts : Array (Nat × Operand)} {vs : List (Nat × Value)} (r : List Value) (hT : Tys P tt) (hw : want ops f g = some true) (hlt : Nat.blt d n.size = true) (hi' : TT.get tt t = some i) (hdesc : i.desc = .arr m e) (hie : TT.get tt e = some ie) (hp : partsOf f parts.toList = some vs) (hfill : fillL (fun k => some (k * ie.size, ie.size)) i.zero vs = some r)
    (h : GS P n Q ops rest ((d, .agg r.toArray) :: f) w) : GS P n Q ops ((⟨some d, .build t parts, ty, pos, aft, g⟩, false) :: rest) f w :=
  GS.yields hw rfl hlt (fun w _ => run_buildArr hT hi' hdesc hie hp hfill w) h
theorem GS.eqbool {t t' : TypeId} {op : BinOp} {x y : Operand} {A B c : Bool} (hu : P.underlying t = some .bool) (hw : want ops f g = some true) (hlt : Nat.blt d n.size = true) (hx : ev f x = some (.bool A)) (hy : ev f y = some (.bool B)) (hop : (op = .eql ∧ c = (A == B)) ∨ (op = .neq ∧ c = !(A == B)))
    (h : GS P n Q ops rest ((d, .bool c) :: f) w) : GS P n Q ops ((⟨some d, .binOp op t x y t', ty, pos, aft, g⟩, false) :: rest) f w :=
  GS.yields hw rfl hlt (fun w _ => run_eqbool hu hx hy hop w) h
theorem GS.toString {S : Nat → Nat × Nat → Prop} {src dst e : TypeId} {i ie : Ti} {x : Operand} {v : Value} {bs : List UInt8} (hT : Tys P tt) (hw : want ops f g = some true) (hlt : Nat.blt d n.size = true) (hi : TT.get tt src = some i) (hdesc : i.desc = .slice e) (hie : TT.get tt e = some ie) (hde : ie.desc = .int .u8) (hd : P.underlying dst = some .string) (hx : ev f x = some v) (hb : Go.Proofs.YtefneilaongpbaaDoor.RdB S w v bs)
    (h : GS P n Q ops rest ((d, sv bs) :: f) w) : GS P n Q ops ((⟨some d, .convert src dst x, ty, pos, aft, g⟩, false) :: rest) f w :=
  GS.yields hw rfl hlt (fun w he => run_toString hT hi hdesc hie hde hd hx (hb.ext he)) h
theorem GS.eqstr {t t' : TypeId} {x y : Operand} {A B : List UInt8} (hw : want ops f g = some true) (hlt : Nat.blt d n.size = true) (hx : ev f x = some (sv A)) (hy : ev f y = some (sv B))
    (h : GS P n Q ops rest ((d, .bool (decide (A = B))) :: f) w) : GS P n Q ops ((⟨some d, .binOp .eql t x y t', ty, pos, aft, g⟩, false) :: rest) f w :=
  GS.yields hw rfl hlt (fun w _ => run_eqstr hx hy w) h
end
end Go.Bd
namespace Go.Proofs.YtefneilaongpbaaDoor
open Go Go.Bd Go.RowKit
section
variable {n : Sz} {Q : Act → World → Prop} {f : Fr} {w : World} {ops : Array Oper} {rest : List (Oper × Bool)} {d : Nat} {ty : TypeId} {pos : String} {aft : Array Edge} {g : Option (Nat × Bool)}
theorem _root_.Go.Bd.GS.eqdig {t' : TypeId} {x y : Operand} {A B : Dig} (hw : want ops f g = some true) (hlt : Nat.blt d n.size = true) (hx : ev f x = some (dv A)) (hy : ev f y = some (dv B))
    (h : GS Tryd.prog n Q ops rest ((d, .bool (decide (A = B))) :: f) w) : GS Tryd.prog n Q ops ((⟨some d, .binOp .eql 25 x y t', ty, pos, aft, g⟩, false) :: rest) f w :=
  GS.eq_bytes hT hw hlt rfl rfl rfl rfl rfl (by kernel_rfl) hx hy A.2 B.2 (.inl ⟨rfl, eqdig_iff A B⟩) h
theorem _root_.Go.Bd.GS.nedig {t' : TypeId} {x y : Operand} {A B : Dig} (hw : want ops f g = some true) (hlt : Nat.blt d n.size = true) (hx : ev f x = some (dv A)) (hy : ev f y = some (dv B))
    (h : GS Tryd.prog n Q ops rest ((d, .bool (!decide (A = B))) :: f) w) : GS Tryd.prog n Q ops ((⟨some d, .binOp .neq 25 x y t', ty, pos, aft, g⟩, false) :: rest) f w :=
  GS.eq_bytes hT hw hlt rfl rfl rfl rfl rfl (by kernel_rfl) hx hy A.2 B.2 (.inr ⟨rfl, nedig_iff A B⟩) h
theorem _root_.Go.Bd.GS.eqdig_t {t' : TypeId} {x y : Operand} {A B : Dig} (hw : want ops f g = some true) (hlt : Nat.blt d n.size = true) (hx : ev f x = some (dv A)) (hy : ev f y = some (dv B)) (hc : A = B)
    (h : GS Tryd.prog n Q ops rest ((d, .bool true) :: f) w) : GS Tryd.prog n Q ops ((⟨some d, .binOp .eql 25 x y t', ty, pos, aft, g⟩, false) :: rest) f w :=
  GS.eqdig hw hlt hx hy (by rw [decide_eq_true hc]; exact h)
theorem _root_.Go.Bd.GS.eqdig_f {t' : TypeId} {x y : Operand} {A B : Dig} (hw : want ops f g = some true) (hlt : Nat.blt d n.size = true) (hx : ev f x = some (dv A)) (hy : ev f y = some (dv B)) (hc : ¬ A = B)
    (h : GS Tryd.prog n Q ops rest ((d, .bool false) :: f) w) : GS Tryd.prog n Q ops ((⟨some d, .binOp .eql 25 x y t', ty, pos, aft, g⟩, false) :: rest) f w :=
  GS.eqdig hw hlt hx hy (by rw [decide_eq_false hc]; exact h)
theorem _root_.Go.Bd.GS.nedig_f {t' : TypeId} {x y : Operand} {A B : Dig} (hw : want ops f g = some true) (hlt : Nat.blt d n.size = true) (hx : ev f x = some (dv A)) (hy : ev f y = some (dv B)) (hc : A = B)
    (h : GS Tryd.prog n Q ops rest ((d, .bool false) :: f) w) : GS Tryd.prog n Q ops ((⟨some d, .binOp .neq 25 x y t', ty, pos, aft, g⟩, false) :: rest) f w :=
  GS.nedig hw hlt hx hy (by rw [decide_eq_true hc]; exact h)
theorem _root_.Go.Bd.GS.nedig_t {t' : TypeId} {x y : Operand} {A B : Dig} (hw : want ops f g = some true) (hlt : Nat.blt d n.size = true) (hx : ev f x = some (dv A)) (hy : ev f y = some (dv B)) (hc : ¬ A = B)
    (h : GS Tryd.prog n Q ops rest ((d, .bool true) :: f) w) : GS Tryd.prog n Q ops ((⟨some d, .binOp .neq 25 x y t', ty, pos, aft, g⟩, false) :: rest) f w :=
  GS.nedig hw hlt hx hy (by rw [decide_eq_false hc]; exact h)
theorem _root_.Go.Bd.GS.zerodig (hw : want ops f g = some true) (hlt : Nat.blt d n.size = true)
    (h : GS Tryd.prog n Q ops rest ((d, dv Dig.zero) :: f) w) : GS Tryd.prog n Q ops ((⟨some d, .build 25 #[], ty, pos, aft, g⟩, false) :: rest) f w := by
  rw [dv, Dig.zero_cells] at h
  exact GS.buildArr _ hT hw hlt rfl rfl rfl rfl rfl h
end
end Go.Proofs.YtefneilaongpbaaDoor
/-
  Pairs in memory of one's own.
-/
set_option linter.unusedVariables false
set_option linter.unusedSimpArgs false
set_option maxRecDepth 100000
set_option maxHeartbeats 4000000
namespace Go.Proofs.YtefneilaongpbaaDoor
open Go Go.Bd Go.RowKit
attribute [local irreducible] G GL GQ GS

abbrev pv (x : Pair) (u : Value) : Value := .agg (x.key.cells ++ [u]).toArray
theorem pcell_len (k : Dig) (u : Value) : (k.cells ++ [u]).length = 33 := by simp [Dig.len]
/-- A pair's cells; its value in memory of one's own. -/
def PairN (B : Nat) (w : World) (e : List Value) (x : Pair) : Prop := ∃ u, e = x.key.cells ++ [u] ∧ OwnB B w u x.val
/-- Pairs in memory of one's own. -/
def OwnP (B : Nat) (w : World) (v : Value) (ps : List Pair) : Prop := ∃ es, All2 (PairN B w) es ps ∧ Own B w v ps.length 33 76 es.flatten
theorem PairN.ext {B : Nat} {w w' : World} {e : List Value} {x : Pair} (h : PairN B w e x) (he : Ext w w') : PairN B w' e x := let ⟨u, h1, h2⟩ := h; ⟨u, h1, h2.ext he⟩
theorem PairN.mono {B B' : Nat} {w : World} {e : List Value} {x : Pair} (h : PairN B w e x) (hB : B' ≤ B) : PairN B' w e x := let ⟨u, h1, h2⟩ := h; ⟨u, h1, h2.mono hB⟩
theorem OwnP.ext {B : Nat} {w w' : World} {v : Value} {ps : List Pair} (h : OwnP B w v ps) (he : Ext w w') : OwnP B w' v ps := let ⟨es, h1, h2⟩ := h; ⟨es, h1.imp fun _ _ h => h.ext he, h2.ext he⟩
theorem OwnP.mono {B B' : Nat} {w : World} {v : Value} {ps : List Pair} (h : OwnP B w v ps) (hB : B' ≤ B) : OwnP B' w v ps := let ⟨es, h1, h2⟩ := h; ⟨es, h1.imp fun _ _ h => h.mono hB, h2.mono hB⟩
theorem OwnP.bare (B : Nat) (w : World) (p : Option Addr) : OwnP B w (.slice p 0 0) [] := ⟨[], .nil, Own.bare _ _ _ _ _⟩
theorem OwnP.rd {B : Nat} {w : World} {v : Value} {ps : List Pair} (h : OwnP B w v ps) : RdP (fresh B) w v ps := by
  obtain ⟨es, h1, h2⟩ := h
  exact ⟨es, h1.imp fun e x ⟨u, hu, ho⟩ => ⟨u, hu, ho.fresh⟩, h2.fresh⟩
/-- A write into a row of pairs leaves the values alone. -/
theorem PairN.but {B : Nat} {w w' : World} {e : List Value} {x : Pair} {v : Value} {n sz : Nat} {cs : List Value} {B' : Nat} (h : PairN B w e x) (ho : Own B' w v n sz 76 cs) (hb : But (rowOf v) w w') : PairN B w' e x := by
  obtain ⟨u, h1, h2⟩ := h
  refine ⟨u, h1, h2.keep (fun g hg hlt => hb.block g hlt (fun e => ?_)) (by decide)⟩
  exact Own.sep h2 ho rfl g hg e.symm
theorem pair_fill (k : Dig) {u : Value} (hu : u.cells = #[u]) : fillL ([(0, 32), (32, 1)][·]?) ti76.zero [(0, dv k), (1, u)] = some (k.cells ++ [u]) := by
  have h1 : (dv k).cells.size = 32 := by simp [Value.cells, Dig.len]
  have h2 : u.cells.size = 1 := by rw [hu]; rfl
  have hz : ti76.zero.length = 33 := by decide
  have e1 : splice ti76.zero 0 (dv k).cells.toList = k.cells ++ [.slice none 0 0] := by
    simp only [splice, Value.cells, List.take_zero, List.nil_append, Nat.zero_add, Dig.len]
    rfl
  simp only [fillL, List.getElem?_cons_zero, List.getElem?_cons_succ]
  rw [if_neg (by rw [h1, hz]; simp), e1, if_neg (by rw [h2]; simp [Dig.len])]
  congr 1
  simp [splice, hu, Dig.len]
theorem pairs_one {S : Where} {w : World} {es : List (List Value)} {ps : List Pair} (h : All2 (PairC S w) es ps) : ∀ c ∈ es.flatten, c.oneCell' = true := by
  induction h with
  | nil => intro c hc; cases hc
  | cons h _ ih =>
    intro c hc
    rw [List.flatten_cons, List.mem_append] at hc
    rcases hc with h1 | h1
    · obtain ⟨u, rfl, hu⟩ := h; exact pairOne (RdF.one hu) c h1
    · exact ih c h1
theorem pairs_len {S : Where} {w : World} {es : List (List Value)} {ps : List Pair} (h : All2 (PairC S w) es ps) : es.flatten.length = ps.length * 33 := by
  induction h with
  | nil => rfl
  | cons h _ ih =>
    obtain ⟨u, rfl, hu⟩ := h
    rw [List.flatten_cons, List.length_append, ih, pcell_len, List.length_cons]
    omega
theorem pairs_len33 {S : Where} {w : World} {es : List (List Value)} {ps : List Pair} (h : All2 (PairC S w) es ps) : ∀ e ∈ es, e.length = 33 := fun e he => by
  obtain ⟨j, hj⟩ := List.mem_iff_getElem?.1 he
  have hjl : j < ps.length := by rw [← h.length]; exact (List.getElem?_eq_some_iff.1 hj).1
  obtain ⟨e', he', x, rfl, _⟩ := h.at j _ (List.getElem?_eq_getElem hjl)
  rw [hj] at he'; cases he'
  exact pcell_len _ _
theorem pairs_len' {S : Where} {w : World} {es : List (List Value)} {ps : List Pair} (h : All2 (PairC S w) es ps) : es.flatten.length = ps.length * 33 := pairs_len h
theorem _root_.Go.Bd.Own.ne_blk {B : Nat} {w : World} {v : Value} {n sz : Nat} {T T' : TypeId} {cs c : List Value} {b : Nat} (h : Own B w v n sz T cs) (hB : Blk w b T' c) (hne : Nat.beq T T' = false) : rowOf v ≠ some b := by
  intro e
  rcases h.2 with ⟨rfl, p, rfl⟩ | ⟨g, cap, rest, rfl, _, _, hblk, _⟩
  · simp [rowOf] at e
  · cases cap with
    | zero => simp [rowOf] at e
    | succ q =>
      simp [rowOf] at e
      subst e
      unfold Blk at hblk hB
      rw [hblk] at hB
      simp only [Option.some.injEq, Obj.cells.injEq] at hB
      rw [hB.2.1] at hne
      simp at hne
theorem _root_.Go.Bd.Own.keepBlk {B : Nat} {w w' : World} {v : Value} {n sz : Nat} {T T' : TypeId} {cs c : List Value} {b : Nat} (h : Own B w v n sz T cs) (hB : Blk w b T' c) (hne : Nat.beq T T' = false && Nat.blt 0 sz) (hc : Chg b w w') : Own B w' v n sz T cs := by
  have h2 : Nat.beq T T' = false ∧ Nat.blt 0 sz = true := by simpa using hne
  exact h.keep (fun g hg _ => hc.block g (fun e => h.ne_blk hB h2.1 (by rw [hg, e]))) (by simpa [Nat.blt_eq] using h2.2)
/-- A slice of one's own with elements or room: its parts. -/
theorem _root_.Go.Bd.Own.parts {B : Nat} {w : World} {v : Value} {n sz : Nat} {T : TypeId} {cs : List Value} (h : Own B w v n sz T cs) (hn : 0 < n) :
    ∃ g cap rest, v = .slice (some ⟨g, 0, none⟩) n cap ∧ rowOf v = some g ∧ B ≤ g ∧ n ≤ cap ∧ Blk w g T (cs ++ rest) ∧ rest.length = (cap - n) * sz ∧ cs.length = n * sz := by
  rcases h.2 with ⟨rfl, p, rfl⟩ | ⟨g, cap, rest, rfl, hB, hn', hblk, hr⟩
  · omega
  · refine ⟨g, cap, rest, rfl, ?_, hB, hn', hblk, hr, h.1⟩
    cases cap with
    | zero => omega
    | succ c => rfl
theorem Own.of_blk {B : Nat} {w : World} {n sz g cap : Nat} {T : TypeId} {cs rest : List Value} (hB : B ≤ g) (hn : n ≤ cap) (hl : cs.length = n * sz) (hblk : Blk w g T (cs ++ rest)) (hr : rest.length = (cap - n) * sz) : Own B w (.slice (some ⟨g, 0, none⟩) n cap) n sz T cs :=
  ⟨hl, .inr ⟨g, cap, rest, rfl, hB, hn, hblk, hr⟩⟩
theorem list3 {α : Type} (l : List α) (a b : Nat) (h : a ≤ b) : l = l.take a ++ ((l.drop a).take (b - a) ++ l.drop b) := by
  have e : l.drop b = (l.drop a).drop (b - a) := by rw [List.drop_drop]; congr 1; omega
  rw [e, List.take_append_drop, List.take_append_drop]
theorem splice_at {A B C ys : List Value} {o : Nat} (h1 : A.length = o) (h2 : B.length = ys.length) : splice (A ++ (B ++ C)) o ys = A ++ (ys ++ C) := by
  subst h1
  unfold splice
  rw [List.take_left]
  congr 2
  rw [← List.drop_drop, List.drop_left, ← h2, List.drop_left]
end Go.Proofs.YtefneilaongpbaaDoor
