/-
  Results that lie in variables; what an operation of a drawn region leaves.
-/
import Derived.Test.YtefneilaongpbaaDoorEq
set_option linter.unusedVariables false
set_option linter.unusedSimpArgs false
set_option maxRecDepth 100000
namespace Go.Bd
open Go Go.RowKit
section
variable {P : Program} {fn : Func} {Φ : Value → World → Prop} {n : Sz} {k : List Item} {f : Fr} {w : World} {tt : List (Nat × Ti)}
theorem run_resultN {t : Tmp} {ty : TypeId} {i : Ti} {b : Nat} {vs : List Value} {S : Nat → Nat × Nat → Prop} (hT : Tys P tt) (hi : TT.get tt ty = some i) (hg : i.desc.agg = true) (hr : fn.results = #[.cell t ty]) (hx : Fr.get f t = some (ptr b 0)) (hA : At S w b 0 vs) (hl : vs.length = i.size) :
    ∀ a, St n f a → (results fn a.tmps).run P w = .ok (.agg vs.toArray) w := fun a ha => by
  have h1 := run_loadN (P := P) hT hi hg hA hl
  have h2 : a.tmps[t]? = some (ptr b 0) := ha.at_ t _ hx
  simp [results, hr, h2, asAddr, h1]
/-- A result in a variable. -/
theorem G.retN {t : Tmp} {ty : TypeId} {i : Ti} {b : Nat} {vs : List Value} {S : Nat → Nat × Nat → Prop} (hD : n.D = []) (hro : n.ro = none) (hT : Tys P tt) (hi : TT.get tt ty = some i) (hg : i.desc.agg = true) (hr : fn.results = #[.cell t ty]) (hx : Fr.get f t = some (ptr b 0)) (hA : At S w b 0 vs) (hl : vs.length = i.size) (h : Φ (.agg vs.toArray) w) :
    G P fn (FnE P Φ) n (.code .ret :: k) f w := G.ret_of hD hro (run_resultN hT hi hg hr hx hA hl) h
/-- A result in a variable, and another one. -/
theorem G.retNt {t t' : Tmp} {ty : TypeId} {i : Ti} {b : Nat} {v' : Value} {vs : List Value} {S : Nat → Nat × Nat → Prop} (hD : n.D = []) (hro : n.ro = none) (hT : Tys P tt) (hi : TT.get tt ty = some i) (hg : i.desc.agg = true) (hr : fn.results = #[.cell t ty, .tmp t']) (hx : Fr.get f t = some (ptr b 0)) (hv' : Fr.get f t' = some v') (hA : At S w b 0 vs) (hl : vs.length = i.size) (h : Φ (.tuple #[.agg vs.toArray, v']) w) :
    G P fn (FnE P Φ) n (.code .ret :: k) f w := G.ret_of hD hro (fun a ha => by
  have h1 := run_loadN (P := P) hT hi hg hA hl
  have h2 : a.tmps[t]? = some (ptr b 0) := ha.at_ t _ hx
  have h3 : a.tmps[t']? = some v' := ha.at_ t' _ hv'
  simp [results, hr, h2, h3, asAddr, h1]) h
theorem G.ret1c {t : Tmp} {ty : TypeId} {i : Ti} {b : Nat} {v : Value} {S : Nat → Nat × Nat → Prop} (hD : n.D = []) (hro : n.ro = none) (hT : Tys P tt) (hi : TT.get tt ty = some i) (hg : i.desc.agg = false) (hr : fn.results = #[.cell t ty]) (hx : Fr.get f t = some (ptr b 0)) (hA : At S w b 0 [v]) (h : Φ v w) :
    G P fn (FnE P Φ) n (.code .ret :: k) f w := G.ret_of hD hro (run_result1 hT hi hg hr hx hA) h
end
section
variable {P : Program} {n : Sz} {f : Fr} {w w' : World} {ops : Array Oper}
theorem GL.fact {V : Value → World → Prop} {t : Nat} {v : Value} (hv : Fr.get f t = some v) (he : Ext w' w) (hV : V v w) : GL P n (fun a w'' => ∃ v, a.tmps[t]? = some v ∧ Ext w' w'' ∧ V v w'') ops [] f w :=
  fun a ha => ⟨v, ha.at_ t v hv, he, hV⟩
end
end Go.Bd
