/-
  From a walk to the row: a law that hands back true and leaves its arguments alone.
-/
import Derived.Test.YtefneilaongpbaaDoorOpens
import Derived.Test.YtefneilaongpbaaDoorRows
import Derived.ProofKit
import Derived.JoinedOf
import Derived.ReadAgain
import Derived.Carry
import Derived.JoinedAt
import Derived.ChangeSame
import Derived.RowKit3
set_option linter.unusedVariables false
set_option linter.unusedSimpArgs false
set_option maxRecDepth 100000
namespace Go.Proofs.YtefneilaongpbaaDoor
open Go Go.Bd Go.RowKit Go.ChangeShapes Go.WideShapes Go.ChangeAt

theorem own0 : ownKnob Tryd.prog.godebug = none := by kernel_rfl
theorem laidOut0 : laidOutB Tryd.prog = true := by kernel_rfl
theorem kids0 : Kids Tryd.prog (· < Tryd.prog.types.size) := kids_rows laidOut0 (by kernel_rfl)
theorem full0 : ∀ t e, t < Tryd.prog.types.size → Tryd.prog.underlying t = some (.slice e) → 0 < Tryd.prog.cellsOf e := slices_full_of Tryd.prog (by kernel_rfl)

section
variable {H : Type} {enc : TypeId × Value → H} {P : Program}
theorem trod_over {W W' : World} (hb : Ext W W') {sp : Nat → Bool} {hd : Bool} : ∀ {ts : List TypeId} {vs : List Value} {ds : List (DataW H)} {ps : List MemPlace},
    DataW.TrodAll enc P W 0 sp hd ts vs ds ps → (∀ p ∈ ps, p.block < W.heap.size) → DataW.TrodAll enc P W' 0 sp hd ts vs ds ps
  | [], [], [], _, h, _ => h
  | _ :: _, _ :: _, _ :: _, _, ⟨p, q, ⟨n, h1⟩, h2, e⟩, hlt => by
    subst e
    exact ⟨p, q, ⟨n, DataW.trod_carry n _ _ _ h1 fun x hx => hb.same (hlt x (List.mem_append_left _ hx))⟩, trod_over hb h2 fun x hx => hlt x (List.mem_append_right _ hx), rfl⟩

theorem post_law {fn : Func} {s : ChangeSpec} {fresh handsOn : Bool} {W W' : World} {args : Array Value} {ds : List (DataW H)} {p : List MemPlace} {tb : TypeId}
    (K : Kids P (· < P.types.size)) (full : ∀ t e, t < P.types.size → P.underlying t = some (.slice e) → 0 < P.cellsOf e)
    (hA : DataW.TrodAll enc P W 0 (fun _ => true) true fn.params.toList args.toList ds p) (hz : W.noneFrozen p)
    (hv : s.vars = []) (hs : s.fn H (ds ++ []) = { results := [.lit (.bool true)], args := ds }) (hres : fn.resultTypes = #[tb]) (hu : P.underlying tb = some .bool) (hts : ∀ t ∈ fn.params.toList, t < P.types.size) (he : Ext W W') :
    s.post enc P fn false fresh handsOn false W args (.bool true) W' := by
  have hlt : ∀ x ∈ p, x.block < W.heap.size := fun x hx => DataW.TrodAll.lt hA x hx
  have hre : ∀ sp : Nat → Bool, (∀ x ∈ p, sp x.block = true) → DataW.TrodAll enc P W' 0 sp true fn.params.toList args.toList ds p := fun sp hsp =>
    trod_over he (DataW.TrodAll.respare K full hts hA hsp) hlt
  have hb : ∀ (b : Nat) (sp : Nat → Bool) (hd : Bool), DataW.TrodAll enc P W' b sp hd fn.resultTypes.toList ((Value.bool true).resultList fn.resultTypes.size) [.lit (.bool true)] [] := by
    intro b sp hd
    rw [hres]
    exact trodAll_mk1 (shut_bool hu true)
  have hv' : ∀ (W : World) (sp : Nat → Bool), DataW.TrodVars enc P W sp s.vars ([] : List (DataW H)) [] := by
    intro W sp; rw [hv]; rfl
  refine ⟨ds, [], p ++ [], [], p, [], ⟨p, [], hA, hv' _ _, rfl, by simpa using hz, fun h => by cases h⟩, ?_, ?_, ?_, he.frame _, fun h => by cases h⟩
  · rw [hs]; exact hb _ _ _
  · rw [hs]; exact hre _ fun x hx => by simpa using hlt x hx
  · rw [hs]; exact hv' _ _
end
/-- The row's step. -/
theorem lift_law {f : FuncId} {fn : Func} {s : ChangeSpec} {row : OpenClaim} {fresh handsOn : Bool} {tb : TypeId} (os : Os) (started : os.Started) (H : Type) (enc : TypeId × Value → H) 
    (hf : Tryd.prog.funcs[f]? = some fn) (noInit : Tryd.prog.inits.idxOf? f = none) (hv : s.vars = []) (hres : fn.resultTypes = #[tb]) (hu : Tryd.prog.underlying tb = some .bool) (hts : ∀ t ∈ fn.params.toList, t < Tryd.prog.types.size)
    (hwit : ∃ (w : World) (tape : Tape) (i : Input), w.os = os ∧ (w.forCall tape i).Shaped Tryd.checked.prog ∧ i.vars = [] ∧ Input.okWide Tryd.checked.prog (w.forCall tape i) .any w.heap.size f i ∧ s.pre6 enc Tryd.checked.prog fn row.domain false (w.forCall tape i).memory i.args ∧ Assume.holds {} Tryd.checked.prog (lone (Frame.enter Tryd.checked.prog f i.args .normal) [] (w.forCall tape i)))
    (hs : ∀ ds : List (DataW H), ds.length = fn.params.size → s.fn H (ds ++ []) = { results := [.lit (.bool true)], args := ds })
    (walk : ∀ (W : World) (base : Nat) (args : Array Value) (ds : List (DataW H)) (p : List MemPlace), (∀ (j : Nat) t v, fn.params[j]? = some t → args[j]? = some v → Value.okWide Tryd.prog W .any base t v) →
      DataW.TrodAll enc Tryd.prog W 0 (fun _ => true) true fn.params.toList args.toList ds p → Does Tryd.prog f args W fun v w' => v = .bool true ∧ Ext W w') :
    ReturnsInHanded {} Tryd.checked os f .any (s.pre6 enc Tryd.checked.prog fn row.domain false) (s.post enc Tryd.checked.prog fn false fresh handsOn false) := by
  refine returnsInHanded_of_change (C := Tryd.checked) own0 started noInit hf hwit ?_
  intro W base args ds gs before hval hW _ _
  obtain ⟨p, q, hA, hV, rfl, hfz, hnd⟩ := hW
  rw [hv] at hV
  obtain ⟨rfl, rfl⟩ := trodVars_none hV
  have hlen : ∀ {ts : List TypeId} {vs : List Value} {ds : List (DataW H)} {ps : List MemPlace}, DataW.TrodAll enc Tryd.prog W 0 (fun _ => true) true ts vs ds ps → ds.length = ts.length := by
    intro ts
    induction ts with
    | nil => intro vs ds ps h; cases vs <;> cases ds <;> simp_all [DataW.TrodAll]
    | cons t ts ih =>
      intro vs ds ps h
      cases vs with
      | nil => simp [DataW.TrodAll] at h
      | cons v vs =>
        cases ds with
        | nil => simp [DataW.TrodAll] at h
        | cons d ds =>
          obtain ⟨p, q, h1, h2, e⟩ := h
          simp [ih h2]
  have hl := hlen hA
  refine (walk W base args ds p hval hA).calls.mono fun e W' ⟨v, he, hv', hx⟩ => ⟨v, he, ?_⟩
  subst hv'
  exact post_law kids0 full0 hA (by simpa using hfz) hv (hs ds (by simpa using hl)) hres hu hts hx
end Go.Proofs.YtefneilaongpbaaDoor
