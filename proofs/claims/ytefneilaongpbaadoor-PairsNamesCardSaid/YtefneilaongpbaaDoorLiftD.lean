/-
  From a walk to the row, where the rounds' words are laid: a law that hands back true and leaves its arguments alone.
-/
import Derived.Test.YtefneilaongpbaaDoorLift
import Derived.Test.YtefneilaongpbaaDoorSha2
import Derived.Test.YtefneilaongpbaaDoorTie
import Derived.Test.YtefneilaongpbaaDoorCards
import Derived.LaidLaws
import Derived.Lib.LaidTab
import Derived.SevenTiedAt
import Derived.Stop.Joined
set_option linter.unusedVariables false
set_option linter.unusedSimpArgs false
set_option maxRecDepth 100000
namespace Go.Proofs.YtefneilaongpbaaDoor
open Go Go.Bd Go.RowKit Go.ChangeShapes Go.WideShapes Go.ChangeAt

def laidL : List (String × DataW Unit) := [("beadroll/sha.k", Rows.laid_beadroll_sha_k)]
def kInts : List Int := kTab.map fun x => (x.toNat : Int)
theorem laid_tab : (Rows.laid_beadroll_sha_k : DataW Unit) = Lib.tabData .u32 kInts := by kernel_rfl
theorem kt_of_laid {W : World} (h : laidMetH Tryd.prog laidL W) : Kt W := by
  have h' : laidMet Tryd.prog [("beadroll/sha.k", Lib.tabData .u32 kInts)] W := by rw [← laid_tab]; exact h
  have hg : Tryd.prog.globalNamed "beadroll/sha.k" = some 0 := by kernel_rfl
  have ht := Lib.tabIs_of_head (g := 0) (t := 183) (e := 136) (n := 64) hg (by kernel_rfl) Tryd.underlying183 Tryd.underlying136 (by kernel_rfl) (by kernel_rfl) h'
  obtain ⟨b, o, e, hA⟩ := open_cells (w := W) (a := ⟨0, 0, none⟩) (cs := wcells kTab) (by decide) (fun j hj => by
    rw [add_addr, Nat.zero_add, Lib.TabIs.cell ht hg j (by simpa [kInts] using hj)]
    have hj' : j < kTab.length := by simpa using hj
    rw [wcells_at hj']
    simp [kInts, List.getD, hj'])
  cases e
  exact hA
/-- A world in which the words are laid. -/
noncomputable def laidWorld (os : Os) : World :=
  let w0 := World.holding Tryd.prog os ⟨#[], #[], []⟩
  { w0 with heap := w0.heap.modify 0 fun
      | .cells _ t frozen => .cells (wcells kTab).toArray t frozen
      | o => o }
theorem laidWorld_met (os : Os) (args : Array Value) : laidMetH Tryd.prog laidL ((laidWorld os).forCall (fun _ _ => 0) ⟨#[], args, []⟩).memory := by
  have h : laidMet Tryd.prog laidL ((laidWorld os).forCall (fun _ _ => 0) ⟨#[], args, []⟩).memory := laidMet_of_run' 5 (by kernel_rfl) (by kernel_rfl)
  exact h
theorem lift_lawD {f : FuncId} {fn : Func} {s : ChangeSpec} {fresh handsOn : Bool} {tb : TypeId} (os : Os) (started : os.Started) (H : Type) (enc : TypeId × Value → H)
    (hf : Tryd.prog.funcs[f]? = some fn) (noInit : Tryd.prog.inits.idxOf? f = none) (hv : s.vars = []) (hres : fn.resultTypes = #[tb]) (hu : Tryd.prog.underlying tb = some .bool) (hts : ∀ t ∈ fn.params.toList, t < Tryd.prog.types.size)
    (hwit : ∃ (w : World) (tape : Tape) (i : Input), w.os = os ∧ (w.forCall tape i).Shaped Tryd.checked.prog ∧ i.vars = [] ∧ Input.okWide Tryd.checked.prog (w.forCall tape i) .any w.heap.size f i ∧
      ((s.pre enc Tryd.checked.prog fn [] false (w.forCall tape i).memory i.args ∧ laidMetH Tryd.prog laidL (w.forCall tape i).memory) ∧ sizedMet enc Tryd.checked.prog fn (OpenSpec.ofChange s) false (w.forCall tape i).memory i.args) ∧ Assume.holds {} Tryd.checked.prog (lone (Frame.enter Tryd.checked.prog f i.args .normal) [] (w.forCall tape i)))
    (hs : ∀ ds : List (DataW H), ds.length = fn.params.size → s.fn H (ds ++ []) = { results := [.lit (.bool true)], args := ds })
    (walk : ∀ (W : World) (base : Nat) (args : Array Value) (ds : List (DataW H)) (p : List MemPlace), (∀ (j : Nat) t v, fn.params[j]? = some t → args[j]? = some v → Value.okWide Tryd.prog W .any base t v) →
      DataW.TrodAll enc Tryd.prog W 0 (fun _ => true) true fn.params.toList args.toList ds p → Kt W → Does Tryd.prog f args W fun v w' => v = .bool true ∧ Ext W w') :
    ReturnsInHanded {} Tryd.checked os f .any (fun w args => (s.pre enc Tryd.checked.prog fn [] false w args ∧ laidMetH Tryd.prog laidL w) ∧ sizedMet enc Tryd.checked.prog fn (OpenSpec.ofChange s) false w args) (s.post enc Tryd.checked.prog fn false fresh handsOn false) := by
  refine returnsInHanded_of_change_and (C := Tryd.checked) (X := fun w _ => laidMetH Tryd.prog laidL w) (fun _ _ _ hh h => h.of_heap hh) own0 started noInit hf hwit ?_
  intro W base args ds gs before hval hW _ _ hL _
  obtain ⟨p, q, hA, hV, rfl, hfz, hnd⟩ := hW
  rw [hv] at hV
  obtain ⟨rfl, rfl⟩ := trodVars_none hV
  have hlen : ∀ {ts : List TypeId} {vs : List Value} {ds : List (DataW H)} {ps : List MemPlace}, DataW.TrodAll enc Tryd.prog W 0 (fun _ => true) true ts vs ds ps → ds.length = ts.length := by
    intro ts
    induction ts with
    | nil => intro vs ds ps h; cases vs <;> cases ds <;> simp_all [DataW.TrodAll]
    | cons t ts ih =>
      intro vs ds ps h
      cases vs with
      | nil => simp [DataW.TrodAll] at h
      | cons v vs =>
        cases ds with
        | nil => simp [DataW.TrodAll] at h
        | cons d ds =>
          obtain ⟨p, q, h1, h2, e⟩ := h
          simp [ih h2]
  have hl := hlen hA
  refine (walk W base args ds p hval hA (kt_of_laid hL)).calls.mono fun e W' ⟨v, he, hv', hx⟩ => ⟨v, he, ?_⟩
  subst hv'
  exact post_law kids0 full0 hA (by simpa using hfz) hv (hs ds (by simpa using hl)) hres hu hts hx
end Go.Proofs.YtefneilaongpbaaDoor
