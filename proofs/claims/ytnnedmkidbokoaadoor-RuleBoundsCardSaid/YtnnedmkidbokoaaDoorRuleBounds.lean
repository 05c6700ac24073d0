/- The core of RuleBounds: whatever the argument, the call returns true; condition: the table reads as the row lists it. -/
import Derived.Test.YtnnedmkidbokoaaDoorBounds
import Derived.Test.YtnnedmkidbokoaaDoorLawKit
namespace Go.Proofs.YtnnedmkidbokoaaDoor.ruleBounds
open Go.ChangeShapes Go.WideShapes Go.ChangeAt Go.RowKit
theorem core {H : Type} (enc : TypeId × Value → H) (W : World) (base : Nat) (args : Array Value) (ds : List (DataW H)) (p : List MemPlace)
    (hval : ∀ (j : Nat) t v, Tryd.f6.params[j]? = some t → args[j]? = some v → Value.okWide Tryd.prog W .any base t v)
    (hA : DataW.TrodAll enc Tryd.prog W 0 (fun _ => true) true Tryd.f6.params.toList args.toList ds p) (hL : laidMetH Tryd.prog Rows.ruleBoundsRow.laid W) :
    Calls Tryd.prog 6 args W fun e W' => e = .returned (.bool true) ∧ Below W.heap.size W W' := by
  rw [Tryd.params6] at hA hval
  obtain ⟨v0, vs0, d0, ds0, p0, q0, hargs, rfl, rfl, h0, r0⟩ := trodAll_cons hA
  obtain ⟨rfl, rfl, rfl⟩ := trodAll_nil r0
  obtain rfl : args = #[v0] := by cases args; simp_all
  obtain ⟨e0, e1, e4, e5, e6, e8, s0, l1, l2, q2, q5, sec, ro, st, ex, min, pay, fg, ty, off, len, A, n, c, rfl, hmi, hpa, hfg, hty, hof, hle⟩ := open_case (hval 0 38 v0 rfl rfl) h0
  exact bounds_walk e0 e1 e4 e5 e6 e8 s0 l1 l2 q2 q5 sec ro st ex min pay fg ty off len A n c W hmi hpa hfg hty hof hle (tab_of_laid hL)
end Go.Proofs.YtnnedmkidbokoaaDoor.ruleBounds
