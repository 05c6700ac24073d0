/- The core of RuleCommands: whatever the argument, the call returns true; condition: the table reads as the row lists it. -/
import Derived.Test.YtnnedmkidbokoaaDoorCommands
import Derived.Test.YtnnedmkidbokoaaDoorLawKit
namespace Go.Proofs.YtnnedmkidbokoaaDoor.ruleCommands
open Go.ChangeShapes Go.WideShapes Go.ChangeAt Go.RowKit
theorem core {H : Type} (enc : TypeId × Value → H) (W : World) (base : Nat) (args : Array Value) (ds : List (DataW H)) (p : List MemPlace)
    (hval : ∀ (j : Nat) t v, Tryd.f3.params[j]? = some t → args[j]? = some v → Value.okWide Tryd.prog W .any base t v)
    (hA : DataW.TrodAll enc Tryd.prog W 0 (fun _ => true) true Tryd.f3.params.toList args.toList ds p) (hL : laidMetH Tryd.prog Rows.ruleCommandsRow.laid W) :
    Calls Tryd.prog 3 args W fun e W' => e = .returned (.bool true) ∧ Below W.heap.size W W' := by
  rw [Tryd.params3] at hA hval
  obtain ⟨v0, vs0, d0, ds0, p0, q0, hargs, rfl, rfl, h0, r0⟩ := trodAll_cons hA
  obtain ⟨rfl, rfl, rfl⟩ := trodAll_nil r0
  obtain rfl : args = #[v0] := by cases args; simp_all
  obtain ⟨c, rfl, rfl, rfl, wc⟩ := open_int Tryd.underlying22 (hval 0 22 v0 rfl rfl) h0
  have hb := bounds_u16 wc
  exact commands_walk c W hb.1 hb.2 (tab_of_laid hL)
end Go.Proofs.YtnnedmkidbokoaaDoor.ruleCommands
