/- The core of RecentLast: whatever the arguments, the call returns true and leaves all old memory; condition: the form's own reach. -/
import Derived.Test.YtjddjjfcongnlaaLast
import Derived.Test.YtjddjjfcongnlaaOpenInts
namespace Go.Proofs.Ytjddjjfcongnlaa.recentLast
open Go.ChangeShapes Go.WideShapes Go.ChangeAt Go.RowKit
set_option maxRecDepth 100000 in
theorem core {H : Type} (enc : TypeId × Value → H) (W : World) (base : Nat) (args : Array Value) (ds : List (DataW H)) (p : List MemPlace)
    (hval : ∀ (j : Nat) t v, Try.f5.params[j]? = some t → args[j]? = some v → Value.okWide Try.prog W .any base t v)
    (hA : DataW.TrodAll enc Try.prog W 0 (fun _ => true) true Try.f5.params.toList args.toList ds p)
    (hz : (DataW.weightsEach Try.prog (Try.f5.params.toList ++ []) (ds ++ [])).all (· ≤ reachBytes) = true) :
    Calls Try.prog 5 args W fun e W' => e = .returned (.bool true) ∧ Below W.heap.size W W' := by
  rw [Try.params5] at hA hval hz
  obtain ⟨v0, vs0, d0, ds0, p0, q0, hargs, rfl, rfl, h0, r0⟩ := trodAll_cons hA
  obtain ⟨v1, vs1, d1, ds1, p1, q1, rfl, rfl, rfl, h1, r1⟩ := trodAll_cons r0
  obtain ⟨rfl, rfl, rfl⟩ := trodAll_nil r1
  obtain rfl : args = #[v0, v1] := by cases args; simp_all
  have c3 : Try.prog.cellsOf 3 = 1 := by kernel_rfl
  obtain ⟨n, rfl, rfl, rfl, wn⟩ := open_int Try.underlying3 (hval 0 3 v0 rfl rfl) h0
  obtain ⟨A, m, c, us, rfl, hR, hok, hmc, hcm, hl⟩ := open_i64s Try.underlying31 Try.underlying3 c3 (hval 1 31 v1 rfl rfl) h1
  have hsz := sized_ints' (j := 1) hz rfl rfl Try.underlying31 Try.underlying3 c3 (show Try.prog.bytesOf 3 = 8 by kernel_rfl) h1
  have hn := bounds_i64 wn
  exact lastLaw_any n A m c us W hR hok (by omega) (by omega)
end Go.Proofs.Ytjddjjfcongnlaa.recentLast
