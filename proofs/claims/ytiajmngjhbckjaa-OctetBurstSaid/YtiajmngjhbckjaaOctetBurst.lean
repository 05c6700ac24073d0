/- The core of OctetBurst: whatever the arguments, the call returns true and leaves all old memory; condition: the form's own reach. -/
import Derived.Test.YtiajmngjhbckjaaBurstKey
import Derived.Test.YtiajmngjhbckjaaOpen
namespace Go.Proofs.Ytiajmngjhbckjaa.octetBurst
open Go.ChangeShapes Go.WideShapes Go.ChangeAt Go.RowKit
theorem core {H : Type} (enc : TypeId × Value → H) (W : World) (base : Nat) (args : Array Value) (ds : List (DataW H)) (p : List MemPlace)
    (hval : ∀ (j : Nat) t v, Try.f4.params[j]? = some t → args[j]? = some v → Value.okWide Try.prog W .any base t v)
    (hA : DataW.TrodAll enc Try.prog W 0 (fun _ => true) true Try.f4.params.toList args.toList ds p)
    (hz : (DataW.weightsEach Try.prog (Try.f4.params.toList ++ []) (ds ++ [])).all (· ≤ reachBytes) = true) :
    Calls Try.prog 4 args W fun e W' => e = .returned (.bool true) ∧ Below W.heap.size W W' := by
  rw [Try.params4] at hA hval hz
  obtain ⟨v0, vs0, d0, ds0, p0, q0, hargs, rfl, rfl, h0, r0⟩ := trodAll_cons hA
  obtain ⟨v1, vs1, d1, ds1, p1, q1, rfl, rfl, rfl, h1, r1⟩ := trodAll_cons r0
  obtain ⟨v2, vs2, d2, ds2, p2, q2, rfl, rfl, rfl, h2, r2⟩ := trodAll_cons r1
  obtain ⟨rfl, rfl, rfl⟩ := trodAll_nil r2
  obtain rfl : args = #[v0, v1, v2] := by cases args; simp_all
  have c5 : Try.prog.cellsOf 5 = 1 := by kernel_rfl
  obtain ⟨A, n, c, l, rfl, hR, hb, hnc, hcm, hl, _⟩ := open_bytes Try.underlying23 Try.underlying5 c5 (hval 0 23 v0 rfl rfl) h0
  obtain ⟨a, rfl, rfl, rfl, wa⟩ := open_int Try.underlying3 (hval 1 3 v1 rfl rfl) h1
  obtain ⟨m, rfl, rfl, rfl, wm⟩ := open_int Try.underlying25 (hval 2 25 v2 rfl rfl) h2
  have hsz := sized_ints' (j := 0) hz rfl rfl Try.underlying23 Try.underlying5 c5 (show Try.prog.bytesOf 5 = 1 by kernel_rfl) h0
  have hn : n ≤ 140737488351232 := by omega
  have hm := bounds_u32 wm
  by_cases ho : a < 0 ∨ n = 0
  · exact burst_out A n c l a m W hR hn ho
  · obtain ⟨k, rfl⟩ := Int.eq_ofNat_of_zero_le hm.1
    exact burst_in A n c l a k W hR hb hn (by omega) (by omega) (by omega) fun p hp => burst_key l k hb p (by omega)
end Go.Proofs.Ytiajmngjhbckjaa.octetBurst
