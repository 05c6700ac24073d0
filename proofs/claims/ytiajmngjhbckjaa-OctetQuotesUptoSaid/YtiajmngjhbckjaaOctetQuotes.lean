/- The core of OctetQuotes: whatever the arguments, the call returns true and leaves all old memory; condition: the arguments' bulk is at most 1048576. -/
import Derived.Test.YtiajmngjhbckjaaQuoteLaws
import Derived.Test.YtiajmngjhbckjaaBulk2
import Derived.Test.YtiajmngjhbckjaaOpen2
import Derived.ChangeMaps5
namespace Go.Proofs.Ytiajmngjhbckjaa.octetQuotesUpto
open Go.ChangeShapes Go.WideShapes Go.ChangeAt Go.RowKit
theorem core {H : Type} (enc : TypeId × Value → H) (W : World) (base : Nat) (args : Array Value) (ds : List (DataW H)) (p : List MemPlace)
    (hval : ∀ (j : Nat) t v, Try.f6.params[j]? = some t → args[j]? = some v → Value.okWide Try.prog W .any base t v)
    (hA : DataW.TrodAll enc Try.prog W 0 (fun _ => true) true Try.f6.params.toList args.toList ds p)
    (hk : Rows.uptoSmall H ds = true) :
    Calls Try.prog 6 args W fun e W' => e = .returned (.bool true) ∧ Below W.heap.size W W' := by
  rw [Try.params6] at hA hval
  obtain ⟨v0, vs0, d0, ds0, p0, q0, hargs, rfl, rfl, h0, r0⟩ := trodAll_cons hA
  obtain ⟨v1, vs1, d1, ds1, p1, q1, rfl, rfl, rfl, h1, r1⟩ := trodAll_cons r0
  obtain ⟨rfl, rfl, rfl⟩ := trodAll_nil r1
  obtain rfl : args = #[v0, v1] := by cases args; simp_all
  obtain ⟨s, rfl, rfl, _⟩ := Go.ChangeMaps.open_string Try.underlying9 (hval 0 9 v0 rfl rfl) h0
  obtain ⟨t, rfl, rfl, _⟩ := Go.ChangeMaps.open_string Try.underlying9 (hval 1 9 v1 rfl rfl) h1
  have hbk := bulks.bound hk
  simp only [Rows.uptoBulkAll, bulks.string_eq] at hbk
  have hs : s.size ≤ 1048576 := by
    have : s.data.toList.length = s.size := Array.length_toList
    omega
  have ht : t.size ≤ 1048576 := by
    have : t.data.toList.length = t.size := Array.length_toList
    omega
  exact quotes_any s t W hs ht
end Go.Proofs.Ytiajmngjhbckjaa.octetQuotesUpto
