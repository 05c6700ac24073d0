/- The core of OctetSums: whatever the argument, the call returns true and leaves all old memory; condition: the argument's bulk is at most 1048576. -/
import Derived.Test.YtiajmngjhbckjaaSumsWalk
import Derived.Test.YtiajmngjhbckjaaBulk2
namespace Go.Proofs.Ytiajmngjhbckjaa.octetSumsUpto
open Go.ChangeShapes Go.WideShapes Go.ChangeAt Go.RowKit
theorem core {H : Type} (enc : TypeId × Value → H) (W : World) (base : Nat) (args : Array Value) (ds : List (DataW H)) (p : List MemPlace)
    (hval : ∀ (j : Nat) t v, Try.f3.params[j]? = some t → args[j]? = some v → Value.okWide Try.prog W .any base t v)
    (hA : DataW.TrodAll enc Try.prog W 0 (fun _ => true) true Try.f3.params.toList args.toList ds p)
    (hk : Rows.uptoSmall H ds = true) :
    Calls Try.prog 3 args W fun e W' => e = .returned (.bool true) ∧ Below W.heap.size W W' := by
  rw [Try.params3] at hA hval
  obtain ⟨v0, vs0, d0, ds0, p0, q0, hargs, rfl, rfl, h0, r0⟩ := trodAll_cons hA
  obtain ⟨rfl, rfl, rfl⟩ := trodAll_nil r0
  obtain rfl : args = #[v0] := by cases args; simp_all
  have c5 : Try.prog.cellsOf 5 = 1 := by kernel_rfl
  have c23 : Try.prog.cellsOf 23 = 1 := by kernel_rfl
  obtain ⟨A, n, c, ls, rfl, hP, hnc, hcm, hd⟩ := open_parts Try.underlying22 Try.underlying23 Try.underlying5 c5 c23 (hval 0 22 v0 rfl rfl) h0
  have hb := bulks.bound hk
  simp only [Rows.uptoBulkAll] at hb
  have hln := hP.1
  have hbound : n ≤ 1048576 ∧ ls.flatten.length ≤ 1048576 := by
    rcases hd with ⟨_, rfl⟩ | ⟨es, sp, rfl, hes, hel⟩
    · simp at hln; subst hln; simp
    · have h1 := bulks.slice_le es sp
      have h2 := bulks.slice_elems es sp
      have h3 := bulk_flatten ls es hel
      omega
  exact sums_walk A n c ls W hP hbound.1 hbound.2
end Go.Proofs.Ytiajmngjhbckjaa.octetSumsUpto
