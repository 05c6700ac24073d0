/- The core of OctetWrites: whatever the arguments, the call returns true and leaves all old memory; conditions: the arguments' bulk is at most 1048576; the two tables of utf8 read as the row lists them. -/
import Derived.Test.YtiajmngjhbckjaaDoorWritesLaw
import Derived.Test.YtiajmngjhbckjaaDoorOctetPlain
import Derived.Test.YtiajmngjhbckjaaDoorTwo
namespace Go.Proofs.YtiajmngjhbckjaaDoor.octetWritesUpto
open Go.ChangeShapes Go.WideShapes Go.ChangeAt Go.RowKit
set_option maxRecDepth 100000 in
theorem core {H : Type} (enc : TypeId × Value → H) (W : World) (base : Nat) (args : Array Value) (ds : List (DataW H)) (p : List MemPlace)
    (hval : ∀ (j : Nat) t v, Tryd.f4.params[j]? = some t → args[j]? = some v → Value.okWide Tryd.prog W .any base t v)
    (hA : DataW.TrodAll enc Tryd.prog W 0 (fun _ => true) true Tryd.f4.params.toList args.toList ds p) (hL : laidMetH Tryd.prog Rows.octetWritesUptoRow.laid W)
    (hk : Rows.uptoSmall H ds = true) :
    Calls Tryd.prog 4 args W fun e W' => e = .returned (.bool true) ∧ Below W.heap.size W W' := by
  rw [Tryd.params4] at hA hval
  obtain ⟨v0, vs0, d0, ds0, p0, q0, hargs, rfl, rfl, h0, r0⟩ := trodAll_cons hA
  obtain ⟨rfl, rfl, rfl⟩ := trodAll_nil r0
  obtain rfl : args = #[v0] := by cases args; simp_all
  obtain ⟨A, n, c, xs, rfl, hl, hx, _, _, hb⟩ := open_writes (hval 0 23 v0 rfl rfl) h0
  have hbk := bulks.bound hk
  simp only [Rows.uptoBulkAll] at hbk
  have hl' : Rows.octetWritesUptoRow.laid = [("unicode/utf8.acceptRanges", Rows.laid_unicode_utf8_acceptRanges), ("unicode/utf8.first", Rows.laid_unicode_utf8_first)] := by kernel_rfl
  rw [hl'] at hL
  have hT := tabs_laid hL
  exact writes_any A n c xs W hl hx (by omega) (by omega) hT (tabs_two' hT)
end Go.Proofs.YtiajmngjhbckjaaDoor.octetWritesUpto
