/- The core of OctetNobody: whatever the arguments, the call returns true and leaves all old memory; condition: the two tables of utf8 read as the row lists them. -/
import Derived.Test.YtiajmngjhbckjaaDoorNobody
import Derived.Test.YtiajmngjhbckjaaDoorOpenW
import Derived.Test.YtiajmngjhbckjaaDoorOctetPlain
namespace Go.Proofs.YtiajmngjhbckjaaDoor
theorem tabs_two {W : World} (h : Lib.Utf8Tabs 0 1 W) : 2 ≤ W.heap.size := by
  have := lt_of_cell (h.2 0 (by omega)).1
  exact this
end Go.Proofs.YtiajmngjhbckjaaDoor
namespace Go.Proofs.YtiajmngjhbckjaaDoor.octetNobody
open Go.ChangeShapes Go.WideShapes Go.ChangeAt Go.RowKit
set_option maxRecDepth 100000 in
theorem core {H : Type} (enc : TypeId × Value → H) (W : World) (base : Nat) (args : Array Value) (ds : List (DataW H)) (p : List MemPlace)
    (hval : ∀ (j : Nat) t v, Tryd.f8.params[j]? = some t → args[j]? = some v → Value.okWide Tryd.prog W .any base t v)
    (hA : DataW.TrodAll enc Tryd.prog W 0 (fun _ => true) true Tryd.f8.params.toList args.toList ds p) (hL : laidMetH Tryd.prog Rows.octetNobodyRow.laid W) :
    Calls Tryd.prog 8 args W fun e W' => e = .returned (.bool true) ∧ Below W.heap.size W W' := by
  rw [Tryd.params8] at hA hval
  obtain ⟨v0, vs0, d0, ds0, p0, q0, hargs, rfl, rfl, h0, r0⟩ := trodAll_cons hA
  obtain ⟨v1, vs1, d1, ds1, p1, q1, rfl, rfl, rfl, h1, r1⟩ := trodAll_cons r0
  obtain ⟨rfl, rfl, rfl⟩ := trodAll_nil r1
  obtain rfl : args = #[v0, v1] := by cases args; simp_all
  obtain ⟨cs0, rfl, hsz0⟩ := okWide_struct Tryd.underlying32 (hval 0 32 v0 rfl rfl)
  obtain ⟨cs1, rfl, hsz1⟩ := okWide_struct Tryd.underlying48 (hval 1 48 v1 rfl rfl)
  rw [show Tryd.prog.cellsOf 32 = 5 by kernel_rfl] at hsz0
  rw [show Tryd.prog.cellsOf 48 = 2 by kernel_rfl] at hsz1
  have k3 : Tryd.prog.cellsOf 3 = 1 := by kernel_rfl
  obtain ⟨fuel0, hf0⟩ := h0
  obtain ⟨fuel1, hf1⟩ := h1
  simp only [Value.cells] at hf0 hf1
  obtain ⟨y, hy, _, _⟩ := write_of_trod (by rw [Array.length_toList]; exact hsz0) hf0
  obtain rfl : cs0 = wArg y.j y.z y.n y.A y.m y.c y.s := Array.ext' hy
  obtain ⟨a, b, hab⟩ : ∃ a b, cs1.toList = [a, b] := by
    match h : cs1.toList, (by rw [Array.length_toList]; exact hsz1 : cs1.toList.length = 2) with
    | [a, b], _ => exact ⟨a, b, rfl⟩
  rw [hab] at hf1
  obtain ⟨n0, x0, f0, _⟩ := field_at Tryd.underlying48 hf1 0 _ rfl
  replace f0 : DataW.trod enc Tryd.prog W 0 (fun _ => true) true n0 3 [a] = some x0 := by simpa [k3] using f0
  obtain ⟨j, hc, _, _⟩ := DataW.trod_int Tryd.underlying3 f0
  obtain rfl : a = .int .i64 j := by simpa using hc
  obtain ⟨n1, x1, f1, _⟩ := field_at Tryd.underlying48 hf1 1 _ rfl
  replace f1 : DataW.trod enc Tryd.prog W 0 (fun _ => true) true n1 3 [b] = some x1 := by simpa [k3] using f1
  obtain ⟨n, hc, _, _⟩ := DataW.trod_int Tryd.underlying3 f1
  obtain rfl : b = .int .i64 n := by simpa using hc
  obtain rfl : cs1 = #[.int .i64 j, .int .i64 n] := Array.ext' hab
  have hl : Rows.octetNobodyRow.laid = [("unicode/utf8.acceptRanges", Rows.laid_unicode_utf8_acceptRanges), ("unicode/utf8.first", Rows.laid_unicode_utf8_first)] := by kernel_rfl
  rw [hl] at hL
  have hT := tabs_laid hL
  exact nobody_any y.j y.n y.z y.A y.m y.c y.s j n W hT (tabs_two hT)
end Go.Proofs.YtiajmngjhbckjaaDoor.octetNobody
