/- The core of OctetPlain: whatever the argument, the call returns true and leaves all old memory; condition: the two tables of utf8 read as the row lists them. -/
import Derived.Test.YtiajmngjhbckjaaDoorPlain
import Derived.Test.YtiajmngjhbckjaaDoorLawKit
import Derived.ChangeMaps5
namespace Go.Proofs.YtiajmngjhbckjaaDoor
open Go.RowKit
theorem first_data : Lib.firstData = Rows.laid_unicode_utf8_first := by kernel_rfl
theorem accept_data : Lib.acceptData = Rows.laid_unicode_utf8_acceptRanges := by kernel_rfl
theorem tabs_laid {W : World} (h : laidMetH Tryd.prog [("unicode/utf8.acceptRanges", Rows.laid_unicode_utf8_acceptRanges), ("unicode/utf8.first", Rows.laid_unicode_utf8_first)] W) : Lib.Utf8Tabs 0 1 W := by
  have h' : laidMet Tryd.prog [("unicode/utf8.acceptRanges", Rows.laid_unicode_utf8_acceptRanges), ("unicode/utf8.first", Rows.laid_unicode_utf8_first)] W := h
  exact tabs_of (Lib.laidMet.reads h' (by rw [first_data]; simp)) (Lib.laidMet.reads h' (by rw [accept_data]; simp))
theorem plain_c1 : plainL [97, 195, 169] = true := by decide +kernel
theorem plain_c2 : plainL [97, 0] = false := by decide +kernel
theorem octetPlain_any (s : ByteArray) (w : World) (hs : s.size ≤ 9223372036854775807) (hT : Lib.Utf8Tabs 0 1 w) :
    Calls Tryd.prog 3 #[.string s] w fun e w' => e = .returned (.bool true) ∧ Below w.heap.size w w' := by
  obtain ⟨R, hR⟩ : ∃ R, plainL s.data.toList = R := ⟨_, rfl⟩
  go_enter Tryd.func3, Tryd.ntmps3
  go_wp2_with fail
  refine (plain_any s w hs hT).mono ?_
  rintro e w1 ⟨rfl, hb1⟩
  have hT1 := Utf8Tabs_below hT hb1
  rw [hR]
  go_wp2_with fail
  refine (rplain_any s w1 hs).mono ?_
  rintro e w2 ⟨rfl, rfl⟩
  rw [hR]
  go_wp2_with fail
  refine (plain_any _ w2 (by decide) hT1).mono ?_
  rintro e w3 ⟨rfl, hb3⟩
  have hT3 := Utf8Tabs_below hT1 hb3
  have hb2 := hb1.trans (hb3.mono hb1.size)
  rw [plain_c1]
  go_wp2_with fail
  refine (plain_any _ w3 (by decide) hT3).mono ?_
  rintro e w4 ⟨rfl, hb4⟩
  have hb5 := hb2.trans (hb4.mono hb2.size)
  rw [plain_c2]
  go_wp2_with fail
  go_ret
  exact ⟨rfl, hb5⟩
end Go.Proofs.YtiajmngjhbckjaaDoor
namespace Go.Proofs.YtiajmngjhbckjaaDoor.octetPlain
open Go.ChangeShapes Go.WideShapes Go.ChangeAt Go.RowKit
set_option maxRecDepth 100000 in
theorem core {H : Type} (enc : TypeId × Value → H) (W : World) (base : Nat) (args : Array Value) (ds : List (DataW H)) (p : List MemPlace)
    (hval : ∀ (j : Nat) t v, Tryd.f3.params[j]? = some t → args[j]? = some v → Value.okWide Tryd.prog W .any base t v)
    (hA : DataW.TrodAll enc Tryd.prog W 0 (fun _ => true) true Tryd.f3.params.toList args.toList ds p) (hL : laidMetH Tryd.prog Rows.octetPlainRow.laid W) :
    Calls Tryd.prog 3 args W fun e W' => e = .returned (.bool true) ∧ Below W.heap.size W W' := by
  rw [Tryd.params3] at hA hval
  obtain ⟨v0, vs0, d0, ds0, p0, q0, hargs, rfl, rfl, h0, r0⟩ := trodAll_cons hA
  obtain ⟨rfl, rfl, rfl⟩ := trodAll_nil r0
  obtain rfl : args = #[v0] := by cases args; simp_all
  have hv0 := hval 0 9 v0 (by simp) (by simp)
  obtain ⟨s, rfl, rfl, _, hs⟩ := Go.ChangeMaps.open_string (r := .any) (b0 := base) Tryd.underlying9 hv0 h0
  have hl : Rows.octetPlainRow.laid = [("unicode/utf8.acceptRanges", Rows.laid_unicode_utf8_acceptRanges), ("unicode/utf8.first", Rows.laid_unicode_utf8_first)] := by kernel_rfl
  rw [hl] at hL
  have hs' : s.size ≤ 9223372036854775807 := by simp only [maxLen] at hs; omega
  have hT := tabs_laid hL
  exact octetPlain_any s W hs' hT
end Go.Proofs.YtiajmngjhbckjaaDoor.octetPlain
