/- RuleCommands returns true for every number of a command; condition: the table reads as the row lists it. -/
import Derived.Test.YtnnedmkidbokoaaDoorBase
import Derived.Outline
import Derived.Deep.RegionWith
namespace Go.Proofs.YtnnedmkidbokoaaDoor
open Go.RowKit
theorem commands_walk (c : Int) (w : World) (h0 : 0 ≤ c) (h : c ≤ 65535) (hT : Tab w) :
    Calls Tryd.prog 3 #[.int .u16 c] w fun e w' => e = .returned (.bool true) ∧ Below w.heap.size w w' := by
  have HT := Lib.hid hT
  have hz := hT.1; clear hT
  have e1 : fl 6 = 19 := rfl
  have e2 : ch 1 = true := rfl
  go_enter Tryd.func3, Tryd.ntmps3
  go_wp2_with fail
  refine (known _ _ h0 h).mono ?_; rintro e w' ⟨rfl, rfl⟩
  go_wp2_with fail
  refine (rknown _ _ h0 h).mono ?_; rintro e w' ⟨rfl, rfl⟩
  go_wp2_with fail
  refine (allowed _ _ h0 h HT.out).mono ?_; rintro e w1 ⟨rfl, hb1⟩
  have HT1 := Lib.hid (HT.out.below hz hb1); have B1 := Lib.hid hb1; clear hb1
  go_wp2_with fail
  refine (rallowed _ _ h0 h).mono ?_; rintro e w' ⟨rfl, rfl⟩
  go_wp2_with fail
  refine (changes _ _ h0 h HT1.out).mono ?_; rintro e w2 ⟨rfl, hb1⟩
  have HT2 := Lib.hid (HT1.out.below HT1.out.1 hb1); have B2 := Lib.hid hb1; clear hb1
  go_wp2_with fail
  refine (rchanges _ _ h0 h).mono ?_; rintro e w' ⟨rfl, rfl⟩
  go_wp2_with fail
  refine (known _ _ (by omega) (by omega)).mono ?_; rintro e w' ⟨rfl, rfl⟩
  go_wp2_with fail
  refine (changes _ _ (by omega) (by omega) HT2.out).mono ?_; rintro e w3 ⟨rfl, hb1⟩
  have HT3 := Lib.hid (HT2.out.below HT2.out.1 hb1); have B3 := Lib.hid hb1; clear hb1
  go_wp2_with fail
  refine (allowed _ _ (by omega) (by omega) HT3.out).mono ?_; rintro e w4 ⟨rfl, hb1⟩
  have B4 := Lib.hid hb1; clear hb1
  go_wp2_with fail
  go_ret
  exact ⟨rfl, B1.out.trans ((B2.out.mono B1.out.size).trans ((B3.out.mono (Nat.le_trans B1.out.size B2.out.size)).trans (B4.out.mono (Nat.le_trans B1.out.size (Nat.le_trans B2.out.size B3.out.size)))))⟩
end Go.Proofs.YtnnedmkidbokoaaDoor
