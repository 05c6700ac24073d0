/- The contracts of heads and ranged. -/
import Derived.Test.YtnnedmkidbokoaaDoorCheck
namespace Go.Proofs.YtnnedmkidbokoaaDoor
open Go.RowKit
theorem ranged_any (c : Int) (w : World) : Calls Tryd.prog 15 #[.int .u16 c] w fun e w' => e = .returned (.bool (c != 2 && c != 3)) ∧ w = w' := by
  by_cases h2 : c = 2
  · subst h2
    go_enter Tryd.func15, Tryd.ntmps15
    go_wp2
    go_ret
    exact ⟨rfl, rfl⟩
  · have h : (c != 2) = true := by simpa using h2
    rw [h]
    go_enter Tryd.func15, Tryd.ntmps15
    go_wp2
    go_ret
    exact ⟨by simp, rfl⟩
set_option maxRecDepth 100000 in
set_option maxHeartbeats 1000000 in
theorem heads_any (w : World) (hT : Tab w) : Calls Tryd.prog 14 #[] w fun e w' => e = .returned (.bool true) ∧ Below w.heap.size w w' := by
  have hz := hT.1
  have k1 : chk 8 false false false 512 1024 0 0 0 1024 0 = 0 := by decide +kernel
  have k2 : chk 8 false false false 512 1024 0 1 3584 1024 0 = 28 := by decide +kernel
  have k3 : chk 8 false false false 512 1024 0 4 3584 1024 0 = 22 := by decide +kernel
  have k4 : chk 8 false false false 512 1024 0 8 0 0 0 = 22 := by decide +kernel
  have K1 := Lib.hid k1; have K2 := Lib.hid k2; have K3 := Lib.hid k3; have K4 := Lib.hid k4; clear k1 k2 k3 k4
  go_enter Tryd.func14, Tryd.ntmps14
  go_wp2_with fail
  obtain ⟨W, hW⟩ : ∃ W, W = ((w.alloc (.cells #[.string ⟨#[97]⟩, .string ⟨#[]⟩, .int .i64 8, .bool false, .bool false, .bool false, .bool false, .int .u32 512, .int .u32 512] 27)).alloc (.cells #[.int .u32 1024, .int .u32 64, .int .i64 1] 32)).alloc (.cells #[.int .i64 0, .bool false, .bool false, .slice none 0 0] 30) := ⟨_, rfl⟩
  have hwb : Below w.heap.size w W := by rw [hW]; exact (((Below.refl w.heap.size w).alloc (Nat.le_refl _) _).alloc (by simp) _).alloc (by simp; omega) _
  have hcell : ∀ (b o : Nat), W.cell? ⟨b, o, none⟩ = (((w.alloc (.cells #[.string ⟨#[97]⟩, .string ⟨#[]⟩, .int .i64 8, .bool false, .bool false, .bool false, .bool false, .int .u32 512, .int .u32 512] 27)).alloc (.cells #[.int .u32 1024, .int .u32 64, .int .i64 1] 32)).alloc (.cells #[.int .i64 0, .bool false, .bool false, .slice none 0 0] 30) : World).cell? ⟨b, o, none⟩ := fun b o => by rw [hW]
  have hsz : w.heap.size + 2 < W.heap.size := by rw [hW]; simp
  have e0 : W.cell? ⟨w.heap.size, 0, none⟩ = some (.string ⟨#[97]⟩) := by rw [hcell]; simp [go_sem]
  have e1 : W.cell? ⟨w.heap.size, 1, none⟩ = some (.string ⟨#[]⟩) := by rw [hcell]; simp [go_sem]
  have e2 : W.cell? ⟨w.heap.size, 2, none⟩ = some (.int .i64 8) := by rw [hcell]; simp [go_sem]
  have e3 : W.cell? ⟨w.heap.size, 3, none⟩ = some (.bool false) := by rw [hcell]; simp [go_sem]
  have e4 : W.cell? ⟨w.heap.size, 4, none⟩ = some (.bool false) := by rw [hcell]; simp [go_sem]
  have e5 : W.cell? ⟨w.heap.size, 5, none⟩ = some (.bool false) := by rw [hcell]; simp [go_sem]
  have e6 : W.cell? ⟨w.heap.size, 6, none⟩ = some (.bool false) := by rw [hcell]; simp [go_sem]
  have e7 : W.cell? ⟨w.heap.size, 7, none⟩ = some (.int .u32 512) := by rw [hcell]; simp [go_sem]
  have e8 : W.cell? ⟨w.heap.size, 8, none⟩ = some (.int .u32 512) := by rw [hcell]; simp [go_sem]
  have l0 : W.cell? ⟨w.heap.size + 1, 0, none⟩ = some (.int .u32 1024) := by rw [hcell]; simp [go_sem]
  have l1 : W.cell? ⟨w.heap.size + 1, 1, none⟩ = some (.int .u32 64) := by rw [hcell]; simp [go_sem]
  have l2 : W.cell? ⟨w.heap.size + 1, 2, none⟩ = some (.int .i64 1) := by rw [hcell]; simp [go_sem]
  have s0 : W.cell? ⟨w.heap.size + 1 + 1, 0, none⟩ = some (.int .i64 0) := by rw [hcell]; simp [go_sem]
  have s1 : W.cell? ⟨w.heap.size + 1 + 1, 1, none⟩ = some (.bool false) := by rw [hcell]; simp [go_sem]
  have s2 : W.cell? ⟨w.heap.size + 1 + 1, 2, none⟩ = some (.bool false) := by rw [hcell]; simp [go_sem]
  have s3 : W.cell? ⟨w.heap.size + 1 + 1, 3, none⟩ = some (.slice none 0 0) := by rw [hcell]; simp [go_sem]
  rw [← hW]
  have HT1 := Lib.hid (hT.below hz hwb); have HB := Lib.hid hwb; clear hT hwb hW hcell
  refine (check_any _ _ _ _ _ _ _ _ _ _ _ _ _ _ _ _ _ _ _ _ _ _ _ _ _ (by omega) (by omega) (by omega) (by omega) (by omega) (by omega) (by omega) (by omega) HT1.out).mono ?_; rintro e w1 ⟨rfl, hb⟩
  rw [K1.out]
  replace e0 := (hb.cell (p := ⟨w.heap.size, 0, none⟩) (by simp; omega)).trans e0
  replace e1 := (hb.cell (p := ⟨w.heap.size, 1, none⟩) (by simp; omega)).trans e1
  replace e2 := (hb.cell (p := ⟨w.heap.size, 2, none⟩) (by simp; omega)).trans e2
  replace e3 := (hb.cell (p := ⟨w.heap.size, 3, none⟩) (by simp; omega)).trans e3
  replace e4 := (hb.cell (p := ⟨w.heap.size, 4, none⟩) (by simp; omega)).trans e4
  replace e5 := (hb.cell (p := ⟨w.heap.size, 5, none⟩) (by simp; omega)).trans e5
  replace e6 := (hb.cell (p := ⟨w.heap.size, 6, none⟩) (by simp; omega)).trans e6
  replace e7 := (hb.cell (p := ⟨w.heap.size, 7, none⟩) (by simp; omega)).trans e7
  replace e8 := (hb.cell (p := ⟨w.heap.size, 8, none⟩) (by simp; omega)).trans e8
  replace l0 := (hb.cell (p := ⟨w.heap.size + 1, 0, none⟩) (by simp; omega)).trans l0
  replace l1 := (hb.cell (p := ⟨w.heap.size + 1, 1, none⟩) (by simp; omega)).trans l1
  replace l2 := (hb.cell (p := ⟨w.heap.size + 1, 2, none⟩) (by simp; omega)).trans l2
  replace s0 := (hb.cell (p := ⟨w.heap.size + 1 + 1, 0, none⟩) (by simp; omega)).trans s0
  replace s1 := (hb.cell (p := ⟨w.heap.size + 1 + 1, 1, none⟩) (by simp; omega)).trans s1
  replace s2 := (hb.cell (p := ⟨w.heap.size + 1 + 1, 2, none⟩) (by simp; omega)).trans s2
  replace s3 := (hb.cell (p := ⟨w.heap.size + 1 + 1, 3, none⟩) (by simp; omega)).trans s3
  have HT2 := Lib.hid (HT1.out.below HT1.out.1 hb); replace HB := Lib.hid (below_then' HB.out (by omega) hb); have hs1 := hb.size; clear hb
  go_wp2_with fail
  refine (check_any _ _ _ _ _ _ _ _ _ _ _ _ _ _ _ _ _ _ _ _ _ _ _ _ _ (by omega) (by omega) (by omega) (by omega) (by omega) (by omega) (by omega) (by omega) HT2.out).mono ?_; rintro e w2 ⟨rfl, hb⟩
  rw [K2.out]
  replace e0 := (hb.cell (p := ⟨w.heap.size, 0, none⟩) (by simp; omega)).trans e0
  replace e1 := (hb.cell (p := ⟨w.heap.size, 1, none⟩) (by simp; omega)).trans e1
  replace e2 := (hb.cell (p := ⟨w.heap.size, 2, none⟩) (by simp; omega)).trans e2
  replace e3 := (hb.cell (p := ⟨w.heap.size, 3, none⟩) (by simp; omega)).trans e3
  replace e4 := (hb.cell (p := ⟨w.heap.size, 4, none⟩) (by simp; omega)).trans e4
  replace e5 := (hb.cell (p := ⟨w.heap.size, 5, none⟩) (by simp; omega)).trans e5
  replace e6 := (hb.cell (p := ⟨w.heap.size, 6, none⟩) (by simp; omega)).trans e6
  replace e7 := (hb.cell (p := ⟨w.heap.size, 7, none⟩) (by simp; omega)).trans e7
  replace e8 := (hb.cell (p := ⟨w.heap.size, 8, none⟩) (by simp; omega)).trans e8
  replace l0 := (hb.cell (p := ⟨w.heap.size + 1, 0, none⟩) (by simp; omega)).trans l0
  replace l1 := (hb.cell (p := ⟨w.heap.size + 1, 1, none⟩) (by simp; omega)).trans l1
  replace l2 := (hb.cell (p := ⟨w.heap.size + 1, 2, none⟩) (by simp; omega)).trans l2
  replace s0 := (hb.cell (p := ⟨w.heap.size + 1 + 1, 0, none⟩) (by simp; omega)).trans s0
  replace s1 := (hb.cell (p := ⟨w.heap.size + 1 + 1, 1, none⟩) (by simp; omega)).trans s1
  replace s2 := (hb.cell (p := ⟨w.heap.size + 1 + 1, 2, none⟩) (by simp; omega)).trans s2
  replace s3 := (hb.cell (p := ⟨w.heap.size + 1 + 1, 3, none⟩) (by simp; omega)).trans s3
  have HT3 := Lib.hid (HT2.out.below HT2.out.1 hb); replace HB := Lib.hid (below_then' HB.out (by omega) hb); have hs2 := hb.size; clear hb
  go_wp2_with fail
  refine (check_any _ _ _ _ _ _ _ _ _ _ _ _ _ _ _ _ _ _ _ _ _ _ _ _ _ (by omega) (by omega) (by omega) (by omega) (by omega) (by omega) (by omega) (by omega) HT3.out).mono ?_; rintro e w3 ⟨rfl, hb⟩
  rw [K3.out]
  replace e0 := (hb.cell (p := ⟨w.heap.size, 0, none⟩) (by simp; omega)).trans e0
  replace e1 := (hb.cell (p := ⟨w.heap.size, 1, none⟩) (by simp; omega)).trans e1
  replace e2 := (hb.cell (p := ⟨w.heap.size, 2, none⟩) (by simp; omega)).trans e2
  replace e3 := (hb.cell (p := ⟨w.heap.size, 3, none⟩) (by simp; omega)).trans e3
  replace e4 := (hb.cell (p := ⟨w.heap.size, 4, none⟩) (by simp; omega)).trans e4
  replace e5 := (hb.cell (p := ⟨w.heap.size, 5, none⟩) (by simp; omega)).trans e5
  replace e6 := (hb.cell (p := ⟨w.heap.size, 6, none⟩) (by simp; omega)).trans e6
  replace e7 := (hb.cell (p := ⟨w.heap.size, 7, none⟩) (by simp; omega)).trans e7
  replace e8 := (hb.cell (p := ⟨w.heap.size, 8, none⟩) (by simp; omega)).trans e8
  replace l0 := (hb.cell (p := ⟨w.heap.size + 1, 0, none⟩) (by simp; omega)).trans l0
  replace l1 := (hb.cell (p := ⟨w.heap.size + 1, 1, none⟩) (by simp; omega)).trans l1
  replace l2 := (hb.cell (p := ⟨w.heap.size + 1, 2, none⟩) (by simp; omega)).trans l2
  replace s0 := (hb.cell (p := ⟨w.heap.size + 1 + 1, 0, none⟩) (by simp; omega)).trans s0
  replace s1 := (hb.cell (p := ⟨w.heap.size + 1 + 1, 1, none⟩) (by simp; omega)).trans s1
  replace s2 := (hb.cell (p := ⟨w.heap.size + 1 + 1, 2, none⟩) (by simp; omega)).trans s2
  replace s3 := (hb.cell (p := ⟨w.heap.size + 1 + 1, 3, none⟩) (by simp; omega)).trans s3
  have HT4 := Lib.hid (HT3.out.below HT3.out.1 hb); replace HB := Lib.hid (below_then' HB.out (by omega) hb); have hs3 := hb.size; clear hb
  go_wp2_with fail
  refine (check_any _ _ _ _ _ _ _ _ _ _ _ _ _ _ _ _ _ _ _ _ _ _ _ _ _ (by omega) (by omega) (by omega) (by omega) (by omega) (by omega) (by omega) (by omega) HT4.out).mono ?_; rintro e w4 ⟨rfl, hb⟩
  rw [K4.out]
  go_wp2_with fail
  go_ret
  exact ⟨rfl, below_then' HB.out (by omega) hb⟩
end Go.Proofs.YtnnedmkidbokoaaDoor
