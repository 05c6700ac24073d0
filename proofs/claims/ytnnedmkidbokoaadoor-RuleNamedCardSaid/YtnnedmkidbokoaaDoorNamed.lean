/- The walk of RuleNamed. -/
import Derived.Test.YtnnedmkidbokoaaDoorNamedPure2
namespace Go.Proofs.YtnnedmkidbokoaaDoor
open Go.RowKit
set_option maxRecDepth 100000 in
set_option maxHeartbeats 4000000 in
theorem named_walk (sec ty fg ov : Int) (w : World) (hty : 0 ≤ ty ∧ ty ≤ 65535) (hfg : 0 ≤ fg ∧ fg ≤ 65535) (hov : 0 ≤ ov ∧ ov ≤ 4294967295) (hT : Tab w) :
    Calls Tryd.prog 5 #[.int .i64 sec, .int .u16 ty, .int .u16 fg, .int .u32 ov] w fun e w' => e = .returned (.bool true) ∧ Below w.heap.size w w' := by
  have hz := hT.1
  have hty0 := hty.1
  have hty1 := hty.2
  have hov0 := hov.1
  have hov1 := hov.2
  have HT := Lib.hid hT; clear hT
  go_enter Tryd.func5, Tryd.ntmps5
  go_upto_region 1 with fail
  go_cut [9] (fun v wx => ∃ k : Nat, 1 ≤ k ∧ k ≤ 1000 ∧ v = .int .i64 k ∧ w = wx)
  case first =>
    as_aux_lemma =>
    go_wp2
    go_meet
    have h1 : 0 ≤ IntKind.u64.wrap sec := by rw [IntKind.wrap_u64]; omega
    have h2 : (IntKind.u64.wrap sec).tmod 1000 = IntKind.u64.wrap sec % 1000 := Int.tmod_eq_emod_of_nonneg h1
    refine ⟨(1 + IntKind.u64.wrap sec % 1000).toNat, by omega, by omega, ?_, rfl⟩
    rw [h2]
    congr 1
    unfold wrap64
    omega
  obtain ⟨k, hk1, hk2, rfl, rfl⟩ := hcut
  go_upto_if 39 with (fail)
  go_cut [8] (fun v wx => v = .bool false ∧ NW w.heap.size k false fg ty (if (ty == 3) = true then 0 else (k : Int) * 512 - 512) (if (ty == 3) = true then 0 else 512) w wx)
  case first =>
    as_aux_lemma =>
    go_wp2
    all_goals go_meet
    · have t3 : (ty == 3) = true := by assumption
      rw [if_pos t3, if_pos t3]
      exact ⟨rfl, NW.new HT.out⟩
    · have t3 : ¬ (ty == 3) = true := by
        have : (ty == 3) = false := by assumption
        simp [this]
      rw [if_neg t3, if_neg t3]
      exact ⟨rfl, NW.new HT.out⟩
  obtain ⟨rfl, hW⟩ := hcut
  have hif : (ty = 3 → (if (ty == 3) = true then (0 : Int) else (k : Int) * 512 - 512) = 0 ∧ (if (ty == 3) = true then (0 : Int) else 512) = 0) ∧ (ty ≠ 3 → (if (ty == 3) = true then (0 : Int) else (k : Int) * 512 - 512) = (k : Int) * 512 - 512 ∧ (if (ty == 3) = true then (0 : Int) else 512) = 512) :=
    ⟨fun e => by subst e; exact ⟨rfl, rfl⟩, fun e => by rw [if_neg (by simpa using e), if_neg (by simpa using e)]; exact ⟨rfl, rfl⟩⟩
  generalize (if (ty == 3) = true then (0 : Int) else (k : Int) * 512 - 512) = off at *
  generalize (if (ty == 3) = true then (0 : Int) else 512) = len at *
  have hof : 0 ≤ off := by
    by_cases e : ty = 3
    · have := hif.1 e; omega
    · have := hif.2 e; omega
  have hle : 0 ≤ len := by
    by_cases e : ty = 3
    · have := hif.1 e; omega
    · have := hif.2 e; omega
  have HI := Lib.hid hif; clear hif
  have y0 : wc.cell? ⟨w.heap.size, 0, none⟩ = some (.string ⟨#[97]⟩) := cell_of_block hW.e 0
  have y1 : wc.cell? ⟨w.heap.size, 1, none⟩ = some (.string ⟨#[]⟩) := cell_of_block hW.e 1
  have y2 : wc.cell? ⟨w.heap.size, 2, none⟩ = some (.int .i64 k) := cell_of_block hW.e 2
  have y3 : wc.cell? ⟨w.heap.size, 3, none⟩ = some (.bool false) := cell_of_block hW.e 3
  have y4 : wc.cell? ⟨w.heap.size, 4, none⟩ = some (.bool false) := cell_of_block hW.e 4
  have y5 : wc.cell? ⟨w.heap.size, 5, none⟩ = some (.bool false) := cell_of_block hW.e 5
  have y6 : wc.cell? ⟨w.heap.size, 6, none⟩ = some (.bool false) := cell_of_block hW.e 6
  have y7 : wc.cell? ⟨w.heap.size, 7, none⟩ = some (.int .u32 1) := cell_of_block hW.e 7
  have y8 : wc.cell? ⟨w.heap.size, 8, none⟩ = some (.int .u32 512) := cell_of_block hW.e 8
  have y9 : wc.cell? ⟨w.heap.size + 1 + 1, 0, none⟩ = some (.int .i64 0) := cell_of_block hW.s 0
  have y10 : wc.cell? ⟨w.heap.size + 1 + 1, 1, none⟩ = some (.bool true) := cell_of_block hW.s 1
  have y11 : wc.cell? ⟨w.heap.size + 1 + 1, 2, none⟩ = some (.bool false) := cell_of_block hW.s 2
  have y12 : wc.cell? ⟨w.heap.size + 1 + 1, 3, none⟩ = some (.slice (some ⟨w.heap.size + 1, 0, none⟩) 1 1) := cell_of_block hW.s 3
  have y13 : wc.cell? ⟨w.heap.size + 1 + 1 + 1, 0, none⟩ = some (.int .u32 1048576) := cell_of_block hW.l 0
  have y14 : wc.cell? ⟨w.heap.size + 1 + 1 + 1, 1, none⟩ = some (.int .u32 64) := cell_of_block hW.l 1
  have y15 : wc.cell? ⟨w.heap.size + 1 + 1 + 1, 2, none⟩ = some (.int .i64 1) := cell_of_block hW.l 2
  have y16 : wc.cell? ⟨w.heap.size + 1 + 1 + 1 + 1, 0, none⟩ = some (.int .u16 fg) := cell_of_block hW.q 0
  have y17 : wc.cell? ⟨w.heap.size + 1 + 1 + 1 + 1, 1, none⟩ = some (.int .u16 ty) := cell_of_block hW.q 1
  have y18 : wc.cell? ⟨w.heap.size + 1 + 1 + 1 + 1, 2, none⟩ = some (.int .u64 0) := cell_of_block hW.q 2
  have y19 : wc.cell? ⟨w.heap.size + 1 + 1 + 1 + 1, 3, none⟩ = some (.int .u64 off) := cell_of_block hW.q 3
  have y20 : wc.cell? ⟨w.heap.size + 1 + 1 + 1 + 1, 4, none⟩ = some (.int .u64 len) := cell_of_block hW.q 4
  have y21 : wc.cell? ⟨w.heap.size + 1 + 1 + 1 + 1, 5, none⟩ = some (.slice none 0 0) := cell_of_block hW.q 5
  have HW := Lib.hid hW; clear hW
  go_wp2_with fail
  refine (check_any _ _ _ _ _ _ _ _ _ _ _ _ _ _ _ _ _ _ _ _ _ _ _ _ _ hty0 hty1 hof hle (by omega) (by omega) (by omega) (by omega) HW.out.tab).mono ?_; rintro e w1 ⟨rfl, hb⟩
  have HW1 := Lib.hid (HW.out.next hb)
  clear hb HW y0 y1 y2 y3 y4 y5 y6 y7 y8 y9 y10 y11 y12 y13 y14 y15 y16 y17 y18 y19 y20 y21
  generalize hg : chk k false true false 1 1048576 fg ty off len 1 = g at *
  have HG := Lib.hid hg; clear hg
  by_cases h7 : 7 < ty
  · have hd : decide (7 < ty) = true := by simpa using h7
    have h22 : (g == 22) = true := by rw [← HG.out, bad_22 (.inl h7)]; rfl
    clear h7
    as_aux_lemma =>
    go_wp2_with (go_at_call 14; refine (heads_any _ HW1.out.tab).mono ?_; rintro e w5 ⟨rfl, hb5⟩)
    go_ret
    exact ⟨rfl, (HW1.out.next hb5).bel⟩
  have hd : decide (7 < ty) = false := by simpa using h7
  go_wp2_with fail
  refine (allowed _ _ hty0 hty1 HW1.out.tab).mono ?_; rintro e w2 ⟨rfl, hb⟩
  have HW2 := Lib.hid (HW1.out.next hb)
  clear hb HW1
  by_cases hbad : bits .andNot .u16 fg (fl ty) = 0
  · have hbf : (bits .andNot .u16 fg (fl ty) != 0) = false := by rw [hbad]; rfl
    obtain ⟨t, rfl⟩ := Int.eq_ofNat_of_zero_le hty0
    obtain ⟨f, rfl⟩ := Int.eq_ofNat_of_zero_le hfg.1
    have hf32 : f < 32 := by
      obtain ⟨F, hF, e⟩ := fl_nat t (by omega)
      rw [e, u16_andNot_nat f F (by omega) (by omega)] at hbad
      exact small_flags (by omega) hF (by omega)
    have hok := ok_flags t (by omega) f hf32 hbad
    have hgot := got_v (ro := false) hk1 hk2 hok HI.out.1 HI.out.2
    rw [HG.out] at hgot
    have honly := got_v (ro := true) hk1 hk2 hok HI.out.1 HI.out.2
    have hout := out_v (len := 513 + ov % 1000) (by omega) hk1 hk2 hok (fun e => (HI.out.1 e).1) (fun e => (HI.out.2 e).1) (by omega) (by omega)
    clear hbad HI HG
    have hsix : hasB f 16 = false ∨ (t : Int) = 6 := (fast_six hok).imp id (fun h => by omega)
    clear hok hf32
    generalize ((t : Nat) : Int) = ty at *
    have hcase : ty = 0 ∨ ty = 1 ∨ ty = 2 ∨ ty = 3 ∨ ty = 4 ∨ ty = 5 ∨ ty = 6 ∨ ty = 7 := by omega
    rcases hcase with rfl | rfl | rfl | rfl | rfl | rfl | rfl | rfl
    · have h16 : hasB f 16 = false := hsix.resolve_right (by omega)
      clear hsix
      have fF : fastF f = false := by simp [fastF, h16]
      rw [fF, if_neg (by decide), if_neg (by decide)] at hgot
      rw [fF, if_neg (by decide), if_neg (by decide)] at honly
      rw [if_neg (by decide), if_neg (by decide)] at hout
      subst hgot
      have HO := Lib.hid honly; have HU := Lib.hid hout; clear honly hout fF
      have g16 : (bits .and .u16 (f : Int) 16 != 0) = false := h16
      clear h16
      as_aux_lemma =>
      have y0 : w2.cell? ⟨w.heap.size, 0, none⟩ = some (.string ⟨#[97]⟩) := cell_of_block HW2.out.e 0
      have y1 : w2.cell? ⟨w.heap.size, 1, none⟩ = some (.string ⟨#[]⟩) := cell_of_block HW2.out.e 1
      have y2 : w2.cell? ⟨w.heap.size, 2, none⟩ = some (.int .i64 k) := cell_of_block HW2.out.e 2
      have y3 : w2.cell? ⟨w.heap.size, 3, none⟩ = some (.bool false) := cell_of_block HW2.out.e 3
      have y4 : w2.cell? ⟨w.heap.size, 4, none⟩ = some (.bool false) := cell_of_block HW2.out.e 4
      have y5 : w2.cell? ⟨w.heap.size, 5, none⟩ = some (.bool false) := cell_of_block HW2.out.e 5
      have y6 : w2.cell? ⟨w.heap.size, 6, none⟩ = some (.bool false) := cell_of_block HW2.out.e 6
      have y7 : w2.cell? ⟨w.heap.size, 7, none⟩ = some (.int .u32 1) := cell_of_block HW2.out.e 7
      have y8 : w2.cell? ⟨w.heap.size, 8, none⟩ = some (.int .u32 512) := cell_of_block HW2.out.e 8
      have y9 : w2.cell? ⟨w.heap.size + 1 + 1, 0, none⟩ = some (.int .i64 0) := cell_of_block HW2.out.s 0
      have y10 : w2.cell? ⟨w.heap.size + 1 + 1, 1, none⟩ = some (.bool true) := cell_of_block HW2.out.s 1
      have y11 : w2.cell? ⟨w.heap.size + 1 + 1, 2, none⟩ = some (.bool false) := cell_of_block HW2.out.s 2
      have y12 : w2.cell? ⟨w.heap.size + 1 + 1, 3, none⟩ = some (.slice (some ⟨w.heap.size + 1, 0, none⟩) 1 1) := cell_of_block HW2.out.s 3
      have y13 : w2.cell? ⟨w.heap.size + 1 + 1 + 1, 0, none⟩ = some (.int .u32 1048576) := cell_of_block HW2.out.l 0
      have y14 : w2.cell? ⟨w.heap.size + 1 + 1 + 1, 1, none⟩ = some (.int .u32 64) := cell_of_block HW2.out.l 1
      have y15 : w2.cell? ⟨w.heap.size + 1 + 1 + 1, 2, none⟩ = some (.int .i64 1) := cell_of_block HW2.out.l 2
      have y16 : w2.cell? ⟨w.heap.size + 1 + 1 + 1 + 1, 0, none⟩ = some (.int .u16 f) := cell_of_block HW2.out.q 0
      have y17 : w2.cell? ⟨w.heap.size + 1 + 1 + 1 + 1, 1, none⟩ = some (.int .u16 0) := cell_of_block HW2.out.q 1
      have y18 : w2.cell? ⟨w.heap.size + 1 + 1 + 1 + 1, 2, none⟩ = some (.int .u64 0) := cell_of_block HW2.out.q 2
      have y19 : w2.cell? ⟨w.heap.size + 1 + 1 + 1 + 1, 3, none⟩ = some (.int .u64 off) := cell_of_block HW2.out.q 3
      have y20 : w2.cell? ⟨w.heap.size + 1 + 1 + 1 + 1, 4, none⟩ = some (.int .u64 len) := cell_of_block HW2.out.q 4
      have y21 : w2.cell? ⟨w.heap.size + 1 + 1 + 1 + 1, 5, none⟩ = some (.slice none 0 0) := cell_of_block HW2.out.q 5
      have fz : ∀ j, w2.frozen? ⟨w.heap.size, j, none⟩ = false := fun j => frozen_of_block HW2.out.e j
      have HS2 := Lib.hid (HW2.out.setRo (ro' := true) hz); clear HW2
      go_wp2_with fail
      refine (check_any _ _ _ _ _ _ _ _ _ _ _ _ _ _ _ _ _ _ _ _ _ _ _ _ _ (by omega) (by omega) hof hle (by omega) (by omega) (by omega) (by omega) HS2.out.tab).mono ?_; rintro e w3 ⟨rfl, hb⟩
      rw [HO.out]
      have HW3 := Lib.hid (HS2.out.next hb); clear hb HS2 fz y0 y1 y2 y3 y4 y5 y6 y7 y8 y9 y10 y11 y12 y13 y14 y15 y16 y17 y18 y19 y20 y21
      have y0 : w3.cell? ⟨w.heap.size, 0, none⟩ = some (.string ⟨#[97]⟩) := cell_of_block HW3.out.e 0
      have y1 : w3.cell? ⟨w.heap.size, 1, none⟩ = some (.string ⟨#[]⟩) := cell_of_block HW3.out.e 1
      have y2 : w3.cell? ⟨w.heap.size, 2, none⟩ = some (.int .i64 k) := cell_of_block HW3.out.e 2
      have y3 : w3.cell? ⟨w.heap.size, 3, none⟩ = some (.bool true) := cell_of_block HW3.out.e 3
      have y4 : w3.cell? ⟨w.heap.size, 4, none⟩ = some (.bool false) := cell_of_block HW3.out.e 4
      have y5 : w3.cell? ⟨w.heap.size, 5, none⟩ = some (.bool false) := cell_of_block HW3.out.e 5
      have y6 : w3.cell? ⟨w.heap.size, 6, none⟩ = some (.bool false) := cell_of_block HW3.out.e 6
      have y7 : w3.cell? ⟨w.heap.size, 7, none⟩ = some (.int .u32 1) := cell_of_block HW3.out.e 7
      have y8 : w3.cell? ⟨w.heap.size, 8, none⟩ = some (.int .u32 512) := cell_of_block HW3.out.e 8
      have y9 : w3.cell? ⟨w.heap.size + 1 + 1, 0, none⟩ = some (.int .i64 0) := cell_of_block HW3.out.s 0
      have y10 : w3.cell? ⟨w.heap.size + 1 + 1, 1, none⟩ = some (.bool true) := cell_of_block HW3.out.s 1
      have y11 : w3.cell? ⟨w.heap.size + 1 + 1, 2, none⟩ = some (.bool false) := cell_of_block HW3.out.s 2
      have y12 : w3.cell? ⟨w.heap.size + 1 + 1, 3, none⟩ = some (.slice (some ⟨w.heap.size + 1, 0, none⟩) 1 1) := cell_of_block HW3.out.s 3
      have y13 : w3.cell? ⟨w.heap.size + 1 + 1 + 1, 0, none⟩ = some (.int .u32 1048576) := cell_of_block HW3.out.l 0
      have y14 : w3.cell? ⟨w.heap.size + 1 + 1 + 1, 1, none⟩ = some (.int .u32 64) := cell_of_block HW3.out.l 1
      have y15 : w3.cell? ⟨w.heap.size + 1 + 1 + 1, 2, none⟩ = some (.int .i64 1) := cell_of_block HW3.out.l 2
      have y16 : w3.cell? ⟨w.heap.size + 1 + 1 + 1 + 1, 0, none⟩ = some (.int .u16 f) := cell_of_block HW3.out.q 0
      have y17 : w3.cell? ⟨w.heap.size + 1 + 1 + 1 + 1, 1, none⟩ = some (.int .u16 0) := cell_of_block HW3.out.q 1
      have y18 : w3.cell? ⟨w.heap.size + 1 + 1 + 1 + 1, 2, none⟩ = some (.int .u64 0) := cell_of_block HW3.out.q 2
      have y19 : w3.cell? ⟨w.heap.size + 1 + 1 + 1 + 1, 3, none⟩ = some (.int .u64 off) := cell_of_block HW3.out.q 3
      have y20 : w3.cell? ⟨w.heap.size + 1 + 1 + 1 + 1, 4, none⟩ = some (.int .u64 len) := cell_of_block HW3.out.q 4
      have y21 : w3.cell? ⟨w.heap.size + 1 + 1 + 1 + 1, 5, none⟩ = some (.slice none 0 0) := cell_of_block HW3.out.q 5
      have fz : ∀ j, w3.frozen? ⟨w.heap.size, j, none⟩ = false := fun j => frozen_of_block HW3.out.e j
      have fy : ∀ j, w3.frozen? ⟨w.heap.size + 1 + 1 + 1 + 1, j, none⟩ = false := fun j => frozen_of_block HW3.out.q j
      have HS3 := Lib.hid ((HW3.out.setRo (ro' := false) hz).setLen (len' := 513 + ov % 1000) hz); clear HW3
      go_wp2_with fail
      refine (check_any _ _ _ _ _ _ _ _ _ _ _ _ _ _ _ _ _ _ _ _ _ _ _ _ _ (by omega) (by omega) hof (by omega) (by omega) (by omega) (by omega) (by omega) HS3.out.tab).mono ?_; rintro e w4 ⟨rfl, hb⟩
      rw [HU.out]
      have HW4 := Lib.hid (HS3.out.next hb); clear hb HS3 fz fy y0 y1 y2 y3 y4 y5 y6 y7 y8 y9 y10 y11 y12 y13 y14 y15 y16 y17 y18 y19 y20 y21
      go_wp2_with (go_at_call 14; refine (heads_any _ HW4.out.tab).mono ?_; rintro e w5 ⟨rfl, hb5⟩)
      go_ret
      exact ⟨rfl, (HW4.out.next hb5).bel⟩
    · have h16 : hasB f 16 = false := hsix.resolve_right (by omega)
      clear hsix
      have fF : fastF f = false := by simp [fastF, h16]
      rw [fF, if_neg (by decide), if_neg (by decide)] at hgot
      rw [if_pos (by decide)] at honly
      rw [if_pos (by decide)] at hout
      subst hgot
      have HO := Lib.hid honly; have HU := Lib.hid hout; clear honly hout fF
      have g16 : (bits .and .u16 (f : Int) 16 != 0) = false := h16
      clear h16
      as_aux_lemma =>
      have y0 : w2.cell? ⟨w.heap.size, 0, none⟩ = some (.string ⟨#[97]⟩) := cell_of_block HW2.out.e 0
      have y1 : w2.cell? ⟨w.heap.size, 1, none⟩ = some (.string ⟨#[]⟩) := cell_of_block HW2.out.e 1
      have y2 : w2.cell? ⟨w.heap.size, 2, none⟩ = some (.int .i64 k) := cell_of_block HW2.out.e 2
      have y3 : w2.cell? ⟨w.heap.size, 3, none⟩ = some (.bool false) := cell_of_block HW2.out.e 3
      have y4 : w2.cell? ⟨w.heap.size, 4, none⟩ = some (.bool false) := cell_of_block HW2.out.e 4
      have y5 : w2.cell? ⟨w.heap.size, 5, none⟩ = some (.bool false) := cell_of_block HW2.out.e 5
      have y6 : w2.cell? ⟨w.heap.size, 6, none⟩ = some (.bool false) := cell_of_block HW2.out.e 6
      have y7 : w2.cell? ⟨w.heap.size, 7, none⟩ = some (.int .u32 1) := cell_of_block HW2.out.e 7
      have y8 : w2.cell? ⟨w.heap.size, 8, none⟩ = some (.int .u32 512) := cell_of_block HW2.out.e 8
      have y9 : w2.cell? ⟨w.heap.size + 1 + 1, 0, none⟩ = some (.int .i64 0) := cell_of_block HW2.out.s 0
      have y10 : w2.cell? ⟨w.heap.size + 1 + 1, 1, none⟩ = some (.bool true) := cell_of_block HW2.out.s 1
      have y11 : w2.cell? ⟨w.heap.size + 1 + 1, 2, none⟩ = some (.bool false) := cell_of_block HW2.out.s 2
      have y12 : w2.cell? ⟨w.heap.size + 1 + 1, 3, none⟩ = some (.slice (some ⟨w.heap.size + 1, 0, none⟩) 1 1) := cell_of_block HW2.out.s 3
      have y13 : w2.cell? ⟨w.heap.size + 1 + 1 + 1, 0, none⟩ = some (.int .u32 1048576) := cell_of_block HW2.out.l 0
      have y14 : w2.cell? ⟨w.heap.size + 1 + 1 + 1, 1, none⟩ = some (.int .u32 64) := cell_of_block HW2.out.l 1
      have y15 : w2.cell? ⟨w.heap.size + 1 + 1 + 1, 2, none⟩ = some (.int .i64 1) := cell_of_block HW2.out.l 2
      have y16 : w2.cell? ⟨w.heap.size + 1 + 1 + 1 + 1, 0, none⟩ = some (.int .u16 f) := cell_of_block HW2.out.q 0
      have y17 : w2.cell? ⟨w.heap.size + 1 + 1 + 1 + 1, 1, none⟩ = some (.int .u16 1) := cell_of_block HW2.out.q 1
      have y18 : w2.cell? ⟨w.heap.size + 1 + 1 + 1 + 1, 2, none⟩ = some (.int .u64 0) := cell_of_block HW2.out.q 2
      have y19 : w2.cell? ⟨w.heap.size + 1 + 1 + 1 + 1, 3, none⟩ = some (.int .u64 off) := cell_of_block HW2.out.q 3
      have y20 : w2.cell? ⟨w.heap.size + 1 + 1 + 1 + 1, 4, none⟩ = some (.int .u64 len) := cell_of_block HW2.out.q 4
      have y21 : w2.cell? ⟨w.heap.size + 1 + 1 + 1 + 1, 5, none⟩ = some (.slice none 0 0) := cell_of_block HW2.out.q 5
      have fz : ∀ j, w2.frozen? ⟨w.heap.size, j, none⟩ = false := fun j => frozen_of_block HW2.out.e j
      have HS2 := Lib.hid (HW2.out.setRo (ro' := true) hz); clear HW2
      go_wp2_with fail
      refine (check_any _ _ _ _ _ _ _ _ _ _ _ _ _ _ _ _ _ _ _ _ _ _ _ _ _ (by omega) (by omega) hof hle (by omega) (by omega) (by omega) (by omega) HS2.out.tab).mono ?_; rintro e w3 ⟨rfl, hb⟩
      rw [HO.out]
      have HW3 := Lib.hid (HS2.out.next hb); clear hb HS2 fz y0 y1 y2 y3 y4 y5 y6 y7 y8 y9 y10 y11 y12 y13 y14 y15 y16 y17 y18 y19 y20 y21
      have y0 : w3.cell? ⟨w.heap.size, 0, none⟩ = some (.string ⟨#[97]⟩) := cell_of_block HW3.out.e 0
      have y1 : w3.cell? ⟨w.heap.size, 1, none⟩ = some (.string ⟨#[]⟩) := cell_of_block HW3.out.e 1
      have y2 : w3.cell? ⟨w.heap.size, 2, none⟩ = some (.int .i64 k) := cell_of_block HW3.out.e 2
      have y3 : w3.cell? ⟨w.heap.size, 3, none⟩ = some (.bool true) := cell_of_block HW3.out.e 3
      have y4 : w3.cell? ⟨w.heap.size, 4, none⟩ = some (.bool false) := cell_of_block HW3.out.e 4
      have y5 : w3.cell? ⟨w.heap.size, 5, none⟩ = some (.bool false) := cell_of_block HW3.out.e 5
      have y6 : w3.cell? ⟨w.heap.size, 6, none⟩ = some (.bool false) := cell_of_block HW3.out.e 6
      have y7 : w3.cell? ⟨w.heap.size, 7, none⟩ = some (.int .u32 1) := cell_of_block HW3.out.e 7
      have y8 : w3.cell? ⟨w.heap.size, 8, none⟩ = some (.int .u32 512) := cell_of_block HW3.out.e 8
      have y9 : w3.cell? ⟨w.heap.size + 1 + 1, 0, none⟩ = some (.int .i64 0) := cell_of_block HW3.out.s 0
      have y10 : w3.cell? ⟨w.heap.size + 1 + 1, 1, none⟩ = some (.bool true) := cell_of_block HW3.out.s 1
      have y11 : w3.cell? ⟨w.heap.size + 1 + 1, 2, none⟩ = some (.bool false) := cell_of_block HW3.out.s 2
      have y12 : w3.cell? ⟨w.heap.size + 1 + 1, 3, none⟩ = some (.slice (some ⟨w.heap.size + 1, 0, none⟩) 1 1) := cell_of_block HW3.out.s 3
      have y13 : w3.cell? ⟨w.heap.size + 1 + 1 + 1, 0, none⟩ = some (.int .u32 1048576) := cell_of_block HW3.out.l 0
      have y14 : w3.cell? ⟨w.heap.size + 1 + 1 + 1, 1, none⟩ = some (.int .u32 64) := cell_of_block HW3.out.l 1
      have y15 : w3.cell? ⟨w.heap.size + 1 + 1 + 1, 2, none⟩ = some (.int .i64 1) := cell_of_block HW3.out.l 2
      have y16 : w3.cell? ⟨w.heap.size + 1 + 1 + 1 + 1, 0, none⟩ = some (.int .u16 f) := cell_of_block HW3.out.q 0
      have y17 : w3.cell? ⟨w.heap.size + 1 + 1 + 1 + 1, 1, none⟩ = some (.int .u16 1) := cell_of_block HW3.out.q 1
      have y18 : w3.cell? ⟨w.heap.size + 1 + 1 + 1 + 1, 2, none⟩ = some (.int .u64 0) := cell_of_block HW3.out.q 2
      have y19 : w3.cell? ⟨w.heap.size + 1 + 1 + 1 + 1, 3, none⟩ = some (.int .u64 off) := cell_of_block HW3.out.q 3
      have y20 : w3.cell? ⟨w.heap.size + 1 + 1 + 1 + 1, 4, none⟩ = some (.int .u64 len) := cell_of_block HW3.out.q 4
      have y21 : w3.cell? ⟨w.heap.size + 1 + 1 + 1 + 1, 5, none⟩ = some (.slice none 0 0) := cell_of_block HW3.out.q 5
      have fz : ∀ j, w3.frozen? ⟨w.heap.size, j, none⟩ = false := fun j => frozen_of_block HW3.out.e j
      have fy : ∀ j, w3.frozen? ⟨w.heap.size + 1 + 1 + 1 + 1, j, none⟩ = false := fun j => frozen_of_block HW3.out.q j
      have HS3 := Lib.hid ((HW3.out.setRo (ro' := false) hz).setLen (len' := 513 + ov % 1000) hz); clear HW3
      go_wp2_with fail
      refine (check_any _ _ _ _ _ _ _ _ _ _ _ _ _ _ _ _ _ _ _ _ _ _ _ _ _ (by omega) (by omega) hof (by omega) (by omega) (by omega) (by omega) (by omega) HS3.out.tab).mono ?_; rintro e w4 ⟨rfl, hb⟩
      rw [HU.out]
      have HW4 := Lib.hid (HS3.out.next hb); clear hb HS3 fz fy y0 y1 y2 y3 y4 y5 y6 y7 y8 y9 y10 y11 y12 y13 y14 y15 y16 y17 y18 y19 y20 y21
      go_wp2_with (go_at_call 14; refine (heads_any _ HW4.out.tab).mono ?_; rintro e w5 ⟨rfl, hb5⟩)
      go_ret
      exact ⟨rfl, (HW4.out.next hb5).bel⟩
    · have h16 : hasB f 16 = false := hsix.resolve_right (by omega)
      clear hsix
      have fF : fastF f = false := by simp [fastF, h16]
      rw [fF, if_neg (by decide), if_neg (by decide)] at hgot
      rw [fF, if_neg (by decide), if_neg (by decide)] at honly
      rw [if_neg (by decide), if_pos (by decide)] at hout
      subst hgot
      have HO := Lib.hid honly; have HU := Lib.hid hout; clear honly hout fF
      have g16 : (bits .and .u16 (f : Int) 16 != 0) = false := h16
      clear h16
      as_aux_lemma =>
      have y0 : w2.cell? ⟨w.heap.size, 0, none⟩ = some (.string ⟨#[97]⟩) := cell_of_block HW2.out.e 0
      have y1 : w2.cell? ⟨w.heap.size, 1, none⟩ = some (.string ⟨#[]⟩) := cell_of_block HW2.out.e 1
      have y2 : w2.cell? ⟨w.heap.size, 2, none⟩ = some (.int .i64 k) := cell_of_block HW2.out.e 2
      have y3 : w2.cell? ⟨w.heap.size, 3, none⟩ = some (.bool false) := cell_of_block HW2.out.e 3
      have y4 : w2.cell? ⟨w.heap.size, 4, none⟩ = some (.bool false) := cell_of_block HW2.out.e 4
      have y5 : w2.cell? ⟨w.heap.size, 5, none⟩ = some (.bool false) := cell_of_block HW2.out.e 5
      have y6 : w2.cell? ⟨w.heap.size, 6, none⟩ = some (.bool false) := cell_of_block HW2.out.e 6
      have y7 : w2.cell? ⟨w.heap.size, 7, none⟩ = some (.int .u32 1) := cell_of_block HW2.out.e 7
      have y8 : w2.cell? ⟨w.heap.size, 8, none⟩ = some (.int .u32 512) := cell_of_block HW2.out.e 8
      have y9 : w2.cell? ⟨w.heap.size + 1 + 1, 0, none⟩ = some (.int .i64 0) := cell_of_block HW2.out.s 0
      have y10 : w2.cell? ⟨w.heap.size + 1 + 1, 1, none⟩ = some (.bool true) := cell_of_block HW2.out.s 1
      have y11 : w2.cell? ⟨w.heap.size + 1 + 1, 2, none⟩ = some (.bool false) := cell_of_block HW2.out.s 2
      have y12 : w2.cell? ⟨w.heap.size + 1 + 1, 3, none⟩ = some (.slice (some ⟨w.heap.size + 1, 0, none⟩) 1 1) := cell_of_block HW2.out.s 3
      have y13 : w2.cell? ⟨w.heap.size + 1 + 1 + 1, 0, none⟩ = some (.int .u32 1048576) := cell_of_block HW2.out.l 0
      have y14 : w2.cell? ⟨w.heap.size + 1 + 1 + 1, 1, none⟩ = some (.int .u32 64) := cell_of_block HW2.out.l 1
      have y15 : w2.cell? ⟨w.heap.size + 1 + 1 + 1, 2, none⟩ = some (.int .i64 1) := cell_of_block HW2.out.l 2
      have y16 : w2.cell? ⟨w.heap.size + 1 + 1 + 1 + 1, 0, none⟩ = some (.int .u16 f) := cell_of_block HW2.out.q 0
      have y17 : w2.cell? ⟨w.heap.size + 1 + 1 + 1 + 1, 1, none⟩ = some (.int .u16 2) := cell_of_block HW2.out.q 1
      have y18 : w2.cell? ⟨w.heap.size + 1 + 1 + 1 + 1, 2, none⟩ = some (.int .u64 0) := cell_of_block HW2.out.q 2
      have y19 : w2.cell? ⟨w.heap.size + 1 + 1 + 1 + 1, 3, none⟩ = some (.int .u64 off) := cell_of_block HW2.out.q 3
      have y20 : w2.cell? ⟨w.heap.size + 1 + 1 + 1 + 1, 4, none⟩ = some (.int .u64 len) := cell_of_block HW2.out.q 4
      have y21 : w2.cell? ⟨w.heap.size + 1 + 1 + 1 + 1, 5, none⟩ = some (.slice none 0 0) := cell_of_block HW2.out.q 5
      have fz : ∀ j, w2.frozen? ⟨w.heap.size, j, none⟩ = false := fun j => frozen_of_block HW2.out.e j
      have HS2 := Lib.hid (HW2.out.setRo (ro' := true) hz); clear HW2
      go_wp2_with fail
      refine (check_any _ _ _ _ _ _ _ _ _ _ _ _ _ _ _ _ _ _ _ _ _ _ _ _ _ (by omega) (by omega) hof hle (by omega) (by omega) (by omega) (by omega) HS2.out.tab).mono ?_; rintro e w3 ⟨rfl, hb⟩
      rw [HO.out]
      have HW3 := Lib.hid (HS2.out.next hb); clear hb HS2 fz y0 y1 y2 y3 y4 y5 y6 y7 y8 y9 y10 y11 y12 y13 y14 y15 y16 y17 y18 y19 y20 y21
      have y0 : w3.cell? ⟨w.heap.size, 0, none⟩ = some (.string ⟨#[97]⟩) := cell_of_block HW3.out.e 0
      have y1 : w3.cell? ⟨w.heap.size, 1, none⟩ = some (.string ⟨#[]⟩) := cell_of_block HW3.out.e 1
      have y2 : w3.cell? ⟨w.heap.size, 2, none⟩ = some (.int .i64 k) := cell_of_block HW3.out.e 2
      have y3 : w3.cell? ⟨w.heap.size, 3, none⟩ = some (.bool true) := cell_of_block HW3.out.e 3
      have y4 : w3.cell? ⟨w.heap.size, 4, none⟩ = some (.bool false) := cell_of_block HW3.out.e 4
      have y5 : w3.cell? ⟨w.heap.size, 5, none⟩ = some (.bool false) := cell_of_block HW3.out.e 5
      have y6 : w3.cell? ⟨w.heap.size, 6, none⟩ = some (.bool false) := cell_of_block HW3.out.e 6
      have y7 : w3.cell? ⟨w.heap.size, 7, none⟩ = some (.int .u32 1) := cell_of_block HW3.out.e 7
      have y8 : w3.cell? ⟨w.heap.size, 8, none⟩ = some (.int .u32 512) := cell_of_block HW3.out.e 8
      have y9 : w3.cell? ⟨w.heap.size + 1 + 1, 0, none⟩ = some (.int .i64 0) := cell_of_block HW3.out.s 0
      have y10 : w3.cell? ⟨w.heap.size + 1 + 1, 1, none⟩ = some (.bool true) := cell_of_block HW3.out.s 1
      have y11 : w3.cell? ⟨w.heap.size + 1 + 1, 2, none⟩ = some (.bool false) := cell_of_block HW3.out.s 2
      have y12 : w3.cell? ⟨w.heap.size + 1 + 1, 3, none⟩ = some (.slice (some ⟨w.heap.size + 1, 0, none⟩) 1 1) := cell_of_block HW3.out.s 3
      have y13 : w3.cell? ⟨w.heap.size + 1 + 1 + 1, 0, none⟩ = some (.int .u32 1048576) := cell_of_block HW3.out.l 0
      have y14 : w3.cell? ⟨w.heap.size + 1 + 1 + 1, 1, none⟩ = some (.int .u32 64) := cell_of_block HW3.out.l 1
      have y15 : w3.cell? ⟨w.heap.size + 1 + 1 + 1, 2, none⟩ = some (.int .i64 1) := cell_of_block HW3.out.l 2
      have y16 : w3.cell? ⟨w.heap.size + 1 + 1 + 1 + 1, 0, none⟩ = some (.int .u16 f) := cell_of_block HW3.out.q 0
      have y17 : w3.cell? ⟨w.heap.size + 1 + 1 + 1 + 1, 1, none⟩ = some (.int .u16 2) := cell_of_block HW3.out.q 1
      have y18 : w3.cell? ⟨w.heap.size + 1 + 1 + 1 + 1, 2, none⟩ = some (.int .u64 0) := cell_of_block HW3.out.q 2
      have y19 : w3.cell? ⟨w.heap.size + 1 + 1 + 1 + 1, 3, none⟩ = some (.int .u64 off) := cell_of_block HW3.out.q 3
      have y20 : w3.cell? ⟨w.heap.size + 1 + 1 + 1 + 1, 4, none⟩ = some (.int .u64 len) := cell_of_block HW3.out.q 4
      have y21 : w3.cell? ⟨w.heap.size + 1 + 1 + 1 + 1, 5, none⟩ = some (.slice none 0 0) := cell_of_block HW3.out.q 5
      have fz : ∀ j, w3.frozen? ⟨w.heap.size, j, none⟩ = false := fun j => frozen_of_block HW3.out.e j
      have fy : ∀ j, w3.frozen? ⟨w.heap.size + 1 + 1 + 1 + 1, j, none⟩ = false := fun j => frozen_of_block HW3.out.q j
      have HS3 := Lib.hid ((HW3.out.setRo (ro' := false) hz).setLen (len' := 513 + ov % 1000) hz); clear HW3
      go_wp2_with fail
      refine (check_any _ _ _ _ _ _ _ _ _ _ _ _ _ _ _ _ _ _ _ _ _ _ _ _ _ (by omega) (by omega) hof (by omega) (by omega) (by omega) (by omega) (by omega) HS3.out.tab).mono ?_; rintro e w4 ⟨rfl, hb⟩
      rw [HU.out]
      have HW4 := Lib.hid (HS3.out.next hb); clear hb HS3 fz fy y0 y1 y2 y3 y4 y5 y6 y7 y8 y9 y10 y11 y12 y13 y14 y15 y16 y17 y18 y19 y20 y21
      go_wp2_with (go_at_call 14; refine (heads_any _ HW4.out.tab).mono ?_; rintro e w5 ⟨rfl, hb5⟩)
      go_ret
      exact ⟨rfl, (HW4.out.next hb5).bel⟩
    · have h16 : hasB f 16 = false := hsix.resolve_right (by omega)
      clear hsix
      have fF : fastF f = false := by simp [fastF, h16]
      rw [fF, if_neg (by decide), if_neg (by decide)] at hgot
      rw [fF, if_neg (by decide), if_neg (by decide)] at honly
      rw [if_neg (by decide), if_neg (by decide)] at hout
      subst hgot
      have HO := Lib.hid honly; have HU := Lib.hid hout; clear honly hout fF
      have g16 : (bits .and .u16 (f : Int) 16 != 0) = false := h16
      clear h16
      as_aux_lemma =>
      have y0 : w2.cell? ⟨w.heap.size, 0, none⟩ = some (.string ⟨#[97]⟩) := cell_of_block HW2.out.e 0
      have y1 : w2.cell? ⟨w.heap.size, 1, none⟩ = some (.string ⟨#[]⟩) := cell_of_block HW2.out.e 1
      have y2 : w2.cell? ⟨w.heap.size, 2, none⟩ = some (.int .i64 k) := cell_of_block HW2.out.e 2
      have y3 : w2.cell? ⟨w.heap.size, 3, none⟩ = some (.bool false) := cell_of_block HW2.out.e 3
      have y4 : w2.cell? ⟨w.heap.size, 4, none⟩ = some (.bool false) := cell_of_block HW2.out.e 4
      have y5 : w2.cell? ⟨w.heap.size, 5, none⟩ = some (.bool false) := cell_of_block HW2.out.e 5
      have y6 : w2.cell? ⟨w.heap.size, 6, none⟩ = some (.bool false) := cell_of_block HW2.out.e 6
      have y7 : w2.cell? ⟨w.heap.size, 7, none⟩ = some (.int .u32 1) := cell_of_block HW2.out.e 7
      have y8 : w2.cell? ⟨w.heap.size, 8, none⟩ = some (.int .u32 512) := cell_of_block HW2.out.e 8
      have y9 : w2.cell? ⟨w.heap.size + 1 + 1, 0, none⟩ = some (.int .i64 0) := cell_of_block HW2.out.s 0
      have y10 : w2.cell? ⟨w.heap.size + 1 + 1, 1, none⟩ = some (.bool true) := cell_of_block HW2.out.s 1
      have y11 : w2.cell? ⟨w.heap.size + 1 + 1, 2, none⟩ = some (.bool false) := cell_of_block HW2.out.s 2
      have y12 : w2.cell? ⟨w.heap.size + 1 + 1, 3, none⟩ = some (.slice (some ⟨w.heap.size + 1, 0, none⟩) 1 1) := cell_of_block HW2.out.s 3
      have y13 : w2.cell? ⟨w.heap.size + 1 + 1 + 1, 0, none⟩ = some (.int .u32 1048576) := cell_of_block HW2.out.l 0
      have y14 : w2.cell? ⟨w.heap.size + 1 + 1 + 1, 1, none⟩ = some (.int .u32 64) := cell_of_block HW2.out.l 1
      have y15 : w2.cell? ⟨w.heap.size + 1 + 1 + 1, 2, none⟩ = some (.int .i64 1) := cell_of_block HW2.out.l 2
      have y16 : w2.cell? ⟨w.heap.size + 1 + 1 + 1 + 1, 0, none⟩ = some (.int .u16 f) := cell_of_block HW2.out.q 0
      have y17 : w2.cell? ⟨w.heap.size + 1 + 1 + 1 + 1, 1, none⟩ = some (.int .u16 3) := cell_of_block HW2.out.q 1
      have y18 : w2.cell? ⟨w.heap.size + 1 + 1 + 1 + 1, 2, none⟩ = some (.int .u64 0) := cell_of_block HW2.out.q 2
      have y19 : w2.cell? ⟨w.heap.size + 1 + 1 + 1 + 1, 3, none⟩ = some (.int .u64 off) := cell_of_block HW2.out.q 3
      have y20 : w2.cell? ⟨w.heap.size + 1 + 1 + 1 + 1, 4, none⟩ = some (.int .u64 len) := cell_of_block HW2.out.q 4
      have y21 : w2.cell? ⟨w.heap.size + 1 + 1 + 1 + 1, 5, none⟩ = some (.slice none 0 0) := cell_of_block HW2.out.q 5
      have fz : ∀ j, w2.frozen? ⟨w.heap.size, j, none⟩ = false := fun j => frozen_of_block HW2.out.e j
      have HS2 := Lib.hid (HW2.out.setRo (ro' := true) hz); clear HW2
      go_wp2_with fail
      refine (check_any _ _ _ _ _ _ _ _ _ _ _ _ _ _ _ _ _ _ _ _ _ _ _ _ _ (by omega) (by omega) hof hle (by omega) (by omega) (by omega) (by omega) HS2.out.tab).mono ?_; rintro e w3 ⟨rfl, hb⟩
      rw [HO.out]
      have HW3 := Lib.hid (HS2.out.next hb); clear hb HS2 fz y0 y1 y2 y3 y4 y5 y6 y7 y8 y9 y10 y11 y12 y13 y14 y15 y16 y17 y18 y19 y20 y21
      have y0 : w3.cell? ⟨w.heap.size, 0, none⟩ = some (.string ⟨#[97]⟩) := cell_of_block HW3.out.e 0
      have y1 : w3.cell? ⟨w.heap.size, 1, none⟩ = some (.string ⟨#[]⟩) := cell_of_block HW3.out.e 1
      have y2 : w3.cell? ⟨w.heap.size, 2, none⟩ = some (.int .i64 k) := cell_of_block HW3.out.e 2
      have y3 : w3.cell? ⟨w.heap.size, 3, none⟩ = some (.bool true) := cell_of_block HW3.out.e 3
      have y4 : w3.cell? ⟨w.heap.size, 4, none⟩ = some (.bool false) := cell_of_block HW3.out.e 4
      have y5 : w3.cell? ⟨w.heap.size, 5, none⟩ = some (.bool false) := cell_of_block HW3.out.e 5
      have y6 : w3.cell? ⟨w.heap.size, 6, none⟩ = some (.bool false) := cell_of_block HW3.out.e 6
      have y7 : w3.cell? ⟨w.heap.size, 7, none⟩ = some (.int .u32 1) := cell_of_block HW3.out.e 7
      have y8 : w3.cell? ⟨w.heap.size, 8, none⟩ = some (.int .u32 512) := cell_of_block HW3.out.e 8
      have y9 : w3.cell? ⟨w.heap.size + 1 + 1, 0, none⟩ = some (.int .i64 0) := cell_of_block HW3.out.s 0
      have y10 : w3.cell? ⟨w.heap.size + 1 + 1, 1, none⟩ = some (.bool true) := cell_of_block HW3.out.s 1
      have y11 : w3.cell? ⟨w.heap.size + 1 + 1, 2, none⟩ = some (.bool false) := cell_of_block HW3.out.s 2
      have y12 : w3.cell? ⟨w.heap.size + 1 + 1, 3, none⟩ = some (.slice (some ⟨w.heap.size + 1, 0, none⟩) 1 1) := cell_of_block HW3.out.s 3
      have y13 : w3.cell? ⟨w.heap.size + 1 + 1 + 1, 0, none⟩ = some (.int .u32 1048576) := cell_of_block HW3.out.l 0
      have y14 : w3.cell? ⟨w.heap.size + 1 + 1 + 1, 1, none⟩ = some (.int .u32 64) := cell_of_block HW3.out.l 1
      have y15 : w3.cell? ⟨w.heap.size + 1 + 1 + 1, 2, none⟩ = some (.int .i64 1) := cell_of_block HW3.out.l 2
      have y16 : w3.cell? ⟨w.heap.size + 1 + 1 + 1 + 1, 0, none⟩ = some (.int .u16 f) := cell_of_block HW3.out.q 0
      have y17 : w3.cell? ⟨w.heap.size + 1 + 1 + 1 + 1, 1, none⟩ = some (.int .u16 3) := cell_of_block HW3.out.q 1
      have y18 : w3.cell? ⟨w.heap.size + 1 + 1 + 1 + 1, 2, none⟩ = some (.int .u64 0) := cell_of_block HW3.out.q 2
      have y19 : w3.cell? ⟨w.heap.size + 1 + 1 + 1 + 1, 3, none⟩ = some (.int .u64 off) := cell_of_block HW3.out.q 3
      have y20 : w3.cell? ⟨w.heap.size + 1 + 1 + 1 + 1, 4, none⟩ = some (.int .u64 len) := cell_of_block HW3.out.q 4
      have y21 : w3.cell? ⟨w.heap.size + 1 + 1 + 1 + 1, 5, none⟩ = some (.slice none 0 0) := cell_of_block HW3.out.q 5
      have fz : ∀ j, w3.frozen? ⟨w.heap.size, j, none⟩ = false := fun j => frozen_of_block HW3.out.e j
      have fy : ∀ j, w3.frozen? ⟨w.heap.size + 1 + 1 + 1 + 1, j, none⟩ = false := fun j => frozen_of_block HW3.out.q j
      have HS3 := Lib.hid ((HW3.out.setRo (ro' := false) hz).setLen (len' := 513 + ov % 1000) hz); clear HW3
      go_wp2_with fail
      refine (check_any _ _ _ _ _ _ _ _ _ _ _ _ _ _ _ _ _ _ _ _ _ _ _ _ _ (by omega) (by omega) hof (by omega) (by omega) (by omega) (by omega) (by omega) HS3.out.tab).mono ?_; rintro e w4 ⟨rfl, hb⟩
      rw [HU.out]
      have HW4 := Lib.hid (HS3.out.next hb); clear hb HS3 fz fy y0 y1 y2 y3 y4 y5 y6 y7 y8 y9 y10 y11 y12 y13 y14 y15 y16 y17 y18 y19 y20 y21
      go_wp2_with (go_at_call 14; refine (heads_any _ HW4.out.tab).mono ?_; rintro e w5 ⟨rfl, hb5⟩)
      go_ret
      exact ⟨rfl, (HW4.out.next hb5).bel⟩
    · have h16 : hasB f 16 = false := hsix.resolve_right (by omega)
      clear hsix
      have fF : fastF f = false := by simp [fastF, h16]
      rw [fF, if_neg (by decide), if_neg (by decide)] at hgot
      rw [if_pos (by decide)] at honly
      rw [if_neg (by decide), if_neg (by decide)] at hout
      subst hgot
      have HO := Lib.hid honly; have HU := Lib.hid hout; clear honly hout fF
      have g16 : (bits .and .u16 (f : Int) 16 != 0) = false := h16
      clear h16
      as_aux_lemma =>
      have y0 : w2.cell? ⟨w.heap.size, 0, none⟩ = some (.string ⟨#[97]⟩) := cell_of_block HW2.out.e 0
      have y1 : w2.cell? ⟨w.heap.size, 1, none⟩ = some (.string ⟨#[]⟩) := cell_of_block HW2.out.e 1
      have y2 : w2.cell? ⟨w.heap.size, 2, none⟩ = some (.int .i64 k) := cell_of_block HW2.out.e 2
      have y3 : w2.cell? ⟨w.heap.size, 3, none⟩ = some (.bool false) := cell_of_block HW2.out.e 3
      have y4 : w2.cell? ⟨w.heap.size, 4, none⟩ = some (.bool false) := cell_of_block HW2.out.e 4
      have y5 : w2.cell? ⟨w.heap.size, 5, none⟩ = some (.bool false) := cell_of_block HW2.out.e 5
      have y6 : w2.cell? ⟨w.heap.size, 6, none⟩ = some (.bool false) := cell_of_block HW2.out.e 6
      have y7 : w2.cell? ⟨w.heap.size, 7, none⟩ = some (.int .u32 1) := cell_of_block HW2.out.e 7
      have y8 : w2.cell? ⟨w.heap.size, 8, none⟩ = some (.int .u32 512) := cell_of_block HW2.out.e 8
      have y9 : w2.cell? ⟨w.heap.size + 1 + 1, 0, none⟩ = some (.int .i64 0) := cell_of_block HW2.out.s 0
      have y10 : w2.cell? ⟨w.heap.size + 1 + 1, 1, none⟩ = some (.bool true) := cell_of_block HW2.out.s 1
      have y11 : w2.cell? ⟨w.heap.size + 1 + 1, 2, none⟩ = some (.bool false) := cell_of_block HW2.out.s 2
      have y12 : w2.cell? ⟨w.heap.size + 1 + 1, 3, none⟩ = some (.slice (some ⟨w.heap.size + 1, 0, none⟩) 1 1) := cell_of_block HW2.out.s 3
      have y13 : w2.cell? ⟨w.heap.size + 1 + 1 + 1, 0, none⟩ = some (.int .u32 1048576) := cell_of_block HW2.out.l 0
      have y14 : w2.cell? ⟨w.heap.size + 1 + 1 + 1, 1, none⟩ = some (.int .u32 64) := cell_of_block HW2.out.l 1
      have y15 : w2.cell? ⟨w.heap.size + 1 + 1 + 1, 2, none⟩ = some (.int .i64 1) := cell_of_block HW2.out.l 2
      have y16 : w2.cell? ⟨w.heap.size + 1 + 1 + 1 + 1, 0, none⟩ = some (.int .u16 f) := cell_of_block HW2.out.q 0
      have y17 : w2.cell? ⟨w.heap.size + 1 + 1 + 1 + 1, 1, none⟩ = some (.int .u16 4) := cell_of_block HW2.out.q 1
      have y18 : w2.cell? ⟨w.heap.size + 1 + 1 + 1 + 1, 2, none⟩ = some (.int .u64 0) := cell_of_block HW2.out.q 2
      have y19 : w2.cell? ⟨w.heap.size + 1 + 1 + 1 + 1, 3, none⟩ = some (.int .u64 off) := cell_of_block HW2.out.q 3
      have y20 : w2.cell? ⟨w.heap.size + 1 + 1 + 1 + 1, 4, none⟩ = some (.int .u64 len) := cell_of_block HW2.out.q 4
      have y21 : w2.cell? ⟨w.heap.size + 1 + 1 + 1 + 1, 5, none⟩ = some (.slice none 0 0) := cell_of_block HW2.out.q 5
      have fz : ∀ j, w2.frozen? ⟨w.heap.size, j, none⟩ = false := fun j => frozen_of_block HW2.out.e j
      have HS2 := Lib.hid (HW2.out.setRo (ro' := true) hz); clear HW2
      go_wp2_with fail
      refine (check_any _ _ _ _ _ _ _ _ _ _ _ _ _ _ _ _ _ _ _ _ _ _ _ _ _ (by omega) (by omega) hof hle (by omega) (by omega) (by omega) (by omega) HS2.out.tab).mono ?_; rintro e w3 ⟨rfl, hb⟩
      rw [HO.out]
      have HW3 := Lib.hid (HS2.out.next hb); clear hb HS2 fz y0 y1 y2 y3 y4 y5 y6 y7 y8 y9 y10 y11 y12 y13 y14 y15 y16 y17 y18 y19 y20 y21
      have y0 : w3.cell? ⟨w.heap.size, 0, none⟩ = some (.string ⟨#[97]⟩) := cell_of_block HW3.out.e 0
      have y1 : w3.cell? ⟨w.heap.size, 1, none⟩ = some (.string ⟨#[]⟩) := cell_of_block HW3.out.e 1
      have y2 : w3.cell? ⟨w.heap.size, 2, none⟩ = some (.int .i64 k) := cell_of_block HW3.out.e 2
      have y3 : w3.cell? ⟨w.heap.size, 3, none⟩ = some (.bool true) := cell_of_block HW3.out.e 3
      have y4 : w3.cell? ⟨w.heap.size, 4, none⟩ = some (.bool false) := cell_of_block HW3.out.e 4
      have y5 : w3.cell? ⟨w.heap.size, 5, none⟩ = some (.bool false) := cell_of_block HW3.out.e 5
      have y6 : w3.cell? ⟨w.heap.size, 6, none⟩ = some (.bool false) := cell_of_block HW3.out.e 6
      have y7 : w3.cell? ⟨w.heap.size, 7, none⟩ = some (.int .u32 1) := cell_of_block HW3.out.e 7
      have y8 : w3.cell? ⟨w.heap.size, 8, none⟩ = some (.int .u32 512) := cell_of_block HW3.out.e 8
      have y9 : w3.cell? ⟨w.heap.size + 1 + 1, 0, none⟩ = some (.int .i64 0) := cell_of_block HW3.out.s 0
      have y10 : w3.cell? ⟨w.heap.size + 1 + 1, 1, none⟩ = some (.bool true) := cell_of_block HW3.out.s 1
      have y11 : w3.cell? ⟨w.heap.size + 1 + 1, 2, none⟩ = some (.bool false) := cell_of_block HW3.out.s 2
      have y12 : w3.cell? ⟨w.heap.size + 1 + 1, 3, none⟩ = some (.slice (some ⟨w.heap.size + 1, 0, none⟩) 1 1) := cell_of_block HW3.out.s 3
      have y13 : w3.cell? ⟨w.heap.size + 1 + 1 + 1, 0, none⟩ = some (.int .u32 1048576) := cell_of_block HW3.out.l 0
      have y14 : w3.cell? ⟨w.heap.size + 1 + 1 + 1, 1, none⟩ = some (.int .u32 64) := cell_of_block HW3.out.l 1
      have y15 : w3.cell? ⟨w.heap.size + 1 + 1 + 1, 2, none⟩ = some (.int .i64 1) := cell_of_block HW3.out.l 2
      have y16 : w3.cell? ⟨w.heap.size + 1 + 1 + 1 + 1, 0, none⟩ = some (.int .u16 f) := cell_of_block HW3.out.q 0
      have y17 : w3.cell? ⟨w.heap.size + 1 + 1 + 1 + 1, 1, none⟩ = some (.int .u16 4) := cell_of_block HW3.out.q 1
      have y18 : w3.cell? ⟨w.heap.size + 1 + 1 + 1 + 1, 2, none⟩ = some (.int .u64 0) := cell_of_block HW3.out.q 2
      have y19 : w3.cell? ⟨w.heap.size + 1 + 1 + 1 + 1, 3, none⟩ = some (.int .u64 off) := cell_of_block HW3.out.q 3
      have y20 : w3.cell? ⟨w.heap.size + 1 + 1 + 1 + 1, 4, none⟩ = some (.int .u64 len) := cell_of_block HW3.out.q 4
      have y21 : w3.cell? ⟨w.heap.size + 1 + 1 + 1 + 1, 5, none⟩ = some (.slice none 0 0) := cell_of_block HW3.out.q 5
      have fz : ∀ j, w3.frozen? ⟨w.heap.size, j, none⟩ = false := fun j => frozen_of_block HW3.out.e j
      have fy : ∀ j, w3.frozen? ⟨w.heap.size + 1 + 1 + 1 + 1, j, none⟩ = false := fun j => frozen_of_block HW3.out.q j
      have HS3 := Lib.hid ((HW3.out.setRo (ro' := false) hz).setLen (len' := 513 + ov % 1000) hz); clear HW3
      go_wp2_with fail
      refine (check_any _ _ _ _ _ _ _ _ _ _ _ _ _ _ _ _ _ _ _ _ _ _ _ _ _ (by omega) (by omega) hof (by omega) (by omega) (by omega) (by omega) (by omega) HS3.out.tab).mono ?_; rintro e w4 ⟨rfl, hb⟩
      rw [HU.out]
      have HW4 := Lib.hid (HS3.out.next hb); clear hb HS3 fz fy y0 y1 y2 y3 y4 y5 y6 y7 y8 y9 y10 y11 y12 y13 y14 y15 y16 y17 y18 y19 y20 y21
      go_wp2_with (go_at_call 14; refine (heads_any _ HW4.out.tab).mono ?_; rintro e w5 ⟨rfl, hb5⟩)
      go_ret
      exact ⟨rfl, (HW4.out.next hb5).bel⟩
    · have h16 : hasB f 16 = false := hsix.resolve_right (by omega)
      clear hsix
      have fF : fastF f = false := by simp [fastF, h16]
      rw [fF, if_neg (by decide), if_neg (by decide)] at hgot
      rw [fF, if_neg (by decide), if_neg (by decide)] at honly
      rw [if_neg (by decide), if_neg (by decide)] at hout
      subst hgot
      have HO := Lib.hid honly; have HU := Lib.hid hout; clear honly hout fF
      have g16 : (bits .and .u16 (f : Int) 16 != 0) = false := h16
      clear h16
      as_aux_lemma =>
      have y0 : w2.cell? ⟨w.heap.size, 0, none⟩ = some (.string ⟨#[97]⟩) := cell_of_block HW2.out.e 0
      have y1 : w2.cell? ⟨w.heap.size, 1, none⟩ = some (.string ⟨#[]⟩) := cell_of_block HW2.out.e 1
      have y2 : w2.cell? ⟨w.heap.size, 2, none⟩ = some (.int .i64 k) := cell_of_block HW2.out.e 2
      have y3 : w2.cell? ⟨w.heap.size, 3, none⟩ = some (.bool false) := cell_of_block HW2.out.e 3
      have y4 : w2.cell? ⟨w.heap.size, 4, none⟩ = some (.bool false) := cell_of_block HW2.out.e 4
      have y5 : w2.cell? ⟨w.heap.size, 5, none⟩ = some (.bool false) := cell_of_block HW2.out.e 5
      have y6 : w2.cell? ⟨w.heap.size, 6, none⟩ = some (.bool false) := cell_of_block HW2.out.e 6
      have y7 : w2.cell? ⟨w.heap.size, 7, none⟩ = some (.int .u32 1) := cell_of_block HW2.out.e 7
      have y8 : w2.cell? ⟨w.heap.size, 8, none⟩ = some (.int .u32 512) := cell_of_block HW2.out.e 8
      have y9 : w2.cell? ⟨w.heap.size + 1 + 1, 0, none⟩ = some (.int .i64 0) := cell_of_block HW2.out.s 0
      have y10 : w2.cell? ⟨w.heap.size + 1 + 1, 1, none⟩ = some (.bool true) := cell_of_block HW2.out.s 1
      have y11 : w2.cell? ⟨w.heap.size + 1 + 1, 2, none⟩ = some (.bool false) := cell_of_block HW2.out.s 2
      have y12 : w2.cell? ⟨w.heap.size + 1 + 1, 3, none⟩ = some (.slice (some ⟨w.heap.size + 1, 0, none⟩) 1 1) := cell_of_block HW2.out.s 3
      have y13 : w2.cell? ⟨w.heap.size + 1 + 1 + 1, 0, none⟩ = some (.int .u32 1048576) := cell_of_block HW2.out.l 0
      have y14 : w2.cell? ⟨w.heap.size + 1 + 1 + 1, 1, none⟩ = some (.int .u32 64) := cell_of_block HW2.out.l 1
      have y15 : w2.cell? ⟨w.heap.size + 1 + 1 + 1, 2, none⟩ = some (.int .i64 1) := cell_of_block HW2.out.l 2
      have y16 : w2.cell? ⟨w.heap.size + 1 + 1 + 1 + 1, 0, none⟩ = some (.int .u16 f) := cell_of_block HW2.out.q 0
      have y17 : w2.cell? ⟨w.heap.size + 1 + 1 + 1 + 1, 1, none⟩ = some (.int .u16 5) := cell_of_block HW2.out.q 1
      have y18 : w2.cell? ⟨w.heap.size + 1 + 1 + 1 + 1, 2, none⟩ = some (.int .u64 0) := cell_of_block HW2.out.q 2
      have y19 : w2.cell? ⟨w.heap.size + 1 + 1 + 1 + 1, 3, none⟩ = some (.int .u64 off) := cell_of_block HW2.out.q 3
      have y20 : w2.cell? ⟨w.heap.size + 1 + 1 + 1 + 1, 4, none⟩ = some (.int .u64 len) := cell_of_block HW2.out.q 4
      have y21 : w2.cell? ⟨w.heap.size + 1 + 1 + 1 + 1, 5, none⟩ = some (.slice none 0 0) := cell_of_block HW2.out.q 5
      have fz : ∀ j, w2.frozen? ⟨w.heap.size, j, none⟩ = false := fun j => frozen_of_block HW2.out.e j
      have HS2 := Lib.hid (HW2.out.setRo (ro' := true) hz); clear HW2
      go_wp2_with fail
      refine (check_any _ _ _ _ _ _ _ _ _ _ _ _ _ _ _ _ _ _ _ _ _ _ _ _ _ (by omega) (by omega) hof hle (by omega) (by omega) (by omega) (by omega) HS2.out.tab).mono ?_; rintro e w3 ⟨rfl, hb⟩
      rw [HO.out]
      have HW3 := Lib.hid (HS2.out.next hb); clear hb HS2 fz y0 y1 y2 y3 y4 y5 y6 y7 y8 y9 y10 y11 y12 y13 y14 y15 y16 y17 y18 y19 y20 y21
      have y0 : w3.cell? ⟨w.heap.size, 0, none⟩ = some (.string ⟨#[97]⟩) := cell_of_block HW3.out.e 0
      have y1 : w3.cell? ⟨w.heap.size, 1, none⟩ = some (.string ⟨#[]⟩) := cell_of_block HW3.out.e 1
      have y2 : w3.cell? ⟨w.heap.size, 2, none⟩ = some (.int .i64 k) := cell_of_block HW3.out.e 2
      have y3 : w3.cell? ⟨w.heap.size, 3, none⟩ = some (.bool true) := cell_of_block HW3.out.e 3
      have y4 : w3.cell? ⟨w.heap.size, 4, none⟩ = some (.bool false) := cell_of_block HW3.out.e 4
      have y5 : w3.cell? ⟨w.heap.size, 5, none⟩ = some (.bool false) := cell_of_block HW3.out.e 5
      have y6 : w3.cell? ⟨w.heap.size, 6, none⟩ = some (.bool false) := cell_of_block HW3.out.e 6
      have y7 : w3.cell? ⟨w.heap.size, 7, none⟩ = some (.int .u32 1) := cell_of_block HW3.out.e 7
      have y8 : w3.cell? ⟨w.heap.size, 8, none⟩ = some (.int .u32 512) := cell_of_block HW3.out.e 8
      have y9 : w3.cell? ⟨w.heap.size + 1 + 1, 0, none⟩ = some (.int .i64 0) := cell_of_block HW3.out.s 0
      have y10 : w3.cell? ⟨w.heap.size + 1 + 1, 1, none⟩ = some (.bool true) := cell_of_block HW3.out.s 1
      have y11 : w3.cell? ⟨w.heap.size + 1 + 1, 2, none⟩ = some (.bool false) := cell_of_block HW3.out.s 2
      have y12 : w3.cell? ⟨w.heap.size + 1 + 1, 3, none⟩ = some (.slice (some ⟨w.heap.size + 1, 0, none⟩) 1 1) := cell_of_block HW3.out.s 3
      have y13 : w3.cell? ⟨w.heap.size + 1 + 1 + 1, 0, none⟩ = some (.int .u32 1048576) := cell_of_block HW3.out.l 0
      have y14 : w3.cell? ⟨w.heap.size + 1 + 1 + 1, 1, none⟩ = some (.int .u32 64) := cell_of_block HW3.out.l 1
      have y15 : w3.cell? ⟨w.heap.size + 1 + 1 + 1, 2, none⟩ = some (.int .i64 1) := cell_of_block HW3.out.l 2
      have y16 : w3.cell? ⟨w.heap.size + 1 + 1 + 1 + 1, 0, none⟩ = some (.int .u16 f) := cell_of_block HW3.out.q 0
      have y17 : w3.cell? ⟨w.heap.size + 1 + 1 + 1 + 1, 1, none⟩ = some (.int .u16 5) := cell_of_block HW3.out.q 1
      have y18 : w3.cell? ⟨w.heap.size + 1 + 1 + 1 + 1, 2, none⟩ = some (.int .u64 0) := cell_of_block HW3.out.q 2
      have y19 : w3.cell? ⟨w.heap.size + 1 + 1 + 1 + 1, 3, none⟩ = some (.int .u64 off) := cell_of_block HW3.out.q 3
      have y20 : w3.cell? ⟨w.heap.size + 1 + 1 + 1 + 1, 4, none⟩ = some (.int .u64 len) := cell_of_block HW3.out.q 4
      have y21 : w3.cell? ⟨w.heap.size + 1 + 1 + 1 + 1, 5, none⟩ = some (.slice none 0 0) := cell_of_block HW3.out.q 5
      have fz : ∀ j, w3.frozen? ⟨w.heap.size, j, none⟩ = false := fun j => frozen_of_block HW3.out.e j
      have fy : ∀ j, w3.frozen? ⟨w.heap.size + 1 + 1 + 1 + 1, j, none⟩ = false := fun j => frozen_of_block HW3.out.q j
      have HS3 := Lib.hid ((HW3.out.setRo (ro' := false) hz).setLen (len' := 513 + ov % 1000) hz); clear HW3
      go_wp2_with fail
      refine (check_any _ _ _ _ _ _ _ _ _ _ _ _ _ _ _ _ _ _ _ _ _ _ _ _ _ (by omega) (by omega) hof (by omega) (by omega) (by omega) (by omega) (by omega) HS3.out.tab).mono ?_; rintro e w4 ⟨rfl, hb⟩
      rw [HU.out]
      have HW4 := Lib.hid (HS3.out.next hb); clear hb HS3 fz fy y0 y1 y2 y3 y4 y5 y6 y7 y8 y9 y10 y11 y12 y13 y14 y15 y16 y17 y18 y19 y20 y21
      go_wp2_with (go_at_call 14; refine (heads_any _ HW4.out.tab).mono ?_; rintro e w5 ⟨rfl, hb5⟩)
      go_ret
      exact ⟨rfl, (HW4.out.next hb5).bel⟩
    · clear hsix
      rcases Bool.eq_false_or_eq_true (hasB f 16) with h16 | h16
      rotate_left
      · skip
        have fF : fastF f = false := by simp [fastF, h16]
        rw [fF, if_neg (by decide), if_neg (by decide)] at hgot
        rw [if_pos (by decide)] at honly
        rw [if_pos (by decide)] at hout
        subst hgot
        have HO := Lib.hid honly; have HU := Lib.hid hout; clear honly hout fF
        have g16 : (bits .and .u16 (f : Int) 16 != 0) = false := h16
        clear h16
        as_aux_lemma =>
        have y0 : w2.cell? ⟨w.heap.size, 0, none⟩ = some (.string ⟨#[97]⟩) := cell_of_block HW2.out.e 0
        have y1 : w2.cell? ⟨w.heap.size, 1, none⟩ = some (.string ⟨#[]⟩) := cell_of_block HW2.out.e 1
        have y2 : w2.cell? ⟨w.heap.size, 2, none⟩ = some (.int .i64 k) := cell_of_block HW2.out.e 2
        have y3 : w2.cell? ⟨w.heap.size, 3, none⟩ = some (.bool false) := cell_of_block HW2.out.e 3
        have y4 : w2.cell? ⟨w.heap.size, 4, none⟩ = some (.bool false) := cell_of_block HW2.out.e 4
        have y5 : w2.cell? ⟨w.heap.size, 5, none⟩ = some (.bool false) := cell_of_block HW2.out.e 5
        have y6 : w2.cell? ⟨w.heap.size, 6, none⟩ = some (.bool false) := cell_of_block HW2.out.e 6
        have y7 : w2.cell? ⟨w.heap.size, 7, none⟩ = some (.int .u32 1) := cell_of_block HW2.out.e 7
        have y8 : w2.cell? ⟨w.heap.size, 8, none⟩ = some (.int .u32 512) := cell_of_block HW2.out.e 8
        have y9 : w2.cell? ⟨w.heap.size + 1 + 1, 0, none⟩ = some (.int .i64 0) := cell_of_block HW2.out.s 0
        have y10 : w2.cell? ⟨w.heap.size + 1 + 1, 1, none⟩ = some (.bool true) := cell_of_block HW2.out.s 1
        have y11 : w2.cell? ⟨w.heap.size + 1 + 1, 2, none⟩ = some (.bool false) := cell_of_block HW2.out.s 2
        have y12 : w2.cell? ⟨w.heap.size + 1 + 1, 3, none⟩ = some (.slice (some ⟨w.heap.size + 1, 0, none⟩) 1 1) := cell_of_block HW2.out.s 3
        have y13 : w2.cell? ⟨w.heap.size + 1 + 1 + 1, 0, none⟩ = some (.int .u32 1048576) := cell_of_block HW2.out.l 0
        have y14 : w2.cell? ⟨w.heap.size + 1 + 1 + 1, 1, none⟩ = some (.int .u32 64) := cell_of_block HW2.out.l 1
        have y15 : w2.cell? ⟨w.heap.size + 1 + 1 + 1, 2, none⟩ = some (.int .i64 1) := cell_of_block HW2.out.l 2
        have y16 : w2.cell? ⟨w.heap.size + 1 + 1 + 1 + 1, 0, none⟩ = some (.int .u16 f) := cell_of_block HW2.out.q 0
        have y17 : w2.cell? ⟨w.heap.size + 1 + 1 + 1 + 1, 1, none⟩ = some (.int .u16 6) := cell_of_block HW2.out.q 1
        have y18 : w2.cell? ⟨w.heap.size + 1 + 1 + 1 + 1, 2, none⟩ = some (.int .u64 0) := cell_of_block HW2.out.q 2
        have y19 : w2.cell? ⟨w.heap.size + 1 + 1 + 1 + 1, 3, none⟩ = some (.int .u64 off) := cell_of_block HW2.out.q 3
        have y20 : w2.cell? ⟨w.heap.size + 1 + 1 + 1 + 1, 4, none⟩ = some (.int .u64 len) := cell_of_block HW2.out.q 4
        have y21 : w2.cell? ⟨w.heap.size + 1 + 1 + 1 + 1, 5, none⟩ = some (.slice none 0 0) := cell_of_block HW2.out.q 5
        have fz : ∀ j, w2.frozen? ⟨w.heap.size, j, none⟩ = false := fun j => frozen_of_block HW2.out.e j
        have HS2 := Lib.hid (HW2.out.setRo (ro' := true) hz); clear HW2
        go_wp2_with fail
        refine (check_any _ _ _ _ _ _ _ _ _ _ _ _ _ _ _ _ _ _ _ _ _ _ _ _ _ (by omega) (by omega) hof hle (by omega) (by omega) (by omega) (by omega) HS2.out.tab).mono ?_; rintro e w3 ⟨rfl, hb⟩
        rw [HO.out]
        have HW3 := Lib.hid (HS2.out.next hb); clear hb HS2 fz y0 y1 y2 y3 y4 y5 y6 y7 y8 y9 y10 y11 y12 y13 y14 y15 y16 y17 y18 y19 y20 y21
        have y0 : w3.cell? ⟨w.heap.size, 0, none⟩ = some (.string ⟨#[97]⟩) := cell_of_block HW3.out.e 0
        have y1 : w3.cell? ⟨w.heap.size, 1, none⟩ = some (.string ⟨#[]⟩) := cell_of_block HW3.out.e 1
        have y2 : w3.cell? ⟨w.heap.size, 2, none⟩ = some (.int .i64 k) := cell_of_block HW3.out.e 2
        have y3 : w3.cell? ⟨w.heap.size, 3, none⟩ = some (.bool true) := cell_of_block HW3.out.e 3
        have y4 : w3.cell? ⟨w.heap.size, 4, none⟩ = some (.bool false) := cell_of_block HW3.out.e 4
        have y5 : w3.cell? ⟨w.heap.size, 5, none⟩ = some (.bool false) := cell_of_block HW3.out.e 5
        have y6 : w3.cell? ⟨w.heap.size, 6, none⟩ = some (.bool false) := cell_of_block HW3.out.e 6
        have y7 : w3.cell? ⟨w.heap.size, 7, none⟩ = some (.int .u32 1) := cell_of_block HW3.out.e 7
        have y8 : w3.cell? ⟨w.heap.size, 8, none⟩ = some (.int .u32 512) := cell_of_block HW3.out.e 8
        have y9 : w3.cell? ⟨w.heap.size + 1 + 1, 0, none⟩ = some (.int .i64 0) := cell_of_block HW3.out.s 0
        have y10 : w3.cell? ⟨w.heap.size + 1 + 1, 1, none⟩ = some (.bool true) := cell_of_block HW3.out.s 1
        have y11 : w3.cell? ⟨w.heap.size + 1 + 1, 2, none⟩ = some (.bool false) := cell_of_block HW3.out.s 2
        have y12 : w3.cell? ⟨w.heap.size + 1 + 1, 3, none⟩ = some (.slice (some ⟨w.heap.size + 1, 0, none⟩) 1 1) := cell_of_block HW3.out.s 3
        have y13 : w3.cell? ⟨w.heap.size + 1 + 1 + 1, 0, none⟩ = some (.int .u32 1048576) := cell_of_block HW3.out.l 0
        have y14 : w3.cell? ⟨w.heap.size + 1 + 1 + 1, 1, none⟩ = some (.int .u32 64) := cell_of_block HW3.out.l 1
        have y15 : w3.cell? ⟨w.heap.size + 1 + 1 + 1, 2, none⟩ = some (.int .i64 1) := cell_of_block HW3.out.l 2
        have y16 : w3.cell? ⟨w.heap.size + 1 + 1 + 1 + 1, 0, none⟩ = some (.int .u16 f) := cell_of_block HW3.out.q 0
        have y17 : w3.cell? ⟨w.heap.size + 1 + 1 + 1 + 1, 1, none⟩ = some (.int .u16 6) := cell_of_block HW3.out.q 1
        have y18 : w3.cell? ⟨w.heap.size + 1 + 1 + 1 + 1, 2, none⟩ = some (.int .u64 0) := cell_of_block HW3.out.q 2
        have y19 : w3.cell? ⟨w.heap.size + 1 + 1 + 1 + 1, 3, none⟩ = some (.int .u64 off) := cell_of_block HW3.out.q 3
        have y20 : w3.cell? ⟨w.heap.size + 1 + 1 + 1 + 1, 4, none⟩ = some (.int .u64 len) := cell_of_block HW3.out.q 4
        have y21 : w3.cell? ⟨w.heap.size + 1 + 1 + 1 + 1, 5, none⟩ = some (.slice none 0 0) := cell_of_block HW3.out.q 5
        have fz : ∀ j, w3.frozen? ⟨w.heap.size, j, none⟩ = false := fun j => frozen_of_block HW3.out.e j
        have fy : ∀ j, w3.frozen? ⟨w.heap.size + 1 + 1 + 1 + 1, j, none⟩ = false := fun j => frozen_of_block HW3.out.q j
        have HS3 := Lib.hid ((HW3.out.setRo (ro' := false) hz).setLen (len' := 513 + ov % 1000) hz); clear HW3
        go_wp2_with fail
        refine (check_any _ _ _ _ _ _ _ _ _ _ _ _ _ _ _ _ _ _ _ _ _ _ _ _ _ (by omega) (by omega) hof (by omega) (by omega) (by omega) (by omega) (by omega) HS3.out.tab).mono ?_; rintro e w4 ⟨rfl, hb⟩
        rw [HU.out]
        have HW4 := Lib.hid (HS3.out.next hb); clear hb HS3 fz fy y0 y1 y2 y3 y4 y5 y6 y7 y8 y9 y10 y11 y12 y13 y14 y15 y16 y17 y18 y19 y20 y21
        go_wp2_with (go_at_call 14; refine (heads_any _ HW4.out.tab).mono ?_; rintro e w5 ⟨rfl, hb5⟩)
        go_ret
        exact ⟨rfl, (HW4.out.next hb5).bel⟩
      rcases Bool.eq_false_or_eq_true (hasB f 2) with h2 | h2
      · skip
        have fF : fastF f = true := by simp [fastF, h16, h2]
        rw [fF, if_neg (by decide), if_pos rfl] at hgot
        rw [if_pos (by decide)] at honly
        rw [if_pos (by decide)] at hout
        subst hgot
        have HO := Lib.hid honly; have HU := Lib.hid hout; clear honly hout fF
        have g16 : (bits .and .u16 (f : Int) 16 != 0) = true := h16
        have g2 : (bits .and .u16 (f : Int) 2 != 0) = true := h2
        clear h16 h2
        as_aux_lemma =>
        have y0 : w2.cell? ⟨w.heap.size, 0, none⟩ = some (.string ⟨#[97]⟩) := cell_of_block HW2.out.e 0
        have y1 : w2.cell? ⟨w.heap.size, 1, none⟩ = some (.string ⟨#[]⟩) := cell_of_block HW2.out.e 1
        have y2 : w2.cell? ⟨w.heap.size, 2, none⟩ = some (.int .i64 k) := cell_of_block HW2.out.e 2
        have y3 : w2.cell? ⟨w.heap.size, 3, none⟩ = some (.bool false) := cell_of_block HW2.out.e 3
        have y4 : w2.cell? ⟨w.heap.size, 4, none⟩ = some (.bool false) := cell_of_block HW2.out.e 4
        have y5 : w2.cell? ⟨w.heap.size, 5, none⟩ = some (.bool false) := cell_of_block HW2.out.e 5
        have y6 : w2.cell? ⟨w.heap.size, 6, none⟩ = some (.bool false) := cell_of_block HW2.out.e 6
        have y7 : w2.cell? ⟨w.heap.size, 7, none⟩ = some (.int .u32 1) := cell_of_block HW2.out.e 7
        have y8 : w2.cell? ⟨w.heap.size, 8, none⟩ = some (.int .u32 512) := cell_of_block HW2.out.e 8
        have y9 : w2.cell? ⟨w.heap.size + 1 + 1, 0, none⟩ = some (.int .i64 0) := cell_of_block HW2.out.s 0
        have y10 : w2.cell? ⟨w.heap.size + 1 + 1, 1, none⟩ = some (.bool true) := cell_of_block HW2.out.s 1
        have y11 : w2.cell? ⟨w.heap.size + 1 + 1, 2, none⟩ = some (.bool false) := cell_of_block HW2.out.s 2
        have y12 : w2.cell? ⟨w.heap.size + 1 + 1, 3, none⟩ = some (.slice (some ⟨w.heap.size + 1, 0, none⟩) 1 1) := cell_of_block HW2.out.s 3
        have y13 : w2.cell? ⟨w.heap.size + 1 + 1 + 1, 0, none⟩ = some (.int .u32 1048576) := cell_of_block HW2.out.l 0
        have y14 : w2.cell? ⟨w.heap.size + 1 + 1 + 1, 1, none⟩ = some (.int .u32 64) := cell_of_block HW2.out.l 1
        have y15 : w2.cell? ⟨w.heap.size + 1 + 1 + 1, 2, none⟩ = some (.int .i64 1) := cell_of_block HW2.out.l 2
        have y16 : w2.cell? ⟨w.heap.size + 1 + 1 + 1 + 1, 0, none⟩ = some (.int .u16 f) := cell_of_block HW2.out.q 0
        have y17 : w2.cell? ⟨w.heap.size + 1 + 1 + 1 + 1, 1, none⟩ = some (.int .u16 6) := cell_of_block HW2.out.q 1
        have y18 : w2.cell? ⟨w.heap.size + 1 + 1 + 1 + 1, 2, none⟩ = some (.int .u64 0) := cell_of_block HW2.out.q 2
        have y19 : w2.cell? ⟨w.heap.size + 1 + 1 + 1 + 1, 3, none⟩ = some (.int .u64 off) := cell_of_block HW2.out.q 3
        have y20 : w2.cell? ⟨w.heap.size + 1 + 1 + 1 + 1, 4, none⟩ = some (.int .u64 len) := cell_of_block HW2.out.q 4
        have y21 : w2.cell? ⟨w.heap.size + 1 + 1 + 1 + 1, 5, none⟩ = some (.slice none 0 0) := cell_of_block HW2.out.q 5
        have fz : ∀ j, w2.frozen? ⟨w.heap.size, j, none⟩ = false := fun j => frozen_of_block HW2.out.e j
        have HS2 := Lib.hid (HW2.out.setRo (ro' := true) hz); clear HW2
        go_wp2_with fail
        refine (check_any _ _ _ _ _ _ _ _ _ _ _ _ _ _ _ _ _ _ _ _ _ _ _ _ _ (by omega) (by omega) hof hle (by omega) (by omega) (by omega) (by omega) HS2.out.tab).mono ?_; rintro e w3 ⟨rfl, hb⟩
        rw [HO.out]
        have HW3 := Lib.hid (HS2.out.next hb); clear hb HS2 fz y0 y1 y2 y3 y4 y5 y6 y7 y8 y9 y10 y11 y12 y13 y14 y15 y16 y17 y18 y19 y20 y21
        have y0 : w3.cell? ⟨w.heap.size, 0, none⟩ = some (.string ⟨#[97]⟩) := cell_of_block HW3.out.e 0
        have y1 : w3.cell? ⟨w.heap.size, 1, none⟩ = some (.string ⟨#[]⟩) := cell_of_block HW3.out.e 1
        have y2 : w3.cell? ⟨w.heap.size, 2, none⟩ = some (.int .i64 k) := cell_of_block HW3.out.e 2
        have y3 : w3.cell? ⟨w.heap.size, 3, none⟩ = some (.bool true) := cell_of_block HW3.out.e 3
        have y4 : w3.cell? ⟨w.heap.size, 4, none⟩ = some (.bool false) := cell_of_block HW3.out.e 4
        have y5 : w3.cell? ⟨w.heap.size, 5, none⟩ = some (.bool false) := cell_of_block HW3.out.e 5
        have y6 : w3.cell? ⟨w.heap.size, 6, none⟩ = some (.bool false) := cell_of_block HW3.out.e 6
        have y7 : w3.cell? ⟨w.heap.size, 7, none⟩ = some (.int .u32 1) := cell_of_block HW3.out.e 7
        have y8 : w3.cell? ⟨w.heap.size, 8, none⟩ = some (.int .u32 512) := cell_of_block HW3.out.e 8
        have y9 : w3.cell? ⟨w.heap.size + 1 + 1, 0, none⟩ = some (.int .i64 0) := cell_of_block HW3.out.s 0
        have y10 : w3.cell? ⟨w.heap.size + 1 + 1, 1, none⟩ = some (.bool true) := cell_of_block HW3.out.s 1
        have y11 : w3.cell? ⟨w.heap.size + 1 + 1, 2, none⟩ = some (.bool false) := cell_of_block HW3.out.s 2
        have y12 : w3.cell? ⟨w.heap.size + 1 + 1, 3, none⟩ = some (.slice (some ⟨w.heap.size + 1, 0, none⟩) 1 1) := cell_of_block HW3.out.s 3
        have y13 : w3.cell? ⟨w.heap.size + 1 + 1 + 1, 0, none⟩ = some (.int .u32 1048576) := cell_of_block HW3.out.l 0
        have y14 : w3.cell? ⟨w.heap.size + 1 + 1 + 1, 1, none⟩ = some (.int .u32 64) := cell_of_block HW3.out.l 1
        have y15 : w3.cell? ⟨w.heap.size + 1 + 1 + 1, 2, none⟩ = some (.int .i64 1) := cell_of_block HW3.out.l 2
        have y16 : w3.cell? ⟨w.heap.size + 1 + 1 + 1 + 1, 0, none⟩ = some (.int .u16 f) := cell_of_block HW3.out.q 0
        have y17 : w3.cell? ⟨w.heap.size + 1 + 1 + 1 + 1, 1, none⟩ = some (.int .u16 6) := cell_of_block HW3.out.q 1
        have y18 : w3.cell? ⟨w.heap.size + 1 + 1 + 1 + 1, 2, none⟩ = some (.int .u64 0) := cell_of_block HW3.out.q 2
        have y19 : w3.cell? ⟨w.heap.size + 1 + 1 + 1 + 1, 3, none⟩ = some (.int .u64 off) := cell_of_block HW3.out.q 3
        have y20 : w3.cell? ⟨w.heap.size + 1 + 1 + 1 + 1, 4, none⟩ = some (.int .u64 len) := cell_of_block HW3.out.q 4
        have y21 : w3.cell? ⟨w.heap.size + 1 + 1 + 1 + 1, 5, none⟩ = some (.slice none 0 0) := cell_of_block HW3.out.q 5
        have fz : ∀ j, w3.frozen? ⟨w.heap.size, j, none⟩ = false := fun j => frozen_of_block HW3.out.e j
        have fy : ∀ j, w3.frozen? ⟨w.heap.size + 1 + 1 + 1 + 1, j, none⟩ = false := fun j => frozen_of_block HW3.out.q j
        have HS3 := Lib.hid ((HW3.out.setRo (ro' := false) hz).setLen (len' := 513 + ov % 1000) hz); clear HW3
        go_wp2_with fail
        refine (check_any _ _ _ _ _ _ _ _ _ _ _ _ _ _ _ _ _ _ _ _ _ _ _ _ _ (by omega) (by omega) hof (by omega) (by omega) (by omega) (by omega) (by omega) HS3.out.tab).mono ?_; rintro e w4 ⟨rfl, hb⟩
        rw [HU.out]
        have HW4 := Lib.hid (HS3.out.next hb); clear hb HS3 fz fy y0 y1 y2 y3 y4 y5 y6 y7 y8 y9 y10 y11 y12 y13 y14 y15 y16 y17 y18 y19 y20 y21
        go_wp2_with (go_at_call 14; refine (heads_any _ HW4.out.tab).mono ?_; rintro e w5 ⟨rfl, hb5⟩)
        go_ret
        exact ⟨rfl, (HW4.out.next hb5).bel⟩
      · skip
        have fF : fastF f = false := by simp [fastF, h16, h2]
        rw [fF, if_neg (by decide), if_neg (by decide)] at hgot
        rw [if_pos (by decide)] at honly
        rw [if_pos (by decide)] at hout
        subst hgot
        have HO := Lib.hid honly; have HU := Lib.hid hout; clear honly hout fF
        have g16 : (bits .and .u16 (f : Int) 16 != 0) = true := h16
        have g2 : (bits .and .u16 (f : Int) 2 != 0) = false := h2
        clear h16 h2
        as_aux_lemma =>
        have y0 : w2.cell? ⟨w.heap.size, 0, none⟩ = some (.string ⟨#[97]⟩) := cell_of_block HW2.out.e 0
        have y1 : w2.cell? ⟨w.heap.size, 1, none⟩ = some (.string ⟨#[]⟩) := cell_of_block HW2.out.e 1
        have y2 : w2.cell? ⟨w.heap.size, 2, none⟩ = some (.int .i64 k) := cell_of_block HW2.out.e 2
        have y3 : w2.cell? ⟨w.heap.size, 3, none⟩ = some (.bool false) := cell_of_block HW2.out.e 3
        have y4 : w2.cell? ⟨w.heap.size, 4, none⟩ = some (.bool false) := cell_of_block HW2.out.e 4
        have y5 : w2.cell? ⟨w.heap.size, 5, none⟩ = some (.bool false) := cell_of_block HW2.out.e 5
        have y6 : w2.cell? ⟨w.heap.size, 6, none⟩ = some (.bool false) := cell_of_block HW2.out.e 6
        have y7 : w2.cell? ⟨w.heap.size, 7, none⟩ = some (.int .u32 1) := cell_of_block HW2.out.e 7
        have y8 : w2.cell? ⟨w.heap.size, 8, none⟩ = some (.int .u32 512) := cell_of_block HW2.out.e 8
        have y9 : w2.cell? ⟨w.heap.size + 1 + 1, 0, none⟩ = some (.int .i64 0) := cell_of_block HW2.out.s 0
        have y10 : w2.cell? ⟨w.heap.size + 1 + 1, 1, none⟩ = some (.bool true) := cell_of_block HW2.out.s 1
        have y11 : w2.cell? ⟨w.heap.size + 1 + 1, 2, none⟩ = some (.bool false) := cell_of_block HW2.out.s 2
        have y12 : w2.cell? ⟨w.heap.size + 1 + 1, 3, none⟩ = some (.slice (some ⟨w.heap.size + 1, 0, none⟩) 1 1) := cell_of_block HW2.out.s 3
        have y13 : w2.cell? ⟨w.heap.size + 1 + 1 + 1, 0, none⟩ = some (.int .u32 1048576) := cell_of_block HW2.out.l 0
        have y14 : w2.cell? ⟨w.heap.size + 1 + 1 + 1, 1, none⟩ = some (.int .u32 64) := cell_of_block HW2.out.l 1
        have y15 : w2.cell? ⟨w.heap.size + 1 + 1 + 1, 2, none⟩ = some (.int .i64 1) := cell_of_block HW2.out.l 2
        have y16 : w2.cell? ⟨w.heap.size + 1 + 1 + 1 + 1, 0, none⟩ = some (.int .u16 f) := cell_of_block HW2.out.q 0
        have y17 : w2.cell? ⟨w.heap.size + 1 + 1 + 1 + 1, 1, none⟩ = some (.int .u16 6) := cell_of_block HW2.out.q 1
        have y18 : w2.cell? ⟨w.heap.size + 1 + 1 + 1 + 1, 2, none⟩ = some (.int .u64 0) := cell_of_block HW2.out.q 2
        have y19 : w2.cell? ⟨w.heap.size + 1 + 1 + 1 + 1, 3, none⟩ = some (.int .u64 off) := cell_of_block HW2.out.q 3
        have y20 : w2.cell? ⟨w.heap.size + 1 + 1 + 1 + 1, 4, none⟩ = some (.int .u64 len) := cell_of_block HW2.out.q 4
        have y21 : w2.cell? ⟨w.heap.size + 1 + 1 + 1 + 1, 5, none⟩ = some (.slice none 0 0) := cell_of_block HW2.out.q 5
        have fz : ∀ j, w2.frozen? ⟨w.heap.size, j, none⟩ = false := fun j => frozen_of_block HW2.out.e j
        have HS2 := Lib.hid (HW2.out.setRo (ro' := true) hz); clear HW2
        go_wp2_with fail
        refine (check_any _ _ _ _ _ _ _ _ _ _ _ _ _ _ _ _ _ _ _ _ _ _ _ _ _ (by omega) (by omega) hof hle (by omega) (by omega) (by omega) (by omega) HS2.out.tab).mono ?_; rintro e w3 ⟨rfl, hb⟩
        rw [HO.out]
        have HW3 := Lib.hid (HS2.out.next hb); clear hb HS2 fz y0 y1 y2 y3 y4 y5 y6 y7 y8 y9 y10 y11 y12 y13 y14 y15 y16 y17 y18 y19 y20 y21
        have y0 : w3.cell? ⟨w.heap.size, 0, none⟩ = some (.string ⟨#[97]⟩) := cell_of_block HW3.out.e 0
        have y1 : w3.cell? ⟨w.heap.size, 1, none⟩ = some (.string ⟨#[]⟩) := cell_of_block HW3.out.e 1
        have y2 : w3.cell? ⟨w.heap.size, 2, none⟩ = some (.int .i64 k) := cell_of_block HW3.out.e 2
        have y3 : w3.cell? ⟨w.heap.size, 3, none⟩ = some (.bool true) := cell_of_block HW3.out.e 3
        have y4 : w3.cell? ⟨w.heap.size, 4, none⟩ = some (.bool false) := cell_of_block HW3.out.e 4
        have y5 : w3.cell? ⟨w.heap.size, 5, none⟩ = some (.bool false) := cell_of_block HW3.out.e 5
        have y6 : w3.cell? ⟨w.heap.size, 6, none⟩ = some (.bool false) := cell_of_block HW3.out.e 6
        have y7 : w3.cell? ⟨w.heap.size, 7, none⟩ = some (.int .u32 1) := cell_of_block HW3.out.e 7
        have y8 : w3.cell? ⟨w.heap.size, 8, none⟩ = some (.int .u32 512) := cell_of_block HW3.out.e 8
        have y9 : w3.cell? ⟨w.heap.size + 1 + 1, 0, none⟩ = some (.int .i64 0) := cell_of_block HW3.out.s 0
        have y10 : w3.cell? ⟨w.heap.size + 1 + 1, 1, none⟩ = some (.bool true) := cell_of_block HW3.out.s 1
        have y11 : w3.cell? ⟨w.heap.size + 1 + 1, 2, none⟩ = some (.bool false) := cell_of_block HW3.out.s 2
        have y12 : w3.cell? ⟨w.heap.size + 1 + 1, 3, none⟩ = some (.slice (some ⟨w.heap.size + 1, 0, none⟩) 1 1) := cell_of_block HW3.out.s 3
        have y13 : w3.cell? ⟨w.heap.size + 1 + 1 + 1, 0, none⟩ = some (.int .u32 1048576) := cell_of_block HW3.out.l 0
        have y14 : w3.cell? ⟨w.heap.size + 1 + 1 + 1, 1, none⟩ = some (.int .u32 64) := cell_of_block HW3.out.l 1
        have y15 : w3.cell? ⟨w.heap.size + 1 + 1 + 1, 2, none⟩ = some (.int .i64 1) := cell_of_block HW3.out.l 2
        have y16 : w3.cell? ⟨w.heap.size + 1 + 1 + 1 + 1, 0, none⟩ = some (.int .u16 f) := cell_of_block HW3.out.q 0
        have y17 : w3.cell? ⟨w.heap.size + 1 + 1 + 1 + 1, 1, none⟩ = some (.int .u16 6) := cell_of_block HW3.out.q 1
        have y18 : w3.cell? ⟨w.heap.size + 1 + 1 + 1 + 1, 2, none⟩ = some (.int .u64 0) := cell_of_block HW3.out.q 2
        have y19 : w3.cell? ⟨w.heap.size + 1 + 1 + 1 + 1, 3, none⟩ = some (.int .u64 off) := cell_of_block HW3.out.q 3
        have y20 : w3.cell? ⟨w.heap.size + 1 + 1 + 1 + 1, 4, none⟩ = some (.int .u64 len) := cell_of_block HW3.out.q 4
        have y21 : w3.cell? ⟨w.heap.size + 1 + 1 + 1 + 1, 5, none⟩ = some (.slice none 0 0) := cell_of_block HW3.out.q 5
        have fz : ∀ j, w3.frozen? ⟨w.heap.size, j, none⟩ = false := fun j => frozen_of_block HW3.out.e j
        have fy : ∀ j, w3.frozen? ⟨w.heap.size + 1 + 1 + 1 + 1, j, none⟩ = false := fun j => frozen_of_block HW3.out.q j
        have HS3 := Lib.hid ((HW3.out.setRo (ro' := false) hz).setLen (len' := 513 + ov % 1000) hz); clear HW3
        go_wp2_with fail
        refine (check_any _ _ _ _ _ _ _ _ _ _ _ _ _ _ _ _ _ _ _ _ _ _ _ _ _ (by omega) (by omega) hof (by omega) (by omega) (by omega) (by omega) (by omega) HS3.out.tab).mono ?_; rintro e w4 ⟨rfl, hb⟩
        rw [HU.out]
        have HW4 := Lib.hid (HS3.out.next hb); clear hb HS3 fz fy y0 y1 y2 y3 y4 y5 y6 y7 y8 y9 y10 y11 y12 y13 y14 y15 y16 y17 y18 y19 y20 y21
        go_wp2_with (go_at_call 14; refine (heads_any _ HW4.out.tab).mono ?_; rintro e w5 ⟨rfl, hb5⟩)
        go_ret
        exact ⟨rfl, (HW4.out.next hb5).bel⟩
    · have h16 : hasB f 16 = false := hsix.resolve_right (by omega)
      clear hsix
      have fF : fastF f = false := by simp [fastF, h16]
      rw [fF, if_neg (by decide), if_neg (by decide)] at hgot
      rw [fF, if_neg (by decide), if_neg (by decide)] at honly
      rw [if_neg (by decide), if_neg (by decide)] at hout
      subst hgot
      have HO := Lib.hid honly; have HU := Lib.hid hout; clear honly hout fF
      have g16 : (bits .and .u16 (f : Int) 16 != 0) = false := h16
      clear h16
      as_aux_lemma =>
      have y0 : w2.cell? ⟨w.heap.size, 0, none⟩ = some (.string ⟨#[97]⟩) := cell_of_block HW2.out.e 0
      have y1 : w2.cell? ⟨w.heap.size, 1, none⟩ = some (.string ⟨#[]⟩) := cell_of_block HW2.out.e 1
      have y2 : w2.cell? ⟨w.heap.size, 2, none⟩ = some (.int .i64 k) := cell_of_block HW2.out.e 2
      have y3 : w2.cell? ⟨w.heap.size, 3, none⟩ = some (.bool false) := cell_of_block HW2.out.e 3
      have y4 : w2.cell? ⟨w.heap.size, 4, none⟩ = some (.bool false) := cell_of_block HW2.out.e 4
      have y5 : w2.cell? ⟨w.heap.size, 5, none⟩ = some (.bool false) := cell_of_block HW2.out.e 5
      have y6 : w2.cell? ⟨w.heap.size, 6, none⟩ = some (.bool false) := cell_of_block HW2.out.e 6
      have y7 : w2.cell? ⟨w.heap.size, 7, none⟩ = some (.int .u32 1) := cell_of_block HW2.out.e 7
      have y8 : w2.cell? ⟨w.heap.size, 8, none⟩ = some (.int .u32 512) := cell_of_block HW2.out.e 8
      have y9 : w2.cell? ⟨w.heap.size + 1 + 1, 0, none⟩ = some (.int .i64 0) := cell_of_block HW2.out.s 0
      have y10 : w2.cell? ⟨w.heap.size + 1 + 1, 1, none⟩ = some (.bool true) := cell_of_block HW2.out.s 1
      have y11 : w2.cell? ⟨w.heap.size + 1 + 1, 2, none⟩ = some (.bool false) := cell_of_block HW2.out.s 2
      have y12 : w2.cell? ⟨w.heap.size + 1 + 1, 3, none⟩ = some (.slice (some ⟨w.heap.size + 1, 0, none⟩) 1 1) := cell_of_block HW2.out.s 3
      have y13 : w2.cell? ⟨w.heap.size + 1 + 1 + 1, 0, none⟩ = some (.int .u32 1048576) := cell_of_block HW2.out.l 0
      have y14 : w2.cell? ⟨w.heap.size + 1 + 1 + 1, 1, none⟩ = some (.int .u32 64) := cell_of_block HW2.out.l 1
      have y15 : w2.cell? ⟨w.heap.size + 1 + 1 + 1, 2, none⟩ = some (.int .i64 1) := cell_of_block HW2.out.l 2
      have y16 : w2.cell? ⟨w.heap.size + 1 + 1 + 1 + 1, 0, none⟩ = some (.int .u16 f) := cell_of_block HW2.out.q 0
      have y17 : w2.cell? ⟨w.heap.size + 1 + 1 + 1 + 1, 1, none⟩ = some (.int .u16 7) := cell_of_block HW2.out.q 1
      have y18 : w2.cell? ⟨w.heap.size + 1 + 1 + 1 + 1, 2, none⟩ = some (.int .u64 0) := cell_of_block HW2.out.q 2
      have y19 : w2.cell? ⟨w.heap.size + 1 + 1 + 1 + 1, 3, none⟩ = some (.int .u64 off) := cell_of_block HW2.out.q 3
      have y20 : w2.cell? ⟨w.heap.size + 1 + 1 + 1 + 1, 4, none⟩ = some (.int .u64 len) := cell_of_block HW2.out.q 4
      have y21 : w2.cell? ⟨w.heap.size + 1 + 1 + 1 + 1, 5, none⟩ = some (.slice none 0 0) := cell_of_block HW2.out.q 5
      have fz : ∀ j, w2.frozen? ⟨w.heap.size, j, none⟩ = false := fun j => frozen_of_block HW2.out.e j
      have HS2 := Lib.hid (HW2.out.setRo (ro' := true) hz); clear HW2
      go_wp2_with fail
      refine (check_any _ _ _ _ _ _ _ _ _ _ _ _ _ _ _ _ _ _ _ _ _ _ _ _ _ (by omega) (by omega) hof hle (by omega) (by omega) (by omega) (by omega) HS2.out.tab).mono ?_; rintro e w3 ⟨rfl, hb⟩
      rw [HO.out]
      have HW3 := Lib.hid (HS2.out.next hb); clear hb HS2 fz y0 y1 y2 y3 y4 y5 y6 y7 y8 y9 y10 y11 y12 y13 y14 y15 y16 y17 y18 y19 y20 y21
      have y0 : w3.cell? ⟨w.heap.size, 0, none⟩ = some (.string ⟨#[97]⟩) := cell_of_block HW3.out.e 0
      have y1 : w3.cell? ⟨w.heap.size, 1, none⟩ = some (.string ⟨#[]⟩) := cell_of_block HW3.out.e 1
      have y2 : w3.cell? ⟨w.heap.size, 2, none⟩ = some (.int .i64 k) := cell_of_block HW3.out.e 2
      have y3 : w3.cell? ⟨w.heap.size, 3, none⟩ = some (.bool true) := cell_of_block HW3.out.e 3
      have y4 : w3.cell? ⟨w.heap.size, 4, none⟩ = some (.bool false) := cell_of_block HW3.out.e 4
      have y5 : w3.cell? ⟨w.heap.size, 5, none⟩ = some (.bool false) := cell_of_block HW3.out.e 5
      have y6 : w3.cell? ⟨w.heap.size, 6, none⟩ = some (.bool false) := cell_of_block HW3.out.e 6
      have y7 : w3.cell? ⟨w.heap.size, 7, none⟩ = some (.int .u32 1) := cell_of_block HW3.out.e 7
      have y8 : w3.cell? ⟨w.heap.size, 8, none⟩ = some (.int .u32 512) := cell_of_block HW3.out.e 8
      have y9 : w3.cell? ⟨w.heap.size + 1 + 1, 0, none⟩ = some (.int .i64 0) := cell_of_block HW3.out.s 0
      have y10 : w3.cell? ⟨w.heap.size + 1 + 1, 1, none⟩ = some (.bool true) := cell_of_block HW3.out.s 1
      have y11 : w3.cell? ⟨w.heap.size + 1 + 1, 2, none⟩ = some (.bool false) := cell_of_block HW3.out.s 2
      have y12 : w3.cell? ⟨w.heap.size + 1 + 1, 3, none⟩ = some (.slice (some ⟨w.heap.size + 1, 0, none⟩) 1 1) := cell_of_block HW3.out.s 3
      have y13 : w3.cell? ⟨w.heap.size + 1 + 1 + 1, 0, none⟩ = some (.int .u32 1048576) := cell_of_block HW3.out.l 0
      have y14 : w3.cell? ⟨w.heap.size + 1 + 1 + 1, 1, none⟩ = some (.int .u32 64) := cell_of_block HW3.out.l 1
      have y15 : w3.cell? ⟨w.heap.size + 1 + 1 + 1, 2, none⟩ = some (.int .i64 1) := cell_of_block HW3.out.l 2
      have y16 : w3.cell? ⟨w.heap.size + 1 + 1 + 1 + 1, 0, none⟩ = some (.int .u16 f) := cell_of_block HW3.out.q 0
      have y17 : w3.cell? ⟨w.heap.size + 1 + 1 + 1 + 1, 1, none⟩ = some (.int .u16 7) := cell_of_block HW3.out.q 1
      have y18 : w3.cell? ⟨w.heap.size + 1 + 1 + 1 + 1, 2, none⟩ = some (.int .u64 0) := cell_of_block HW3.out.q 2
      have y19 : w3.cell? ⟨w.heap.size + 1 + 1 + 1 + 1, 3, none⟩ = some (.int .u64 off) := cell_of_block HW3.out.q 3
      have y20 : w3.cell? ⟨w.heap.size + 1 + 1 + 1 + 1, 4, none⟩ = some (.int .u64 len) := cell_of_block HW3.out.q 4
      have y21 : w3.cell? ⟨w.heap.size + 1 + 1 + 1 + 1, 5, none⟩ = some (.slice none 0 0) := cell_of_block HW3.out.q 5
      have fz : ∀ j, w3.frozen? ⟨w.heap.size, j, none⟩ = false := fun j => frozen_of_block HW3.out.e j
      have fy : ∀ j, w3.frozen? ⟨w.heap.size + 1 + 1 + 1 + 1, j, none⟩ = false := fun j => frozen_of_block HW3.out.q j
      have HS3 := Lib.hid ((HW3.out.setRo (ro' := false) hz).setLen (len' := 513 + ov % 1000) hz); clear HW3
      go_wp2_with fail
      refine (check_any _ _ _ _ _ _ _ _ _ _ _ _ _ _ _ _ _ _ _ _ _ _ _ _ _ (by omega) (by omega) hof (by omega) (by omega) (by omega) (by omega) (by omega) HS3.out.tab).mono ?_; rintro e w4 ⟨rfl, hb⟩
      rw [HU.out]
      have HW4 := Lib.hid (HS3.out.next hb); clear hb HS3 fz fy y0 y1 y2 y3 y4 y5 y6 y7 y8 y9 y10 y11 y12 y13 y14 y15 y16 y17 y18 y19 y20 y21
      go_wp2_with (go_at_call 14; refine (heads_any _ HW4.out.tab).mono ?_; rintro e w5 ⟨rfl, hb5⟩)
      go_ret
      exact ⟨rfl, (HW4.out.next hb5).bel⟩
  · have hbt : (bits .andNot .u16 fg (fl ty) != 0) = true := by simpa using hbad
    have h22 : (g == 22) = true := by
      have : hasB fg (bits .xor .u16 IntKind.u16.max (bits .or .u16 (fl ty) 0)) = true := by
        cases e : hasB fg (bits .xor .u16 IntKind.u16.max (bits .or .u16 (fl ty) 0)) with
        | true => rfl
        | false => exact absurd (flags_in hty0 (by omega) hfg e) hbad
      rw [← HG.out, bad_22 (.inr this)]; rfl
    clear hbad
    as_aux_lemma =>
    go_wp2_with (go_at_call 14; refine (heads_any _ HW2.out.tab).mono ?_; rintro e w5 ⟨rfl, hb5⟩)
    go_ret
    exact ⟨rfl, (HW2.out.next hb5).bel⟩
end Go.Proofs.YtnnedmkidbokoaaDoor
