/- The walk of RuleBounds. -/
import Derived.Test.YtnnedmkidbokoaaDoorReadOnly
namespace Go.Proofs.YtnnedmkidbokoaaDoor
open Go.RowKit
theorem cases8 {ty : Int} (h0 : 0 ≤ ty) (h8 : ty < 8) : ty = 0 ∨ ty = 1 ∨ ty = 2 ∨ ty = 3 ∨ ty = 4 ∨ ty = 5 ∨ ty = 6 ∨ ty = 7 := by omega
theorem maxu : IntKind.u16.max = 65535 := rfl
/-- Flags among those that a command may have. -/
theorem flags_in {fg ty : Int} (h0 : 0 ≤ ty) (h8 : ty < 8) (hf : 0 ≤ fg ∧ fg ≤ 65535) (h : hasB fg (bits .xor .u16 IntKind.u16.max (bits .or .u16 (fl ty) 0)) = false) : bits .andNot .u16 fg (fl ty) = 0 := by
  obtain ⟨f, rfl⟩ := Int.eq_ofNat_of_zero_le hf.1
  have e : ∀ k : Nat, k < 65536 → bits .and .u16 (f : Int) k = ((f &&& k : Nat) : Int) := fun k hk => u16_and_nat f k (by omega) hk
  have e' : ∀ k : Nat, k < 65536 → bits .andNot .u16 (f : Int) k = ((f &&& (65535 - k) : Nat) : Int) := fun k hk => u16_andNot_nat f k (by omega) hk
  simp only [hasB, bne_eq_false_iff_eq] at h
  rcases cases8 h0 h8 with rfl | rfl | rfl | rfl | rfl | rfl | rfl | rfl
  · have hx : bits .xor .u16 IntKind.u16.max (bits .or .u16 5 0) = ((65535 - 5 : Nat) : Int) := by decide +kernel
    rw [show fl _ = 5 from rfl, hx, e _ (by omega)] at h
    rw [show fl _ = ((5 : Nat) : Int) from rfl, e' _ (by omega)]
    exact h
  · have hx : bits .xor .u16 IntKind.u16.max (bits .or .u16 1 0) = ((65535 - 1 : Nat) : Int) := by decide +kernel
    rw [show fl _ = 1 from rfl, hx, e _ (by omega)] at h
    rw [show fl _ = ((1 : Nat) : Int) from rfl, e' _ (by omega)]
    exact h
  · have hx : bits .xor .u16 IntKind.u16.max (bits .or .u16 1 0) = ((65535 - 1 : Nat) : Int) := by decide +kernel
    rw [show fl _ = 1 from rfl, hx, e _ (by omega)] at h
    rw [show fl _ = ((1 : Nat) : Int) from rfl, e' _ (by omega)]
    exact h
  · have hx : bits .xor .u16 IntKind.u16.max (bits .or .u16 1 0) = ((65535 - 1 : Nat) : Int) := by decide +kernel
    rw [show fl _ = 1 from rfl, hx, e _ (by omega)] at h
    rw [show fl _ = ((1 : Nat) : Int) from rfl, e' _ (by omega)]
    exact h
  · have hx : bits .xor .u16 IntKind.u16.max (bits .or .u16 1 0) = ((65535 - 1 : Nat) : Int) := by decide +kernel
    rw [show fl _ = 1 from rfl, hx, e _ (by omega)] at h
    rw [show fl _ = ((1 : Nat) : Int) from rfl, e' _ (by omega)]
    exact h
  · have hx : bits .xor .u16 IntKind.u16.max (bits .or .u16 1 0) = ((65535 - 1 : Nat) : Int) := by decide +kernel
    rw [show fl _ = 1 from rfl, hx, e _ (by omega)] at h
    rw [show fl _ = ((1 : Nat) : Int) from rfl, e' _ (by omega)]
    exact h
  · have hx : bits .xor .u16 IntKind.u16.max (bits .or .u16 19 0) = ((65535 - 19 : Nat) : Int) := by decide +kernel
    rw [show fl _ = 19 from rfl, hx, e _ (by omega)] at h
    rw [show fl _ = ((19 : Nat) : Int) from rfl, e' _ (by omega)]
    exact h
  · have hx : bits .xor .u16 IntKind.u16.max (bits .or .u16 9 0) = ((65535 - 9 : Nat) : Int) := by decide +kernel
    rw [show fl _ = 9 from rfl, hx, e _ (by omega)] at h
    rw [show fl _ = ((9 : Nat) : Int) from rfl, e' _ (by omega)]
    exact h
theorem flags_in_w {fg : Int} (hf : 0 ≤ fg ∧ fg ≤ 65535) (h : hasB fg (bits .xor .u16 IntKind.u16.max (bits .or .u16 (fl 1) 32)) = false) : bits .andNot .u16 (bits .andNot .u16 fg 32) (fl 1) = 0 := by
  obtain ⟨f, rfl⟩ := Int.eq_ofNat_of_zero_le hf.1
  simp only [hasB, bne_eq_false_iff_eq] at h
  have hx : bits .xor .u16 IntKind.u16.max (bits .or .u16 1 32) = ((65502 : Nat) : Int) := by decide +kernel
  rw [show fl 1 = 1 from rfl, hx, u16_and_nat f 65502 (by omega) (by omega)] at h
  have e1 : bits .andNot .u16 (f : Int) 32 = ((f &&& 65503 : Nat) : Int) := u16_andNot_nat f 32 (by omega) (by omega)
  have hlt : f &&& 65503 < 65536 := Nat.lt_of_le_of_lt (Nat.and_le_right) (by omega)
  have e2 : bits .andNot .u16 ((f &&& 65503 : Nat) : Int) 1 = (((f &&& 65503) &&& 65534 : Nat) : Int) := u16_andNot_nat _ 1 hlt (by omega)
  rw [show fl 1 = 1 from rfl, e1, e2, Nat.and_assoc]
  exact h
/-- What is taken. -/
theorem chk_zero {sec : Int} {ro st ex : Bool} {min pay fg ty off len : Int} {n : Nat} (h0 : 0 ≤ ty) (h : chk sec ro st ex min pay fg ty off len n = 0) :
    ty < 8 ∧ hasB fg (bits .xor .u16 IntKind.u16.max (bits .or .u16 (fl ty) (mustI (ex && ty == 1)))) = false ∧ bits .and .u16 fg (mustI (ex && ty == 1)) = mustI (ex && ty == 1) ∧ permB ty ro = false ∧
      (ty ≠ 2 → ty ≠ 3 → (len == 0) = false ∧ outB off len (sizeI sec) = false) := by
  unfold chk chk0 at h
  by_cases hb : bad1 (chunksB st ex) (mustI (ex && ty == 1)) fg ty = true
  · rw [if_pos hb] at h; cases h
  · rw [if_neg hb] at h
    have hb2 : bad1 (chunksB st ex) (mustI (ex && ty == 1)) fg ty = false := by simpa using hb
    simp only [bad1, Bool.or_eq_false_iff, Bool.not_eq_false', decide_eq_true_eq, bne_eq_false_iff_eq] at hb2
    obtain ⟨⟨⟨a, b⟩, c⟩, _⟩ := hb2
    refine ⟨a, b, c, ?_, ?_⟩
    · by_cases h2 : (ty == 2) = true
      · obtain rfl := eq_of_beq h2; simp [permB, ch]
      · rw [if_neg h2] at h
        by_cases h3 : (ty == 3) = true
        · obtain rfl := eq_of_beq h3; simp [permB, ch]
        · rw [if_neg h3] at h
          by_cases hp : permB ty ro = true
          · rw [if_pos hp] at h; cases h
          · simpa using hp
    · intro n2 n3
      rw [if_neg (by simpa using n2), if_neg (by simpa using n3)] at h
      by_cases hp : permB ty ro = true
      · rw [if_pos hp] at h; cases h
      rw [if_neg hp] at h
      by_cases h1 : statB (chunksB st ex) ty n = true
      · rw [if_pos h1] at h; cases h
      rw [if_neg h1] at h
      by_cases h2 : (len == 0) = true
      · rw [if_pos h2] at h; cases h
      rw [if_neg h2] at h
      refine ⟨by simpa using h2, ?_⟩
      by_cases h3 : payB ty pay len = true
      · rw [if_pos h3] at h; cases h
      rw [if_neg h3] at h
      by_cases h4 : dfB fg len = true
      · rw [if_pos h4] at h; cases h
      rw [if_neg h4] at h
      by_cases h5 : outB off len (sizeI sec) = true
      · rw [if_pos h5] at h
        exfalso
        rcases cases8 h0 a with rfl | rfl | rfl | rfl | rfl | rfl | rfl | rfl <;> first | exact n2 rfl | exact n3 rfl | (revert h; decide)
      · simpa using h5
set_option maxRecDepth 100000 in
set_option maxHeartbeats 1000000 in
theorem bounds_walk (e0 e1 e4 e5 e6 e8 s0 l1 l2 q2 q5 : Value) (sec : Int) (ro st ex : Bool) (min pay fg ty off len : Int) (A : Option Addr) (n c : Nat) (w : World)
    (hmi : 0 ≤ min ∧ min ≤ 4294967295) (hpa : 0 ≤ pay ∧ pay ≤ 4294967295) (hfg : 0 ≤ fg ∧ fg ≤ 65535) (hty : 0 ≤ ty ∧ ty ≤ 65535) (hof : 0 ≤ off ∧ off ≤ 18446744073709551615) (hle : 0 ≤ len ∧ len ≤ 18446744073709551615) (hT : Tab w) :
    Calls Tryd.prog 6 #[.agg #[e0, e1, .int .i64 sec, .bool ro, e4, e5, e6, .int .u32 min, e8, s0, .bool st, .bool ex, .slice A n c, .int .u32 pay, l1, l2, .int .u16 fg, .int .u16 ty, q2, .int .u64 off, .int .u64 len, q5]] w fun e w' => e = .returned (.bool true) ∧ Below w.heap.size w w' := by
  have hz := hT.1
  have ho0 := hof.1
  have hl0 := hle.1
  clear hof hle
  go_enter Tryd.func6, Tryd.ntmps6
  go_wp2_with fail
  obtain ⟨W, hW⟩ : ∃ W, W = w.alloc (.cells #[e0, e1, .int .i64 sec, .bool ro, e4, e5, e6, .int .u32 min, e8, s0, .bool st, .bool ex, .slice A n c, .int .u32 pay, l1, l2, .int .u16 fg, .int .u16 ty, q2, .int .u64 off, .int .u64 len, q5] 38) := ⟨_, rfl⟩
  have hwb : Below w.heap.size w W := by rw [hW]; exact (Below.refl w.heap.size w).alloc (Nat.le_refl _) _
  have hblk : W.heap[w.heap.size]? = some (.cells #[e0, e1, .int .i64 sec, .bool ro, e4, e5, e6, .int .u32 min, e8, s0, .bool st, .bool ex, .slice A n c, .int .u32 pay, l1, l2, .int .u16 fg, .int .u16 ty, q2, .int .u64 off, .int .u64 len, q5] 38) := by rw [hW]; exact heap_alloc_new' w _
  have hsz : w.heap.size < W.heap.size := by rw [hW]; simp
  rw [← hW]
  have HT1 := Lib.hid (hT.below hz hwb); have HB := Lib.hid hwb; clear hT hwb hW
  refine (check_any _ _ _ _ _ _ _ _ _ _ _ _ _ _ _ _ _ _ _ _ _ _ _ _ _ hty.1 hty.2 ho0 hl0 hmi.1 hmi.2 hpa.1 hpa.2 HT1.out).mono ?_; rintro e w1 ⟨rfl, hb⟩
  have hblk1 := (hb.block _ hsz).trans hblk
  have HT2 := Lib.hid (HT1.out.below HT1.out.1 hb); replace HB := Lib.hid (below_then' HB.out (by omega) hb); have hs1 := hb.size; clear hb hblk
  have c2 : w1.cell? ⟨w.heap.size, 2, none⟩ = some (.int .i64 sec) := cell_of_block hblk1 2
  have c3 : w1.cell? ⟨w.heap.size, 3, none⟩ = some (.bool ro) := cell_of_block hblk1 3
  have c11 : w1.cell? ⟨w.heap.size, 11, none⟩ = some (.bool ex) := cell_of_block hblk1 11
  have c16 : w1.cell? ⟨w.heap.size, 16, none⟩ = some (.int .u16 fg) := cell_of_block hblk1 16
  have c17 : w1.cell? ⟨w.heap.size, 17, none⟩ = some (.int .u16 ty) := cell_of_block hblk1 17
  have c19 : w1.cell? ⟨w.heap.size, 19, none⟩ = some (.int .u64 off) := cell_of_block hblk1 19
  have c20 : w1.cell? ⟨w.heap.size, 20, none⟩ = some (.int .u64 len) := cell_of_block hblk1 20
  clear hblk1
  generalize hk : chk sec ro st ex min pay fg ty off len n = k at *
  by_cases h0 : k = 0
  · subst h0
    obtain ⟨z1, z2, z3, z4, z5⟩ := chk_zero hty.1 hk
    clear hk
    have hty0 := hty.1
    have hty1 := hty.2
    go_upto_region 3 with fail
    go_cut [3] (fun v wx => v = .int .u64 (sizeI sec) ∧ w1 = wx)
    case first =>
      go_wp2
      all_goals go_meet
      all_goals (refine ⟨congrArg (Value.int IntKind.u64) ?_, rfl⟩; simp only [sizeI]; (first | (rw [if_pos (by omega)]) | (rw [if_neg (by omega)])))
    obtain ⟨rfl, rfl⟩ := hcut
    generalize hsz : sizeI sec = sz at *
    go_upto_region 6 with (go_at_call 15; refine (ranged_any _ _).mono ?_; rintro e w' ⟨rfl, rfl⟩)
    go_cut [5, 52] (fun _r v wx => v = .bool false ∧ w1 = wx)
    case first =>
      by_cases hr : (ty != 2 && ty != 3) = true
      · have n2 : ty ≠ 2 := by intro e; subst e; simp at hr
        have n3 : ty ≠ 3 := by intro e; subst e; simp at hr
        obtain ⟨y1, y2⟩ := z5 n2 n3
        simp only [outB, Bool.or_eq_false_iff, decide_eq_false_iff_not] at y2
        have hl1 : len ≠ 0 := by simpa using y1
        have hw : IntKind.u64.wrap (sz - off) = sz - off := by
          have hs0 : 0 ≤ sz ∧ sz < 18446744073709551616 := by
            rw [← hsz, sizeI, IntKind.wrap_u64]; omega
          rw [IntKind.wrap_u64]; omega
        have y3 : decide (IntKind.u64.wrap (sz - off) < len) = false := by simpa using y2.2
        have y4 : decide (sz ≤ off) = false := by
          rw [hw] at y2; simp; omega
        have HR := Lib.hid hr
        clear hw y2 hl1 n2 n3 z5 z1 z2 z3 z4 hsz
        have Y3 := Lib.hid y3; clear y3
        go_wp2
        all_goals go_meet
        all_goals (first | exact ⟨rfl, rfl⟩ | exact ⟨by rw [Y3.out], rfl⟩)
      · have hr' : (ty != 2 && ty != 3) = false := by simpa using hr
        clear hr z5
        go_wp2
        all_goals go_meet
        all_goals exact ⟨rfl, rfl⟩
    obtain ⟨rfl, rfl⟩ := hcut
    clear z5 hsz
    go_upto_region 9 with fail
    go_cut [64] (fun v wx => v = .bool (ex && ty == 1) ∧ w1 = wx)
    case first =>
      by_cases t0 : (ty == 1) = true
      · have T0 := Lib.hid t0
        go_wp2
        all_goals go_meet
        all_goals (have t1 := T0.out; refine ⟨congrArg Value.bool ?_, rfl⟩; simp_all)
      · have t0' : (ty == 1) = false := by simpa using t0
        clear t0; have T0 := Lib.hid t0'
        go_wp2
        all_goals go_meet
        all_goals (have t1 := T0.out; refine ⟨congrArg Value.bool ?_, rfl⟩; simp_all)
    obtain ⟨rfl, rfl⟩ := hcut
    have hp : (ch ty && ro) = false := z4
    have hd8 : decide (ty < 8) = true := by simpa using z1
    generalize hwb : (ex && ty == 1) = wb at *
    cases wb
    · have hfin := flags_in hty0 z1 hfg z2
      have hq : (bits .andNot .u16 fg (fl ty) != 0) = false := by rw [hfin]; rfl
      clear hfin z2 z3 z4 hwb hty hfg
      go_wp2_with (first
        | (go_at_call 9
           refine (allowed _ _ hty0 hty1 HT2.out).mono ?_
           rintro e w2 ⟨rfl, hb⟩
           have d17 := (hb.cell (p := ⟨w.heap.size, 17, none⟩) (by simp; omega)).trans c17
           have d3 := (hb.cell (p := ⟨w.heap.size, 3, none⟩) (by simp; omega)).trans c3
           have hs2 := hb.size
           have HT3 := Lib.hid (HT2.out.below HT2.out.1 hb)
           have HB3 := Lib.hid (below_then' HB.out (by omega) hb)
           clear hb)
        | (go_at_call 7; refine (known _ _ hty0 hty1).mono ?_; rintro e w' ⟨rfl, rfl⟩)
        | (go_at_call 11
           refine (changes _ _ hty0 hty1 HT3.out).mono ?_
           rintro e w3 ⟨rfl, hb⟩
           have f3 := (hb.cell (p := ⟨w.heap.size, 3, none⟩) (by simp; omega)).trans d3
           have hs3 := hb.size
           have HT4 := Lib.hid (HT3.out.below HT3.out.1 hb)
           have HB4 := Lib.hid (below_then' HB3.out (by omega) hb)
           clear hb)
        | (go_at_call 14
           refine (heads_any _ HT4.out).mono ?_
           rintro e w4 ⟨rfl, hb⟩
           have g3 := (hb.cell (p := ⟨w.heap.size, 3, none⟩) (by simp; omega)).trans f3
           have HB5 := Lib.hid (below_then' HB4.out (by omega) hb)
           clear hb))
      all_goals go_ret
      all_goals exact ⟨by simp_all, HB5.out⟩
    · have t1 : ty = 1 := by simp at hwb; exact hwb.2
      subst t1
      have hfin := flags_in_w hfg z2
      have hq : (bits .andNot .u16 (bits .andNot .u16 fg 32) (fl 1) != 0) = false := by rw [hfin]; rfl
      have h32 : (bits .and .u16 fg 32 == 0) = false := by rw [show bits .and .u16 fg 32 = 32 from z3]; rfl
      clear hfin z2 z3 z4 hwb hty hfg
      go_wp2_with (first
        | (go_at_call 9
           refine (allowed _ _ hty0 hty1 HT2.out).mono ?_
           rintro e w2 ⟨rfl, hb⟩
           have d17 := (hb.cell (p := ⟨w.heap.size, 17, none⟩) (by simp; omega)).trans c17
           have d3 := (hb.cell (p := ⟨w.heap.size, 3, none⟩) (by simp; omega)).trans c3
           have hs2 := hb.size
           have HT3 := Lib.hid (HT2.out.below HT2.out.1 hb)
           have HB3 := Lib.hid (below_then' HB.out (by omega) hb)
           clear hb)
        | (go_at_call 7; refine (known _ _ hty0 hty1).mono ?_; rintro e w' ⟨rfl, rfl⟩)
        | (go_at_call 11
           refine (changes _ _ hty0 hty1 HT3.out).mono ?_
           rintro e w3 ⟨rfl, hb⟩
           have f3 := (hb.cell (p := ⟨w.heap.size, 3, none⟩) (by simp; omega)).trans d3
           have hs3 := hb.size
           have HT4 := Lib.hid (HT3.out.below HT3.out.1 hb)
           have HB4 := Lib.hid (below_then' HB3.out (by omega) hb)
           clear hb)
        | (go_at_call 14
           refine (heads_any _ HT4.out).mono ?_
           rintro e w4 ⟨rfl, hb⟩
           have g3 := (hb.cell (p := ⟨w.heap.size, 3, none⟩) (by simp; omega)).trans f3
           have HB5 := Lib.hid (below_then' HB4.out (by omega) hb)
           clear hb))
      all_goals go_ret
      all_goals exact ⟨by simp_all, HB5.out⟩
  · have h1 : (k != 0) = true := by simpa using h0
    clear h0 hk
    go_wp2_with (go_at_call 14; refine (heads_any _ HT2.out).mono ?_; rintro e w5 ⟨rfl, hb5⟩)
    go_ret
    exact ⟨rfl, below_then' HB.out (by omega) hb5⟩
end Go.Proofs.YtnnedmkidbokoaaDoor
