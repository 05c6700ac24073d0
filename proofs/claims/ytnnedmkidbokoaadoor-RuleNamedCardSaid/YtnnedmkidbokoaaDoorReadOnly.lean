/- The walk of RuleReadOnly. -/
import Derived.Test.YtnnedmkidbokoaaDoorCase
namespace Go.Proofs.YtnnedmkidbokoaaDoor
open Go.RowKit
theorem chk_same {sec : Int} {st ex : Bool} {min pay fg ty off len : Int} {n : Nat} (h : ch ty = false) : chk sec true st ex min pay fg ty off len n = chk sec false st ex min pay fg ty off len n := by
  simp [chk, chk0, permB, h]
theorem chk_ro {sec : Int} {st ex : Bool} {min pay fg ty off len : Int} {n : Nat} (h : ch ty = true) : chk sec true st ex min pay fg ty off len n ≠ 0 := by
  have h2 : (ty == 2) = false := by
    cases e : ty == 2 with
    | false => rfl
    | true => obtain rfl := eq_of_beq e; simp [ch] at h
  have h3 : (ty == 3) = false := by
    cases e : ty == 3 with
    | false => rfl
    | true => obtain rfl := eq_of_beq e; simp [ch] at h
  simp only [chk, chk0, permB, h, h2, h3]
  split <;> simp
theorem heap_alloc_new' (w : World) (o : Obj) : (w.alloc o).heap[w.heap.size]? = some o := by
  show (w.heap.push o)[w.heap.size]? = _
  simp
theorem cell_of_block {w : World} {b : Nat} {cs : Array Value} {t : TypeId} {m : Nat × Nat} (h : w.heap[b]? = some (.cells cs t m)) (j : Nat) : w.cell? ⟨b, j, none⟩ = cs[j]? := by
  simp [World.cell?, h]
theorem frozen_of_block {w : World} {b : Nat} {cs : Array Value} {t : TypeId} (h : w.heap[b]? = some (.cells cs t (0, 0))) (j : Nat) : w.frozen? ⟨b, j, none⟩ = false := by
  simp [World.frozen?, h]
set_option maxRecDepth 100000 in
set_option maxHeartbeats 1000000 in
theorem readonly_walk (e0 e1 e4 e5 e6 e8 s0 l1 l2 q2 q5 : Value) (sec : Int) (ro st ex : Bool) (min pay fg ty off len : Int) (A : Option Addr) (n c : Nat) (w : World)
    (hmi : 0 ≤ min ∧ min ≤ 4294967295) (hpa : 0 ≤ pay ∧ pay ≤ 4294967295) (_hfg : 0 ≤ fg ∧ fg ≤ 65535) (hty : 0 ≤ ty ∧ ty ≤ 65535) (hof : 0 ≤ off) (hle : 0 ≤ len) (hT : Tab w) :
    Calls Tryd.prog 4 #[.agg #[e0, e1, .int .i64 sec, .bool ro, e4, e5, e6, .int .u32 min, e8, s0, .bool st, .bool ex, .slice A n c, .int .u32 pay, l1, l2, .int .u16 fg, .int .u16 ty, q2, .int .u64 off, .int .u64 len, q5]] w fun e w' => e = .returned (.bool true) ∧ Below w.heap.size w w' := by
  have hz := hT.1
  go_enter Tryd.func4, Tryd.ntmps4
  go_wp2_with fail
  obtain ⟨W, hW⟩ : ∃ W, W = w.alloc (.cells #[e0, e1, .int .i64 sec, .bool false, e4, e5, e6, .int .u32 min, e8, s0, .bool st, .bool ex, .slice A n c, .int .u32 pay, l1, l2, .int .u16 fg, .int .u16 ty, q2, .int .u64 off, .int .u64 len, q5] 38) := ⟨_, rfl⟩
  have hwb : Below w.heap.size w W := by rw [hW]; exact (Below.refl w.heap.size w).alloc (Nat.le_refl _) _
  have hblk : W.heap[w.heap.size]? = some (.cells #[e0, e1, .int .i64 sec, .bool false, e4, e5, e6, .int .u32 min, e8, s0, .bool st, .bool ex, .slice A n c, .int .u32 pay, l1, l2, .int .u16 fg, .int .u16 ty, q2, .int .u64 off, .int .u64 len, q5] 38) := by rw [hW]; exact heap_alloc_new' w _
  have hsz : w.heap.size < W.heap.size := by rw [hW]; simp
  rw [← hW]
  have HT0 := Lib.hid hT; have HT1 := Lib.hid (hT.below hz hwb); have HB := Lib.hid hwb; clear hT hwb hW
  refine (check_any _ _ _ _ _ _ _ _ _ _ _ _ _ _ _ _ _ _ _ _ _ _ _ _ _ hty.1 hty.2 hof hle hmi.1 hmi.2 hpa.1 hpa.2 HT1.out).mono ?_; rintro e w1 ⟨rfl, hb⟩
  have hblk1 := (hb.block _ hsz).trans hblk
  have HT2 := Lib.hid (HT1.out.below HT1.out.1 hb); replace HB := Lib.hid (below_then' HB.out (by omega) hb); have hs1 := hb.size; clear hb hblk
  have c0 : w1.cell? ⟨w.heap.size, 0, none⟩ = some (e0) := cell_of_block hblk1 0
  have c1 : w1.cell? ⟨w.heap.size, 1, none⟩ = some (e1) := cell_of_block hblk1 1
  have c2 : w1.cell? ⟨w.heap.size, 2, none⟩ = some (.int .i64 sec) := cell_of_block hblk1 2
  have c3 : w1.cell? ⟨w.heap.size, 3, none⟩ = some (.bool false) := cell_of_block hblk1 3
  have c4 : w1.cell? ⟨w.heap.size, 4, none⟩ = some (e4) := cell_of_block hblk1 4
  have c5 : w1.cell? ⟨w.heap.size, 5, none⟩ = some (e5) := cell_of_block hblk1 5
  have c6 : w1.cell? ⟨w.heap.size, 6, none⟩ = some (e6) := cell_of_block hblk1 6
  have c7 : w1.cell? ⟨w.heap.size, 7, none⟩ = some (.int .u32 min) := cell_of_block hblk1 7
  have c8 : w1.cell? ⟨w.heap.size, 8, none⟩ = some (e8) := cell_of_block hblk1 8
  have c9 : w1.cell? ⟨w.heap.size, 9, none⟩ = some (s0) := cell_of_block hblk1 9
  have c10 : w1.cell? ⟨w.heap.size, 10, none⟩ = some (.bool st) := cell_of_block hblk1 10
  have c11 : w1.cell? ⟨w.heap.size, 11, none⟩ = some (.bool ex) := cell_of_block hblk1 11
  have c12 : w1.cell? ⟨w.heap.size, 12, none⟩ = some (.slice A n c) := cell_of_block hblk1 12
  have c13 : w1.cell? ⟨w.heap.size, 13, none⟩ = some (.int .u32 pay) := cell_of_block hblk1 13
  have c14 : w1.cell? ⟨w.heap.size, 14, none⟩ = some (l1) := cell_of_block hblk1 14
  have c15 : w1.cell? ⟨w.heap.size, 15, none⟩ = some (l2) := cell_of_block hblk1 15
  have c16 : w1.cell? ⟨w.heap.size, 16, none⟩ = some (.int .u16 fg) := cell_of_block hblk1 16
  have c17 : w1.cell? ⟨w.heap.size, 17, none⟩ = some (.int .u16 ty) := cell_of_block hblk1 17
  have c18 : w1.cell? ⟨w.heap.size, 18, none⟩ = some (q2) := cell_of_block hblk1 18
  have c19 : w1.cell? ⟨w.heap.size, 19, none⟩ = some (.int .u64 off) := cell_of_block hblk1 19
  have c20 : w1.cell? ⟨w.heap.size, 20, none⟩ = some (.int .u64 len) := cell_of_block hblk1 20
  have c21 : w1.cell? ⟨w.heap.size, 21, none⟩ = some (q5) := cell_of_block hblk1 21
  have fz := fun j => frozen_of_block hblk1 j
  clear hblk1
  have hb2 : Below w.heap.size w (w1.setCell ⟨w.heap.size, 3, none⟩ (.bool true)) := HB.out.setCell (p := ⟨w.heap.size, 3, none⟩) (Nat.le_refl _) _
  have HT2' := Lib.hid (HT0.out.below hz hb2)
  have HB2 := Lib.hid hb2; clear hb2 HT2 HB
  have hq : (w1.setCell ⟨w.heap.size, 3, none⟩ (.bool true)).cell? ⟨w.heap.size, 17, none⟩ = some (.int .u16 ty) := by rw [World.cell?_setCell_other _ _ _ _ (by simp)]; exact c17
  have HQ := Lib.hid hq; clear hq
  have h1 : ch ty = true → chk sec true st ex min pay fg ty off len n ≠ 0 := chk_ro
  have h2 : ch ty = false → chk sec true st ex min pay fg ty off len n = chk sec false st ex min pay fg ty off len n := chk_same
  have hty0 := hty.1
  have hty1 := hty.2
  generalize hc0 : ch ty = cb at *
  have H1 := Lib.hid h1; have H2 := Lib.hid h2; have HC := Lib.hid hc0; clear h1 h2 hc0
  generalize chk sec false st ex min pay fg ty off len n = o at *
  go_wp2_with fail
  refine (check_any _ _ _ _ _ _ _ _ _ _ _ _ _ _ _ _ _ _ _ _ _ _ _ _ _ hty.1 hty.2 hof hle hmi.1 hmi.2 hpa.1 hpa.2 HT2'.out).mono ?_; rintro e w3 ⟨rfl, hb⟩
  have hs3 : w1.heap.size ≤ w3.heap.size := by have := hb.size; simpa using this
  have d17 : w3.cell? ⟨w.heap.size, 17, none⟩ = some (.int .u16 ty) := (hb.cell (p := ⟨w.heap.size, 17, none⟩) (by simp; omega)).trans HQ.out
  have HT3 := Lib.hid (HT2'.out.below HT2'.out.1 hb); have HB3 := Lib.hid (below_then' HB2.out (by omega) hb); clear hb HB2 c0 c1 c2 c3 c4 c5 c6 c7 c8 c9 c10 c11 c12 c13 c14 c15 c16 c17 c18 c19 c20 c21 fz
  generalize chk sec true st ex min pay fg ty off len n = t at *
  go_wp2_with fail
  refine (changes _ _ hty.1 hty.2 HT3.out).mono ?_; rintro e w4 ⟨rfl, hb⟩
  rw [HC.out]
  have hs4 := hb.size
  have HT4 := Lib.hid (HT3.out.below HT3.out.1 hb); have HB4 := Lib.hid (below_then' HB3.out (by omega) hb); clear hb
  cases cb
  · obtain rfl : t = o := H2.out rfl
    by_cases ho : t = 0
    · have o1 : (t == 0) = true := by simpa using ho
      have o2 : (t != 0) = false := by simpa using ho
      clear ho
      go_wp2_with (go_at_call 14; refine (heads_any _ HT4.out).mono ?_; rintro e w5 ⟨rfl, hb5⟩)
      go_ret
      exact ⟨rfl, below_then' HB4.out (by omega) hb5⟩
    · have o1 : (t == 0) = false := by simpa using ho
      have o2 : (t != 0) = true := by simpa using ho
      clear ho
      go_wp2_with (go_at_call 14; refine (heads_any _ HT4.out).mono ?_; rintro e w5 ⟨rfl, hb5⟩)
      go_ret
      exact ⟨rfl, below_then' HB4.out (by omega) hb5⟩
  · have ho := H1.out rfl
    have o1 : (t == 0) = false := by simpa using ho
    clear ho
    go_wp2_with (go_at_call 14; refine (heads_any _ HT4.out).mono ?_; rintro e w5 ⟨rfl, hb5⟩)
    all_goals go_ret
    all_goals exact ⟨rfl, below_then' HB4.out (by omega) hb5⟩
end Go.Proofs.YtnnedmkidbokoaaDoor
