/- The walk of OctetBurst. -/
import Derived.Test.YtiajmngjhbckjaaSame
import Derived.Test.YtiajmngjhbckjaaLawKit
import Derived.Lib.SlBytesConst
namespace Go.Proofs.Ytiajmngjhbckjaa
open Go.RowKit
theorem crc_check : crcs [49, 50, 51, 52, 53, 54, 55, 56, 57] ^^^ 4294967295 = 3808858755 := by decide +kernel
theorem reads_block (w : World) (l : List Nat) (m : Nat × Nat) (B : Nat) (hB : w.heap.size < B) : Reads (w.alloc (.cells (l.map byt).toArray 5 m)) B 1 (some ⟨w.heap.size, 0, none⟩) l.length (l.map byt) := by
  refine ⟨by simp, fun _ => ⟨_, rfl, hB, fun j u hu => ?_⟩⟩
  rw [Addr.add_lit, World.cell?_alloc_mark]
  simpa using hu
theorem parts_one {w : World} {A : Option Addr} {n c : Nat} {l : List Nat} {B : Nat} (h : Reads w B 1 A n (l.map byt)) (hB : B ≤ w.heap.size) (hb : ∀ x ∈ l, x < 256) (hn : n ≤ 9223372036854775807) :
    Parts (w.alloc (.cells #[.slice A n c] 23)) (w.heap.size + 1) (some ⟨w.heap.size, 0, none⟩) 1 [l] := by
  refine ⟨rfl, [.slice A n c], ⟨rfl, fun _ => ⟨_, rfl, Nat.lt_succ_self _, fun j u hu => ?_⟩⟩, fun i l' hl => ?_⟩
  · rw [Addr.add_lit, World.cell?_alloc_mark]
    simpa using hu
  · cases i with
    | succ i => simp at hl
    | zero =>
      obtain rfl : l = l' := by simpa using hl
      exact ⟨hb, A, n, c, rfl, (h.alloc hB _).more (by omega), hn⟩
theorem pcrc_one (A : Option Addr) (c : Nat) (l : List Nat) (B : Nat) (w : World) (h : Parts w B A 1 [l]) :
    Calls Try.prog 10 #[.slice A 1 c] w fun e w' => e = .returned (.int .u32 ((crcs l ^^^ 4294967295 : Nat) : Int)) ∧ w = w' := by
  have := pcrc A 1 c [l] B w h (by decide)
  rwa [show [l].flatten = l from by simp] at this
/-- The sum of the nine digits, as the law asks it. -/
theorem digits_crc (w : World) : Calls Try.prog 10 #[.slice (some ⟨w.heap.size + 1, 0, none⟩) 1 1] ((w.alloc (.cells #[.int .u8 49, .int .u8 50, .int .u8 51, .int .u8 52, .int .u8 53, .int .u8 54, .int .u8 55, .int .u8 56, .int .u8 57] 5 (9, 10))).alloc (.cells #[.slice (some ⟨w.heap.size, 0, none⟩) 9 9] 23))
    fun e w' => e = .returned (.int .u32 ((3808858755 : Nat) : Int)) ∧ ((w.alloc (.cells #[.int .u8 49, .int .u8 50, .int .u8 51, .int .u8 52, .int .u8 53, .int .u8 54, .int .u8 55, .int .u8 56, .int .u8 57] 5 (9, 10))).alloc (.cells #[.slice (some ⟨w.heap.size, 0, none⟩) 9 9] 23)) = w' := by
  have hr := reads_block w [49, 50, 51, 52, 53, 54, 55, 56, 57] (9, 10) (w.heap.size + 1) (Nat.lt_succ_self _)
  have hp := parts_one (c := 9) hr (by simp) (by decide) (by decide)
  have h := pcrc _ 1 1 _ _ _ hp (by decide)
  rw [show ([[49, 50, 51, 52, 53, 54, 55, 56, 57]] : List (List Nat)).flatten = [49, 50, 51, 52, 53, 54, 55, 56, 57] from rfl, crc_check, World.size_alloc] at h
  exact h
set_option maxRecDepth 100000 in
theorem burst_out (A : Option Addr) (n c : Nat) (l : List Nat) (at' mask : Int) (w : World) (h : Reads w w.heap.size 1 A n (l.map byt)) (hn : n ≤ 140737488351232) (ho : at' < 0 ∨ n = 0) :
    Calls Try.prog 4 #[.slice A n c, .int .i64 at', .int .u32 mask] w fun e w' => e = .returned (.bool true) ∧ Below w.heap.size w w' := by
  have kc := fun (w : World) (C : Array Value) (n c : Nat) => Lib.run_convert_bytes_const (P := Try.prog) w 23 5 C n c Try.underlying23 Try.underlying5
  by_cases ht : at' < 0
  · have hd : decide (at' < 0) = true := by simpa using ht
    clear ho ht
    go_enter Try.func4, Try.ntmps4
    go_wp2_with (go_at_call 12; refine (copy_any _ _ _ _ _ _ h hn).mono ?_; rintro e w1 ⟨v, rfl, hown, hb1⟩)
    refine (digits_crc w1).mono ?_; rintro e w' ⟨rfl, rfl⟩
    go_wp2
    go_ret
    exact ⟨rfl, (hb1.alloc hb1.size _).alloc (by have := hb1.size; simp; omega) _⟩
  · have hd : decide (at' < 0) = false := by simpa using ht
    have h0 : ((n : Int) == 0) = true := by simp; omega
    clear ho ht
    go_enter Try.func4, Try.ntmps4
    go_wp2_with (go_at_call 12; refine (copy_any _ _ _ _ _ _ h hn).mono ?_; rintro e w1 ⟨v, rfl, hown, hb1⟩)
    refine (digits_crc w1).mono ?_; rintro e w' ⟨rfl, rfl⟩
    go_wp2
    go_ret
    exact ⟨rfl, (hb1.alloc hb1.size _).alloc (by have := hb1.size; simp; omega) _⟩
end Go.Proofs.Ytiajmngjhbckjaa
