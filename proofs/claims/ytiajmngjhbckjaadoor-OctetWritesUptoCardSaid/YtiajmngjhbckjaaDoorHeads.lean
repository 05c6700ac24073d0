/- The law's heads: it answers true. -/
import Derived.Test.YtiajmngjhbckjaaDoorReaderC
import Derived.Lib.SlBytesConst
namespace Go.Proofs.YtiajmngjhbckjaaDoor
open Go.RowKit
def sAB : ByteArray := ⟨#[97, 98]⟩
theorem hd1 : tErr sAB = 0 := by decide +kernel
theorem hd2 : [] ++ bigB 258 2 ++ tBytes sAB = [1, 2, 0, 0, 0, 2, 97, 98] := by decide +kernel
theorem hd3 : numV [1, 2, 0, 0, 0, 2, 97, 98] 0 2 = 258 ∧ numE [1, 2, 0, 0, 0, 2, 97, 98] 0 2 = 0 ∧ numA [1, 2, 0, 0, 0, 2, 97, 98] 0 2 = 2 := by decide +kernel
theorem hd4 : txS [1, 2, 0, 0, 0, 2, 97, 98] 2 2 = sAB ∧ txE [1, 2, 0, 0, 0, 2, 97, 98] 2 2 = 0 ∧ txA [1, 2, 0, 0, 0, 2, 97, 98] 2 2 = 8 := by decide +kernel
theorem hd5 : crcs [49, 50, 51, 52, 53, 54, 55, 56, 57] ^^^ 4294967295 = 3808858755 := by decide +kernel
theorem isW_new (w : World) : IsW (w.alloc (.cells #[.bool true, .slice none 0 0] 76)) w.heap.size w.heap.size [] (.slice none 0 0) :=
  ⟨Blk.new w 76 _, ⟨rfl, .inl ⟨rfl, rfl⟩⟩, Nat.le_refl _⟩
theorem lit_reads (w : World) (l : List Nat) (n : Nat) (hn : l.length = n) : Reads (w.alloc (.cells (l.map byt).toArray 5)) (w.heap.size + 1) 1 (some ⟨w.heap.size, 0, none⟩) n (l.map byt) := by
  have := Reads.of_blk (Blk.new w 5 (l.map byt).toArray) (B := w.heap.size + 1) (n := n) (size := 1) (by omega) (by simp [hn])
  simp only [Nat.mul_one] at this
  rwa [List.take_of_length_le (by rw [List.length_map]; omega)] at this
theorem reads_block (w : World) (l : List Nat) (m : Nat × Nat) (B : Nat) (hB : w.heap.size < B) : Reads (w.alloc (.cells (l.map byt).toArray 5 m)) B 1 (some ⟨w.heap.size, 0, none⟩) l.length (l.map byt) := by
  refine ⟨by simp, fun _ => ⟨_, rfl, hB, fun j u hu => ?_⟩⟩
  rw [Addr.add_lit, World.cell?_alloc_mark]
  simpa using hu
theorem crc_heads (w : World) : Calls Tryd.prog 54 #[.slice (some ⟨w.heap.size + 1 + 1, 0, none⟩) 2 2]
    (((w.alloc (.cells #[.int .u8 49, .int .u8 50, .int .u8 51, .int .u8 52] 5 (4, 5))).alloc (.cells #[.int .u8 53, .int .u8 54, .int .u8 55, .int .u8 56, .int .u8 57] 5 (5, 6))).alloc (.cells #[.slice (some ⟨w.heap.size, 0, none⟩) 4 4, .slice (some ⟨w.heap.size + 1, 0, none⟩) 5 5] 26))
    fun e w' => e = .returned (.int .u32 3808858755) ∧ Below w.heap.size w w' := by
  have r1 : Reads (w.alloc (.cells #[.int .u8 49, .int .u8 50, .int .u8 51, .int .u8 52] 5 (4, 5))) (w.heap.size + 1) 1 (some ⟨w.heap.size, 0, none⟩) 4 ([49, 50, 51, 52].map byt) := reads_block w [49, 50, 51, 52] (4, 5) (w.heap.size + 1) (Nat.lt_succ_self _)
  have r2 : Reads ((w.alloc (.cells #[.int .u8 49, .int .u8 50, .int .u8 51, .int .u8 52] 5 (4, 5))).alloc (.cells #[.int .u8 53, .int .u8 54, .int .u8 55, .int .u8 56, .int .u8 57] 5 (5, 6))) (w.heap.size + 1 + 1) 1 (some ⟨(w.alloc (.cells #[.int .u8 49, .int .u8 50, .int .u8 51, .int .u8 52] 5 (4, 5))).heap.size, 0, none⟩) 5 ([53, 54, 55, 56, 57].map byt) := reads_block (w.alloc (.cells #[.int .u8 49, .int .u8 50, .int .u8 51, .int .u8 52] 5 (4, 5))) [53, 54, 55, 56, 57] (5, 6) (w.heap.size + 1 + 1) (by rw [World.size_alloc]; omega)
  have hs1 : (w.alloc (.cells #[.int .u8 49, .int .u8 50, .int .u8 51, .int .u8 52] 5 (4, 5))).heap.size = w.heap.size + 1 := World.size_alloc _ _
  have hs2 : ((w.alloc (.cells #[.int .u8 49, .int .u8 50, .int .u8 51, .int .u8 52] 5 (4, 5))).alloc (.cells #[.int .u8 53, .int .u8 54, .int .u8 55, .int .u8 56, .int .u8 57] 5 (5, 6))).heap.size = w.heap.size + 1 + 1 := by rw [World.size_alloc, hs1]
  have r1' := (r1.alloc (Nat.le_of_eq hs1.symm) (.cells #[.int .u8 53, .int .u8 54, .int .u8 55, .int .u8 56, .int .u8 57] 5 (5, 6))).alloc (by rw [hs2]; omega) (.cells #[.slice (some ⟨w.heap.size, 0, none⟩) 4 4, .slice (some ⟨w.heap.size + 1, 0, none⟩) 5 5] 26)
  have r2' := r2.alloc (Nat.le_of_eq hs2.symm) (.cells #[.slice (some ⟨w.heap.size, 0, none⟩) 4 4, .slice (some ⟨w.heap.size + 1, 0, none⟩) 5 5] 26)
  rw [hs1] at r2'
  have hp : Parts (((w.alloc (.cells #[.int .u8 49, .int .u8 50, .int .u8 51, .int .u8 52] 5 (4, 5))).alloc (.cells #[.int .u8 53, .int .u8 54, .int .u8 55, .int .u8 56, .int .u8 57] 5 (5, 6))).alloc (.cells #[.slice (some ⟨w.heap.size, 0, none⟩) 4 4, .slice (some ⟨w.heap.size + 1, 0, none⟩) 5 5] 26)) (w.heap.size + 1 + 1 + 1) (some ⟨w.heap.size + 1 + 1, 0, none⟩) 2 [[49, 50, 51, 52], [53, 54, 55, 56, 57]] := by
    refine ⟨rfl, [.slice (some ⟨w.heap.size, 0, none⟩) 4 4, .slice (some ⟨w.heap.size + 1, 0, none⟩) 5 5], ⟨rfl, fun _ => ⟨_, rfl, Nat.lt_succ_self _, fun j u hu => ?_⟩⟩, fun i l' hl => ?_⟩
    · have hb := Blk.new ((w.alloc (.cells #[.int .u8 49, .int .u8 50, .int .u8 51, .int .u8 52] 5 (4, 5))).alloc (.cells #[.int .u8 53, .int .u8 54, .int .u8 55, .int .u8 56, .int .u8 57] 5 (5, 6))) 26 #[.slice (some ⟨w.heap.size, 0, none⟩) 4 4, .slice (some ⟨w.heap.size + 1, 0, none⟩) 5 5]
      rw [hs2] at hb
      rw [Addr.add_lit, Nat.zero_add, hb.cell]
      simpa using hu
    · match i, hl with
      | 0, hl =>
        obtain rfl : [49, 50, 51, 52] = l' := by simpa using hl
        exact ⟨by decide, _, 4, 4, rfl, r1'.more (by omega), by decide⟩
      | 1, hl =>
        obtain rfl : [53, 54, 55, 56, 57] = l' := by simpa using hl
        exact ⟨by decide, _, 5, 5, rfl, r2'.more (by omega), by decide⟩
      | i + 2, hl => simp at hl
  refine (pcrc _ 2 2 _ _ _ hp (by decide)).mono ?_
  rintro e w' ⟨rfl, rfl⟩
  rw [show ([[49, 50, 51, 52], [53, 54, 55, 56, 57]] : List (List Nat)).flatten = [49, 50, 51, 52, 53, 54, 55, 56, 57] from rfl, hd5]
  exact ⟨rfl, (((Below.refl _ _).alloc (Nat.le_refl _) _).alloc (by rw [hs1]; omega) _).alloc (by rw [hs2]; omega) _⟩
set_option maxRecDepth 20000 in
set_option maxHeartbeats 4000000 in
theorem heads_any (w : World) (hT : Lib.Utf8Tabs 0 1 w) (h2 : 2 ≤ w.heap.size) : Calls Tryd.prog 15 #[] w fun e w' => e = .returned (.bool true) ∧ Below w.heap.size w w' := by
  have HT := Lib.hid hT
  clear hT
  go_enter Tryd.func15, Tryd.ntmps15
  go_wp2_with fail
  refine (newW w).mono ?_
  rintro e w1 ⟨rfl, hw1⟩
  have hI1 : IsW w1 w.heap.size w.heap.size [] (.slice none 0 0) := by rw [hw1]; exact isW_new w
  have hb1 : Below w.heap.size w w1 := by rw [hw1]; exact (Below.refl _ _).alloc (Nat.le_refl _) _
  have HI1 := Lib.hid hI1
  have hs1 := hb1.size
  clear hw1 hI1
  go_wp2_with fail
  refine (wu16 HI1.out hs1 258 (by omega) (by simp)).mono ?_
  rintro e w2 ⟨rfl, ht2⟩
  have hb2 := WTo.below HI1.out hs1 ht2
  obtain ⟨v2, hI2, _, _⟩ := ht2
  have hb2' : Below w.heap.size w w2 := hb1.trans hb2
  have HI2 := Lib.hid hI2
  clear hI2 HI1 hb1 hb2 hs1
  have hs2 := hb2'.size
  go_wp2_with fail
  refine (wtext HI2.out hs2 sAB (by decide) (tabs_low HT.out hb2' h2) (by simp [bigB_length])).mono ?_
  rintro e w3 ⟨rfl, ht3⟩
  have hb3 := WTo.below HI2.out hs2 ht3
  obtain ⟨v3, hI3, _, _⟩ := ht3
  have hb3' : Below w.heap.size w w3 := hb2'.trans hb3
  rw [hd2] at hI3
  rw [hd1]
  have HI3 := Lib.hid hI3
  clear hI3 HI2 hb2' hb3 hs2
  have hs3 := hb3'.size
  go_wp2_with fail
  refine (wout HI3.out (by decide)).mono ?_
  rintro e w4 ⟨rfl, hr4, hb4⟩
  have hb4' : Below w.heap.size w w4 := hb3'.trans (hb4.mono hs3)
  have hs4 := hb4'.size
  rw [show [1, 2, 0, 0, 0, 2, 97, 98].length = 8 from rfl] at hr4 ⊢
  have HR4 := Lib.hid hr4
  clear hr4 hb4 hb3' hs3 HI3
  go_wp2_with fail
  have hlr := lit_reads w4 [1, 2, 0, 0, 0, 2, 97, 98] 8 rfl
  have hba := (Reads.of_own HR4.out).alloc (Nat.le_refl _) (.cells ([1, 2, 0, 0, 0, 2, 97, 98].map byt).toArray 5)
  have hsm := same_any _ _ 8 8 8 8 [1, 2, 0, 0, 0, 2, 97, 98] [1, 2, 0, 0, 0, 2, 97, 98] _ _ _ hba hlr (by omega) (by omega)
  rw [decide_eq_true (Eq.refl [1, 2, 0, 0, 0, 2, 97, 98])] at hsm
  refine hsm.mono ?_
  rintro e w5 ⟨rfl, q5, rfl⟩
  have hb5 : Below w.heap.size w ((w4.alloc (.cells ([1, 2, 0, 0, 0, 2, 97, 98].map byt).toArray 5)).drewN q5) := below_drewN (hb4'.alloc hs4 _) q5
  have HR5 : Hid (Reads ((w4.alloc (.cells ([1, 2, 0, 0, 0, 2, 97, 98].map byt).toArray 5)).drewN q5) w4.heap.size 1 (some ⟨w3.heap.size, 0, none⟩) 8 ([1, 2, 0, 0, 0, 2, 97, 98].map byt)) := Lib.hid (hba.drewN q5)
  have hsz5 : w4.heap.size ≤ ((w4.alloc (.cells ([1, 2, 0, 0, 0, 2, 97, 98].map byt).toArray 5)).drewN q5).heap.size := by
    show w4.heap.size ≤ (w4.alloc _).heap.size
    rw [World.size_alloc]; omega
  clear hlr hba hsm HR4
  generalize (w4.alloc (.cells ([1, 2, 0, 0, 0, 2, 97, 98].map byt).toArray 5)).drewN q5 = W5 at *
  have hs5 := hb5.size
  go_wp2_with fail
  refine (newR W5 _ 8 8 w4.heap.size [1, 2, 0, 0, 0, 2, 97, 98] HR5.out hsz5 (by omega) (by decide)).mono ?_
  rintro e w6 ⟨r, vr, rfl, hI6, hb6⟩
  have hb6' : Below w.heap.size w w6 := hb5.trans (hb6.mono hs5)
  have HI6 := Lib.hid hI6
  clear hI6 hb6 HR5 hsz5
  have hs6 := hb6'.size
  go_wp2_with fail
  refine (ru16 HI6.out).mono ?_
  rintro e w7 ⟨rfl, hI7, hk7⟩
  rw [hd3.1, hd3.2.1]
  rw [hd3.2.2] at hI7
  have hb7 : Below w.heap.size w w7 := hb6'.trans (hk7.below (fun x hx => by rw [List.mem_singleton.1 hx]; exact Nat.le_trans hs5 HI6.out.base) hs6)
  have hsW7 : W5.heap.size ≤ w7.heap.size := Nat.le_trans (Nat.le_of_lt (Nat.lt_of_le_of_lt HI6.out.base HI6.out.blk.lt)) hk7.size
  have HI7 := Lib.hid hI7
  clear hI7 hk7 hb6' hs6 HI6
  have hs7 := hb7.size
  go_wp2_with fail
  refine (rtext39 HI7.out (tabs_low HT.out hb7 h2) (by omega) hsW7 2 (by omega)).mono ?_
  rintro e w8 ⟨rfl, hI8, hk8⟩
  rw [hd4.1, hd4.2.1]
  have hb8 : Below w.heap.size w w8 := hb7.trans (hk8.below (fun x hx => by rw [List.mem_singleton.1 hx]; exact Nat.le_trans hs5 HI7.out.base) hs7)
  clear hI8 hk8 HI7 hb7
  have hs8 := hb8.size
  unfold sAB
  have kc := fun (w : World) (C : Array Value) (n c : Nat) => Lib.run_convert_bytes_const (P := Tryd.prog) w 26 5 C n c Tryd.underlying26 Tryd.underlying5
  have kc1 := kc w8 #[.int .u8 49, .int .u8 50, .int .u8 51, .int .u8 52] 4 4
  have kc2 := kc (w8.alloc (.cells #[.int .u8 49, .int .u8 50, .int .u8 51, .int .u8 52] 5 (4, 5))) #[.int .u8 53, .int .u8 54, .int .u8 55, .int .u8 56, .int .u8 57] 5 5
  rw [World.size_alloc] at kc2
  clear kc
  go_wp2_with fail
  refine (crc_heads w8).mono ?_
  rintro e w9 ⟨rfl, hb9⟩
  have hb9' : Below w.heap.size w w9 := hb8.trans (hb9.mono hs8)
  go_wp2
  go_ret
  exact ⟨rfl, hb9'⟩
end Go.Proofs.YtiajmngjhbckjaaDoor
