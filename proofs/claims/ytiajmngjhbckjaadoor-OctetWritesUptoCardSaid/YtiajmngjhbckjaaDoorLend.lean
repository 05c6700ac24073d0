/- The contracts of lend and kept. -/
import Derived.Test.YtiajmngjhbckjaaDoorSame
import Derived.Test.YtiajmngjhbckjaaDoorMore
namespace Go.Proofs.YtiajmngjhbckjaaDoor
open Go.RowKit
/-- What lend lays behind the bytes. -/
def marks (j : Nat) : List Value := (List.range j).map fun i => byt (170 + i)
def lent (l : List Nat) (j : Nat) : Array Value := (l.map byt ++ marks j ++ List.replicate (70 - j) (byt 0)).toArray
theorem marks_length (j : Nat) : (marks j).length = j := by simp [marks]
theorem lent_size (l : List Nat) {j : Nat} (h : j ≤ 70) : (lent l j).size = l.length + 70 := by simp [lent, marks_length]; omega
theorem byts_one {l : List Nat} : ∀ u ∈ l.map byt, u.oneCell' = true := by
  intro u hu
  obtain ⟨b, _, rfl⟩ := List.mem_map.1 hu
  rfl
theorem splice_made (l : List Nat) (n : Nat) (h : l.length = n) : splice (madeCells #[byt 0] (n + 70)) 0 (l.map byt) = lent l 0 := by
  subst h
  simp [splice, lent, marks, toList_madeCells_one]
theorem splice_mark (l : List Nat) (n j : Nat) (h : l.length = n) (hj : j < 70) : splice (lent l j) (n + j) [byt (170 + j)] = lent l (j + 1) := by
  subst h
  have hm := marks_length j
  simp only [splice, lent, List.length_singleton]
  congr 1
  rw [List.take_append_of_le_length (by simp [hm]), List.take_of_length_le (by simp [hm])]
  rw [List.drop_append, List.drop_of_length_le (by simp [hm]), List.drop_replicate]
  simp [marks, List.range_succ, List.append_assoc]
  omega
set_option maxRecDepth 20000 in
theorem lend_any (A : Option Addr) (n c : Nat) (l : List Nat) (B : Nat) (w : World) (h : Reads w B 1 A n (l.map byt)) (hB : B ≤ w.heap.size) (hn : n ≤ 140737488351232) :
    Calls Tryd.prog 19 #[.slice A n c] w fun e w' => e = .returned (.slice (some ⟨w.heap.size, 0, none⟩) n (n + 70)) ∧ Blk w' w.heap.size 5 (lent l 70) ∧ Below w.heap.size w w' := by
  have hln : l.length = n := by have := h.1; simpa using this
  obtain ⟨i0, hi0, hz0, hz1, hz2⟩ := info_parts info5
  have hmk : ∀ W : World, (Instr.makeSlice 26 (.int .i64 0) (.int .i64 ((n : Int) + 70))).run Tryd.prog W = .ok (.slice (some ⟨W.heap.size, 0, none⟩) 0 (n + 70)) (W.alloc (.cells (madeCells #[byt 0] (n + 70)) 5)) := fun W => by
    have := run_make_rowN (P := Tryd.prog) 26 5 i0 _ Tryd.underlying26 hi0 hz0 .i64 .i64 0 (n + 70) (by omega) (by rw [hz2]; omega) (by omega) W
    rw [hz1, Nat.mul_one] at this
    exact this
  go_enter Tryd.func19, Tryd.ntmps19
  go_wp2_with (at_builtin; refine wpList_append_fits _ rfl (.tmp 9) (.tmp 10) _ rfl 5 i0 1 Tryd.underlying26 hi0 hz1 w.heap.size 0 (n + 70) _ rfl (Blk.new _ _ _) B A n c (l.map byt) rfl (h.alloc hB _) byts_one (by omega) (by omega) (by rw [size_madeCells]; omega) ?_; intro w1 hblk hg)
  have hb1 : Below w.heap.size w w1 := ((Below.refl _ _).alloc (Nat.le_refl _) _).grown hg (by simp) (by simp)
  have hsp := splice_made l n hln
  simp only [Nat.zero_mul, hsp] at hblk
  clear hsp hmk
  go_loopw [3, 4] (fun v i wr => ∃ (j : Nat), j ≤ 70 ∧ i = .int .i64 j ∧ v = .slice (some ⟨w.heap.size, 0, none⟩) (n + j) (n + 70) ∧ Blk wr w.heap.size 5 (lent l j) ∧ Below w.heap.size w wr) (fun _ i _ => 70 - (intOf i).toNat)
  case atStart => exact ⟨0, by omega, rfl, by simp, hblk, hb1⟩
  case round =>
    obtain ⟨j, hj, rfl, rfl, hb, hbel⟩ := hrel
    by_cases hlt : j < 70
    · have hs2 := splice_mark l n j hln hlt
      have HS2 := Lib.hid hs2; clear hs2
      have hsz := lent_size l (j := j) (by omega)
      rw [hln] at hsz
      go_wp2_with (at_builtin; refine wpList_append_fits _ rfl (.tmp 16) (.tmp 20) _ rfl 5 i0 1 Tryd.underlying26 hi0 hz1 w.heap.size (n + j) (n + 70) _ rfl (hb.alloc _) (wr.heap.size + 1) (some ⟨wr.heap.size, 0, none⟩) 1 1 [byt (170 + j)] rfl (Reads.one_new _ _ _) (by intro u hu; rw [List.mem_singleton.1 hu]; rfl) (by omega) (by omega) (by omega) ?_; intro w2 hblk2 hg2)
      simp only [Nat.mul_one, HS2.out] at hblk2
      have hbs := hbel.size
      exact ⟨⟨j + 1, by omega, by go_num, by rw [Nat.add_assoc], hblk2, (hbel.alloc hbs _).grown hg2 (by simp; omega) (by rintro k ⟨⟩; exact Nat.le_refl _)⟩, by simp [intOf]; omega⟩
    · obtain rfl : j = 70 := by omega
      have hs1 : (n : Int) ≤ ((n + 70 : Nat) : Int) := by omega
      go_wp2
      go_ret
      exact ⟨rfl, hb, hbel⟩
theorem kept_any (g c' : Nat) (A : Option Addr) (n : Nat) (l : List Nat) (B : Nat) (w : World) (hb : Blk w g 5 (lent l 70)) (h : Reads w B 1 A n (l.map byt)) (hn : n ≤ 140737488351232) :
    Calls Tryd.prog 21 #[.slice (some ⟨g, 0, none⟩) n (n + 70), .slice A n c'] w fun e w' => e = .returned (.bool true) ∧ ∃ m, w' = w.drewN m := by
  have hln : l.length = n := by have := h.1; simpa using this
  have hsz := lent_size l (j := 70) (by omega)
  rw [hln] at hsz
  have hR : Reads w (g + 1) 1 (some ⟨g, 0, none⟩) n (l.map byt) := by
    have := Reads.of_blk (n := n) (size := 1) hb (Nat.lt_succ_self g) (by omega)
    have e : (lent l 70).toList.take (n * 1) = l.map byt := by
      simp only [lent, List.append_assoc, Nat.mul_one]
      rw [List.take_append_of_le_length (by simp [hln]), List.take_of_length_le (by simp [hln])]
    rwa [e] at this
  have hcell : ∀ j, j < 70 → w.cell? ⟨g, n + j, none⟩ = some (byt (170 + j)) := by
    intro j hj
    rw [hb.cell]
    simp only [lent, List.append_assoc]
    subst hln
    simp [marks, hj]
  have hn63 : n ≤ 9223372036854775807 := by omega
  go_enter Tryd.func21, Tryd.ntmps21
  go_wp2_with (go_at_call 17; refine (same_any _ _ _ _ _ _ _ _ _ _ _ hR h hn63 hn63).mono ?_; rintro e w1 ⟨rfl, m, rfl⟩)
  go_loop [7] (fun i => ∃ (j : Nat), j ≤ 70 ∧ i = .int .i64 j) (fun i => 70 - (intOf i).toNat)
  case atStart => exact ⟨0, by omega, rfl⟩
  case round =>
    obtain ⟨j, hj, rfl⟩ := hrel
    by_cases hlt : j < 70
    · have hc := hcell j hlt
      clear hcell
      go_wp2
      exact ⟨⟨j + 1, by omega, by go_num⟩, by simp [intOf]; omega⟩
    · obtain rfl : j = 70 := by omega
      go_wp2
      go_ret
      exact ⟨rfl, m, rfl⟩
end Go.Proofs.YtiajmngjhbckjaaDoor
