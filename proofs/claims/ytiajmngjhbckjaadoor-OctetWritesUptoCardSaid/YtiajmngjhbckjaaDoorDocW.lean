/- The document's bytes: Big, Zeros, Text. -/
import Derived.Test.YtiajmngjhbckjaaDoorWriterB
namespace Go.Proofs.YtiajmngjhbckjaaDoor
open Go.RowKit
/-- What Big's row holds when the last j of n places are laid. -/
def bigAt (z n j : Nat) : List Nat := List.replicate (n - j) 0 ++ (bigB z n).drop (n - j)
theorem bigAt_length (z n j : Nat) (h : j ≤ n) : (bigAt z n j).length = n := by
  unfold bigAt; rw [List.length_append, List.length_replicate, List.length_drop, bigB_length]; omega
theorem bigAt_set (z n j : Nat) (h : j < n) : (bigAt z n j).set (n - 1 - j) (z / 256 ^ j % 256) = bigAt z n (j + 1) := by
  unfold bigAt
  have e1 : n - j = (n - (j + 1)) + 1 := by omega
  have e2 : n - 1 - j = n - (j + 1) := by omega
  have hb := bigB_at z (n := n) (j := n - (j + 1)) (by omega)
  rw [show n - 1 - (n - (j + 1)) = j by omega] at hb
  rw [e1, e2, List.replicate_succ', List.append_assoc, List.set_append_right _ _ (by simp)]
  congr 1
  rw [List.length_replicate, Nat.sub_self]
  rw [List.drop_eq_getElem_cons (i := n - (j + 1)) (by rw [bigB_length]; omega)]
  have := (List.getElem?_eq_some_iff.1 hb).2
  rw [this]; rfl
set_option maxRecDepth 20000 in
set_option maxHeartbeats 2000000 in
theorem big_any (z n : Nat) (w : World) (hn : n ≤ 8) (hz : z < 18446744073709551616) :
    Calls Tryd.prog 49 #[.int .u64 z, .int .i64 n] w fun e w' => e = .returned (.slice (some ⟨w.heap.size, 0, none⟩) n n) ∧ Blk w' w.heap.size 5 ((bigB z n).map byt).toArray ∧ Below w.heap.size w w' := by
  obtain ⟨i0, hi0, hz0, hz1, hz2⟩ := info_parts info5
  have hmk : ∀ W : World, (Instr.makeSlice 26 (.int .i64 n) (.int .i64 n)).run Tryd.prog W = .ok (.slice (some ⟨W.heap.size, 0, none⟩) n n) (W.alloc (.cells (madeCells #[byt 0] n) 5)) := fun W => by
    have := run_make_rowN (P := Tryd.prog) 26 5 i0 _ Tryd.underlying26 hi0 hz0 .i64 .i64 n n (by omega) (by rw [hz2]; omega) (by omega) W
    rw [hz1, Nat.mul_one] at this
    exact this
  have hst : (madeCells #[byt 0] n) = ((bigAt z n 0).map byt).toArray := by
    unfold bigAt
    apply Array.ext'
    rw [toList_madeCells_one, Nat.sub_zero, List.drop_eq_nil_of_le (by rw [bigB_length]; exact Nat.le_refl _), List.append_nil, List.map_replicate]
  have hblk : Blk (w.alloc (.cells (madeCells #[byt 0] n) 5)) w.heap.size 5 ((bigAt z n 0).map byt).toArray := by rw [← hst]; exact Blk.new w 5 _
  have hb0 : Below w.heap.size w (w.alloc (.cells (madeCells #[byt 0] n) 5)) := (Below.refl _ _).alloc (Nat.le_refl _) _
  have HB := Lib.hid hblk; have HB0 := Lib.hid hb0; have HZ := Lib.hid hz
  clear hst hblk hb0 hz
  go_enter Tryd.func49, Tryd.ntmps49
  go_wp2
  generalize w.alloc (.cells (madeCells #[byt 0] n) 5) = W at *
  go_loopw [0, 6] (fun zv iv wr => ∃ j : Nat, j ≤ n ∧ zv = .int .u64 (z / 256 ^ j : Nat) ∧ iv = .int .i64 ((n : Int) - 1 - j) ∧ Hid (Blk wr w.heap.size 5 ((bigAt z n j).map byt).toArray) ∧ Below w.heap.size w wr) (fun _ iv _ => (intOf iv + 1).toNat)
  case atStart => exact ⟨0, by omega, by simp, by go_num, HB, HB0.out⟩
  case round =>
    clear HB HB0 hmk
    obtain ⟨j, hj, rfl, rfl, hb, hbw⟩ := hrel
    by_cases hlt : j < n
    · obtain ⟨i, hi⟩ : ∃ i, n - 1 - j = i := ⟨_, rfl⟩
      have e0 : (n : Int) - 1 - j = (i : Int) := by omega
      have hiz : (0 : Int) ≤ (i : Int) := by omega
      have hin : (i : Int) < (n : Int) := by omega
      obtain ⟨q, hq⟩ : ∃ q, z / 256 ^ j = q := ⟨_, rfl⟩
      have hq2 : z / 256 ^ (j + 1) = q / 256 := by rw [Nat.pow_succ, ← Nat.div_div_eq_div_mul, hq]
      obtain ⟨y, hy⟩ : ∃ y, q % 256 = y := ⟨_, rfl⟩
      have hyw : IntKind.u8.wrap (q : Int) = (y : Int) := by rw [← hy]; go_num
      have hset := bigAt_set z n j hlt
      rw [hi, hq, hy] at hset
      have f1 := hb.out.frozen i
      have hb' : Blk (wr.setCell ⟨w.heap.size, i, none⟩ (.int .u8 y)) w.heap.size 5 ((bigAt z n (j + 1)).map byt).toArray := by
        have := hb.out.set_ i (byt y)
        rw [List.setIfInBounds_toArray, ← List.map_set, hset] at this
        exact this
      have HB := Lib.hid hb'
      have hd1 : (q : Int) / 256 = ((q / 256 : Nat) : Int) := by omega
      have HQ2 := Lib.hid hq2; have HD1 := Lib.hid hd1
      have hc0 : ∃ u, wr.cell? ⟨w.heap.size, i, none⟩ = some u := by
        rw [hb.out.cell i]
        exact ⟨_, Array.getElem?_eq_getElem (by simp [bigAt_length z n j (by omega)]; omega)⟩
      obtain ⟨u, hu⟩ := hc0
      rw [e0, hq]
      clear hb hset hq hq2 hy hi hb' hd1
      go_wp2
      refine ⟨⟨j + 1, by omega, by rw [HQ2.out, ← HD1.out], by go_num, HB, hbw.setCell (p := ⟨w.heap.size, i, none⟩) (Nat.le_refl _) _⟩, by simp [intOf] <;> omega⟩
    · obtain rfl : j = n := by omega
      have e9 : bigAt z j j = bigB z j := by unfold bigAt; rw [Nat.sub_self]; rfl
      rw [e9] at hb
      clear e9
      go_wp2
      go_ret
      exact ⟨rfl, hb.out, hbw⟩
theorem big_row {z n : Nat} {w w' : World} {g : Nat} (h : Blk w' g 5 ((bigB z n).map byt).toArray) (hg : w.heap.size ≤ g) (hn : n ≤ 8) :
    w'.ownsRow w.heap.size 5 1 (.slice (some ⟨g, 0, none⟩) n n) (bigB z n).length ((bigB z n).map byt) := by
  refine ⟨by rw [List.length_map, Nat.mul_one], .inr ⟨g, n, _, by rw [bigB_length], hg, h, by rw [bigB_length]; exact Nat.le_refl _, by simp only [maxLen]; omega, by simp [bigB_length], ?_⟩⟩
  simp only [Nat.mul_one]
  exact List.take_of_length_le (by rw [List.length_map]; exact Nat.le_refl _)
set_option maxRecDepth 20000 in
set_option maxHeartbeats 2000000 in
theorem rzeros (n : Int) (w : World) :
    Calls Tryd.prog 51 #[.int .i64 n] w fun e w' => ∃ v, e = .returned (.tuple #[v, .int .i64 (zErr n)]) ∧ w'.ownsRow w.heap.size 5 1 v (zBytes n).length ((zBytes n).map byt) ∧ Below w.heap.size w w' := by
  by_cases h1 : n < 0
  · have e1 : zErr n = 2 := if_pos h1
    have e2 : zBytes n = [] := if_neg (by omega)
    rw [e1, e2]
    clear e1 e2
    go_enter Tryd.func51, Tryd.ntmps51
    go_wp2
    go_ret2
    exact ⟨_, rfl, ⟨rfl, .inl ⟨rfl, rfl⟩⟩, Below.refl _ _⟩
  · by_cases h2 : 2097152 < n
    · have e1 : zErr n = 12 := by unfold zErr; rw [if_neg h1, if_pos h2]
      have e2 : zBytes n = [] := if_neg (by omega)
      rw [e1, e2]
      clear e1 e2
      go_enter Tryd.func51, Tryd.ntmps51
      go_wp2
      go_ret2
      exact ⟨_, rfl, ⟨rfl, .inl ⟨rfl, rfl⟩⟩, Below.refl _ _⟩
    · obtain ⟨k, rfl⟩ : ∃ k : Nat, n = k := ⟨n.toNat, by omega⟩
      have e1 : zErr (k : Int) = 0 := by unfold zErr; rw [if_neg h1, if_neg h2]
      have e2 : zBytes (k : Int) = List.replicate k 0 := by unfold zBytes; rw [if_pos (by omega)]; simp
      obtain ⟨i0, hi0, hz0, hz1, hz2⟩ := info_parts info5
      have hk : k ≤ 2097152 := by omega
      have hmk : ∀ W : World, (Instr.makeSlice 26 (.int .i64 k) (.int .i64 k)).run Tryd.prog W = .ok (.slice (some ⟨W.heap.size, 0, none⟩) k k) (W.alloc (.cells (madeCells #[byt 0] k) 5)) := fun W => by
        have := run_make_rowN (P := Tryd.prog) 26 5 i0 _ Tryd.underlying26 hi0 hz0 .i64 .i64 k k (by omega) (by rw [hz2]; omega) (by omega) W
        rw [hz1, Nat.mul_one] at this
        exact this
      have hst : madeCells #[byt 0] k = (List.replicate k (byt 0)).toArray := by
        apply Array.ext'
        rw [toList_madeCells_one]
      have hblk : Blk (w.alloc (.cells (madeCells #[byt 0] k) 5)) w.heap.size 5 (List.replicate k (byt 0)).toArray := by rw [← hst]; exact Blk.new w 5 _
      have hb0 : Below w.heap.size w (w.alloc (.cells (madeCells #[byt 0] k) 5)) := (Below.refl _ _).alloc (Nat.le_refl _) _
      have HB := Lib.hid hblk; have HB0 := Lib.hid hb0
      rw [e1, e2]
      clear hst hblk hb0 e1 e2
      go_enter Tryd.func51, Tryd.ntmps51
      go_wp2
      go_ret2
      exact ⟨_, rfl, ⟨by rw [List.length_replicate, Nat.mul_one], .inr ⟨w.heap.size, k, _, rfl, Nat.le_refl _, HB.out, Nat.le_refl _, by simp only [maxLen]; omega, by simp, by simp⟩⟩, HB0.out⟩
set_option maxRecDepth 20000 in
set_option maxHeartbeats 2000000 in
theorem rtext (s : ByteArray) (w : World) (hs : s.size ≤ maxLen) :
    Calls Tryd.prog 52 #[.string s] w fun e w' => ∃ v, e = .returned (.tuple #[v, .int .i64 (tErr s)]) ∧ w'.ownsRow w.heap.size 5 1 v (tBytes s).length ((tBytes s).map byt) ∧ Below w.heap.size w w' := by
  have hp := rplain_any s w (by unfold maxLen at hs; omega)
  by_cases h1 : plainL s.data.toList = true
  · rw [h1] at hp
    by_cases h2 : 4096 < s.size
    · have e1 : tErr s = 12 := by unfold tErr; rw [if_pos h1, if_pos h2]
      have e2 : tBytes s = [] := by unfold tBytes; rw [e1, if_neg (by decide)]
      have h2' : (4096 : Int) < (s.size : Int) := by omega
      rw [e1, e2]
      clear e1 e2 h1 h2
      go_enter Tryd.func52, Tryd.ntmps52
      go_wp2_with fail
      refine hp.mono ?_
      rintro e w1 ⟨rfl, rfl⟩
      go_wp2
      go_ret2
      exact ⟨_, rfl, ⟨rfl, .inl ⟨rfl, rfl⟩⟩, Below.refl _ _⟩
    · have e1 : tErr s = 0 := by unfold tErr; rw [if_pos h1, if_neg h2]
      have e2 : tBytes s = bigB s.size 4 ++ sNat s := by unfold tBytes; rw [e1, if_pos rfl]
      have h2' : ¬ ((4096 : Int) < (s.size : Int)) := by omega
      have h4 : s.size ≤ 4096 := by omega
      have hz0 : (0 : Int) ≤ (s.size : Int) := by omega
      have hz1 : (s.size : Int) ≤ 4096 := by omega
      obtain ⟨i0, hi0, hz0', hz1', hz2'⟩ := info_parts info5
      rw [e1, e2]
      have hbig := big_any s.size 4 w (by omega) (by omega)
      have HBIG := Lib.hid hbig
      clear e1 e2 h1 h2 hbig
      go_enter Tryd.func52, Tryd.ntmps52
      go_wp2_with fail
      refine hp.mono ?_
      rintro e w1 ⟨rfl, rfl⟩
      go_wp2_with fail
      refine HBIG.out.mono ?_
      rintro e w2 ⟨rfl, hblk, hb2⟩
      have hrow := big_row hblk (Nat.le_refl _) (by omega)
      rw [bigB_length] at hrow
      have HROW := Lib.hid hrow
      have hbs := hb2.size
      clear hblk hrow HBIG
      go_wp2_with (
        at_builtin
        refine wpList_append_str rfl (.tmp 17) (.tmp 18) 26 9 rfl w1.heap.size 5 i0 Tryd.underlying26 Tryd.underlying9 hi0 hz0' hz1' hz2' _ 4 _ rfl HROW.out s rfl (by simp only [maxLen]; omega) (by omega) hbs ?_
        intro v3 w3 hown hg hat
        have hrow3 : w3.ownsRow w1.heap.size 5 1 v3 (bigB s.size 4 ++ sNat s).length ((bigB s.size 4 ++ sNat s).map byt) := by rw [List.length_append, List.map_append, sNat_length, sNat_cells, bigB_length]; exact hown
        have hb3 : Below w1.heap.size w1 w3 := hb2.grown hg hbs (fun k hk => (HROW.out.lt k hk).1)
        have HR3 := Lib.hid hrow3
        clear hown hg hat hrow3)
      go_ret2
      exact ⟨_, rfl, HR3.out, hb3⟩
  · have h1' : plainL s.data.toList = false := by simpa using h1
    rw [h1'] at hp
    have e1 : tErr s = 13 := by unfold tErr; rw [if_neg h1]
    have e2 : tBytes s = [] := by unfold tBytes; rw [e1, if_neg (by decide)]
    rw [e1, e2]
    clear e1 e2 h1 h1'
    go_enter Tryd.func52, Tryd.ntmps52
    go_wp2_with fail
    refine hp.mono ?_
    rintro e w1 ⟨rfl, rfl⟩
    go_wp2
    go_ret2
    exact ⟨_, rfl, ⟨rfl, .inl ⟨rfl, rfl⟩⟩, Below.refl _ _⟩
end Go.Proofs.YtiajmngjhbckjaaDoor
