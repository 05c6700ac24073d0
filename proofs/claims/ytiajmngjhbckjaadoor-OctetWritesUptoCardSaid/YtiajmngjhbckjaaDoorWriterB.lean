/- The writer: Zeros, Text, Out. -/
import Derived.Test.YtiajmngjhbckjaaDoorWriter
import Derived.Test.YtiajmngjhbckjaaDoorAppendStr
import Derived.Test.YtiajmngjhbckjaaDoorPlain
import Derived.Laws.CopyOwn
import Derived.OwnWalk
namespace Go.Proofs.YtiajmngjhbckjaaDoor
open Go.RowKit
section
variable {w : World} {B o : Nat} {bs : List Nat} {v : Value}
/-- What Zeros answers. -/
def zErr (n : Int) : Int := if n < 0 then 2 else if 2097152 < n then 12 else 0
def zBytes (n : Int) : List Nat := if 0 ≤ n ∧ n ≤ 2097152 then List.replicate n.toNat 0 else []
set_option maxRecDepth 20000 in
set_option maxHeartbeats 2000000 in
theorem wzeros (h : IsW w B o bs v) (hB : B ≤ w.heap.size) (n : Int) (hl : bs.length ≤ 140737486258176) :
    Calls Tryd.prog 50 #[.pointer (some ⟨o, 0, none⟩), .int .i64 n] w fun e w' => e = .returned (.int .i64 (zErr n)) ∧ WTo w w' B o v (bs ++ zBytes n) := by
  have ha := walive h
  by_cases h1 : n < 0
  · have e1 : zErr n = 2 := if_pos h1
    have e2 : zBytes n = [] := if_neg (by omega)
    rw [e1, e2, List.append_nil]
    have HW := Lib.hid (WTo.refl h)
    clear h e1 e2 hl
    go_enter Tryd.func50, Tryd.ntmps50
    go_wp2_with fail
    refine ha.mono ?_
    rintro e w1 ⟨rfl, rfl⟩
    go_wp2
    go_ret
    exact ⟨rfl, HW.out⟩
  · by_cases h2 : 2097152 < n
    · have e1 : zErr n = 12 := by unfold zErr; rw [if_neg h1, if_pos h2]
      have e2 : zBytes n = [] := if_neg (by omega)
      rw [e1, e2, List.append_nil]
      have HW := Lib.hid (WTo.refl h)
      clear h e1 e2 hl
      go_enter Tryd.func50, Tryd.ntmps50
      go_wp2_with fail
      refine ha.mono ?_
      rintro e w1 ⟨rfl, rfl⟩
      go_wp2
      go_ret
      exact ⟨rfl, HW.out⟩
    · obtain ⟨k, rfl⟩ : ∃ k : Nat, n = k := ⟨n.toNat, by omega⟩
      have e1 : zErr (k : Int) = 0 := by unfold zErr; rw [if_neg h1, if_neg h2]
      have e2 : zBytes (k : Int) = List.replicate k 0 := by unfold zBytes; rw [if_pos (by omega)]; simp
      rw [e1, e2]
      obtain ⟨i0, hi0, hz0, hz1, hz2⟩ := info_parts info5
      have c1 := h.blk.cell 1
      simp only [List.getElem?_toArray, List.getElem?_cons_zero, List.getElem?_cons_succ] at c1
      obtain ⟨A0, c0, rfl⟩ := own_slice h.row
      have hk : k ≤ 2097152 := by omega
      have HH := Lib.hid h
      clear h e1 e2
      go_enter Tryd.func50, Tryd.ntmps50
      go_wp2_with fail
      refine ha.mono ?_
      rintro e w1 ⟨rfl, rfl⟩
      go_wp2_with (
        at_builtin
        refine wpList_append_make rfl (.tmp 19) (.tmp 20) 26 3 9 rfl B 5 i0 Tryd.underlying26 Tryd.underlying3 Tryd.underlying9 hi0 hz0 hz1 hz2 _ bs.length _ rfl HH.out.row k rfl (by simp only [maxLen]; omega) (by omega) hB ?_
        intro v2 w2 hown hg hat
        have hrow : w2.ownsRow B 5 1 v2 (bs ++ List.replicate k 0).length ((bs ++ List.replicate k 0).map byt) := by rw [List.length_append, List.map_append, List.length_replicate, List.map_replicate]; exact hown
        obtain ⟨A2, c2, rfl⟩ := own_slice hown
        obtain ⟨hb2, ht⟩ := WTo.appended HH.out (Below.refl _ _) hrow hg hat
        have f2 := hb2.frozen 1
        have e2 := hb2.cell 1
        simp only [List.getElem?_toArray, List.getElem?_cons_zero, List.getElem?_cons_succ] at e2
        have HT := Lib.hid ht
        clear hrow hown hg hat hb2 ht)
      go_ret
      exact ⟨rfl, HT.out⟩
set_option maxRecDepth 20000 in
set_option maxHeartbeats 2000000 in
theorem copied_any (A : Option Addr) (n c C : Nat) (l : List Nat) (w : World) (hr : Reads w C 1 A n (l.map byt)) (hC : C ≤ w.heap.size) (hn : n ≤ 140737488355328) :
    Calls Tryd.prog 55 #[.slice A n c] w fun e w' => e = .returned (.slice (some ⟨w.heap.size, 0, none⟩) n n) ∧ w'.ownsRow w.heap.size 5 1 (.slice (some ⟨w.heap.size, 0, none⟩) n n) l.length (l.map byt) ∧ Below w.heap.size w w' := by
  obtain ⟨i0, hi0, hz0, hz1, hz2⟩ := info_parts info5
  have hln : l.length = n := by have := hr.1; simpa using this
  have hmk : ∀ W : World, (Instr.makeSlice 26 (.int .i64 n) (.int .i64 n)).run Tryd.prog W = .ok (.slice (some ⟨W.heap.size, 0, none⟩) n n) (W.alloc (.cells (madeCells #[byt 0] n) 5)) := fun W => by
    have := run_make_rowN (P := Tryd.prog) 26 5 i0 _ Tryd.underlying26 hi0 hz0 .i64 .i64 n n (by omega) (by rw [hz2]; omega) (by omega) W
    rw [hz1, Nat.mul_one] at this
    exact this
  have HR := Lib.hid hr; have HL := Lib.hid hln
  clear hr hln
  go_enter Tryd.func55, Tryd.ntmps55
  have hg0 : (w.alloc (.cells (madeCells #[byt 0] n) 5)).heap[w.heap.size]? = some (.cells ((madeCells #[byt 0] n).toList).toArray 5 (0, 0)) := by
    rw [Array.toArray_toList]; exact heap_alloc_new w _
  have hms : (madeCells #[byt 0] n).toList.length = n := by rw [Array.length_toList, size_madeCells]
  have hb0 : Below w.heap.size w (w.alloc (.cells (madeCells #[byt 0] n) 5)) := (Below.refl _ _).alloc (Nat.le_refl _) _
  have HG0 := Lib.hid hg0; have HMS := Lib.hid hms
  clear hg0 hms
  have hn1 : (l.map byt).length = Nat.min n n := by rw [List.length_map, HL.out]; exact (Nat.min_self n).symm
  have hfit : 0 + (l.map byt).length ≤ (madeCells #[byt 0] n).toList.length := by rw [List.length_map, HL.out, HMS.out, Nat.zero_add]; exact Nat.le_refl _
  have h1c : ∀ u ∈ l.map byt, u.oneCell' = true := by intro u hu; obtain ⟨y, _, rfl⟩ := List.mem_map.1 hu; rfl
  have hpos : 0 < (l.map byt).length → ∃ ad, A = some ad ∧ ∀ (j : Nat) (v : Value), (l.map byt)[j]? = some v → (w.alloc (.cells (madeCells #[byt 0] n) 5)).cell? (ad.add j) = some v := fun h => by
    obtain ⟨ad, e, hlt, hc⟩ := (HR.out.alloc hC (.cells (madeCells #[byt 0] n) 5)).2 (by rw [List.length_map, HL.out] at h; exact h)
    exact ⟨ad, e, hc⟩
  have HN1 := Lib.hid hn1; have HFIT := Lib.hid hfit; have H1C := Lib.hid h1c; have HPOS := Lib.hid hpos
  clear hn1 hfit h1c hpos
  go_wp2_with (
    with_reducible refine wpList_copy_splice rfl (.tmp 7) (.tmp 8) 26 26 rfl 5 Tryd.underlying26 (by kernel_rfl) _ _ n n n c rfl rfl w.heap.size 0 (madeCells #[byt 0] n).toList 5 HG0.out (l.map byt) HN1.out (fun h => ⟨rfl, HPOS.out h⟩) HFIT.out H1C.out w.heap.size w hb0 (Nat.le_refl _) ?_
    intro w2 HG2 hb2)
  go_ret
  have hcur : Go.splice (madeCells #[byt 0] n).toList 0 (l.map byt) = l.map byt := by
    unfold Go.splice
    rw [List.take_zero, List.nil_append, List.drop_eq_nil_of_le (by rw [List.length_map, HL.out, HMS.out]; omega), List.append_nil]
  have hg2 := HG2.out
  rw [hcur] at hg2
  refine ⟨rfl, ⟨by rw [List.length_map]; omega, .inr ⟨_, n, _, by rw [HL.out], Nat.le_refl _, hg2, by rw [HL.out]; exact Nat.le_refl _, by simp only [maxLen]; omega, by simp [HL.out], ?_⟩⟩, hb2⟩
  simp only [Nat.mul_one]
  exact List.take_of_length_le (by rw [List.length_map]; exact Nat.le_refl _)
/-- What Out answers. -/
theorem wout (h : IsW w B o bs v) (hl : bs.length ≤ 140737488355328) :
    Calls Tryd.prog 16 #[.pointer (some ⟨o, 0, none⟩)] w fun e w' => e = .returned (.slice (some ⟨w.heap.size, 0, none⟩) bs.length bs.length) ∧ w'.ownsRow w.heap.size 5 1 (.slice (some ⟨w.heap.size, 0, none⟩) bs.length bs.length) bs.length (bs.map byt) ∧ Below w.heap.size w w' := by
  have ha := walive h
  have c1 := h.blk.cell 1
  simp only [List.getElem?_toArray, List.getElem?_cons_zero, List.getElem?_cons_succ] at c1
  obtain ⟨A0, c0, rfl⟩ := own_slice h.row
  have hc := copied_any A0 bs.length c0 w.heap.size bs w (Reads.of_own h.row) (Nat.le_refl _) hl
  have HC := Lib.hid hc
  clear h hc hl
  go_enter Tryd.func16, Tryd.ntmps16
  go_wp2_with fail
  refine ha.mono ?_
  rintro e w1 ⟨rfl, rfl⟩
  go_wp2_with fail
  refine HC.out.mono ?_
  rintro e w2 ⟨rfl, hr, hb⟩
  have HR := Lib.hid hr
  clear hr
  go_wp2
  go_ret
  exact ⟨rfl, HR.out, hb⟩
/-- What Text answers. -/
def tErr (s : ByteArray) : Int := if plainL s.data.toList = true then if 4096 < s.size then 12 else 0 else 13
def sNat (s : ByteArray) : List Nat := s.data.toList.map UInt8.toNat
theorem sNat_length (s : ByteArray) : (sNat s).length = s.size := by unfold sNat; rw [List.length_map, Array.length_toList]; rfl
theorem sNat_cells (s : ByteArray) : (sNat s).map byt = Lib.strCells s := by unfold sNat Lib.strCells; rw [List.map_map]; rfl
theorem sNat_lt (s : ByteArray) : ∀ x ∈ sNat s, x < 256 := by
  intro x hx
  obtain ⟨b, _, rfl⟩ := List.mem_map.1 hx
  exact b.toNat_lt
def tBytes (s : ByteArray) : List Nat := if tErr s = 0 then bigB s.size 4 ++ sNat s else []
theorem tabs_low {w w' : World} {B : Nat} (h : Lib.Utf8Tabs 0 1 w) (hb : Below B w w') (hB : 2 ≤ B) : Lib.Utf8Tabs 0 1 w' :=
  ⟨fun c hc => (hb.cell (p := ⟨0, c, none⟩) (show 0 < B by omega)).trans (h.1 c hc), fun i hi => ⟨(hb.cell (p := ⟨1, 2 * i, none⟩) (show 1 < B by omega)).trans (h.2 i hi).1, (hb.cell (p := ⟨1, 2 * i + 1, none⟩) (show 1 < B by omega)).trans (h.2 i hi).2⟩⟩
theorem WTo.after {w1 w2 : World} {bs' : List Nat} (hb : Below w.heap.size w w1) (h : WTo w1 w2 B o v bs') : WTo w w2 B o v bs' := by
  obtain ⟨v', a, b, c⟩ := h
  have k1 : Keeps (FW o v) w w1 := ⟨hb.os, hb.tape, hb.output, hb.size, fun k hk _ => hb.block k hk⟩
  exact ⟨v', a, fun x hx => (b x hx).imp id (fun h => Nat.le_trans hb.size h), k1.trans c (fun x hx => .inl hx)⟩
set_option maxRecDepth 20000 in
set_option maxHeartbeats 2000000 in
theorem wtext (h : IsW w B o bs v) (hB : B ≤ w.heap.size) (s : ByteArray) (hs : s.size ≤ maxLen) (hT : Lib.Utf8Tabs 0 1 w) (hl : bs.length ≤ 140737488000000) :
    Calls Tryd.prog 33 #[.pointer (some ⟨o, 0, none⟩), .string s] w fun e w' => e = .returned (.int .i64 (tErr s)) ∧ WTo w w' B o v (bs ++ tBytes s) := by
  have ha := walive h
  have hp := plain_any s w (by unfold maxLen at hs; omega) hT
  by_cases h1 : plainL s.data.toList = true
  · rw [h1] at hp
    by_cases h2 : 4096 < s.size
    · have e1 : tErr s = 12 := by unfold tErr; rw [if_pos h1, if_pos h2]
      have e2 : tBytes s = [] := by unfold tBytes; rw [e1, if_neg (by decide)]
      have h2' : (4096 : Int) < (s.size : Int) := by omega
      rw [e1, e2, List.append_nil]
      have HH := Lib.hid h
      clear h e1 e2 hl h1 h2 hT
      go_enter Tryd.func33, Tryd.ntmps33
      go_wp2_with fail
      refine ha.mono ?_
      rintro e w1 ⟨rfl, rfl⟩
      go_wp2_with fail
      refine hp.mono ?_
      rintro e w1 ⟨rfl, hb1⟩
      have HW := Lib.hid (WTo.after hb1 (WTo.refl (HH.out.below hb1)))
      go_wp2
      go_ret
      exact ⟨rfl, HW.out⟩
    · have e1 : tErr s = 0 := by unfold tErr; rw [if_pos h1, if_neg h2]
      have e2 : tBytes s = bigB s.size 4 ++ sNat s := by unfold tBytes; rw [e1, if_pos rfl]
      have h2' : ¬ ((4096 : Int) < (s.size : Int)) := by omega
      have h4 : s.size ≤ 4096 := by omega
      have hz0 : (0 : Int) ≤ (s.size : Int) := by omega
      have hz1 : (s.size : Int) ≤ 4096 := by omega
      obtain ⟨i0, hi0, hz0', hz1', hz2'⟩ := info_parts info5
      rw [e1, e2]
      have HH := Lib.hid h
      clear h e1 e2 h1 h2 hT
      go_enter Tryd.func33, Tryd.ntmps33
      go_wp2_with fail
      refine ha.mono ?_
      rintro e w1 ⟨rfl, rfl⟩
      go_wp2_with fail
      refine hp.mono ?_
      rintro e w1 ⟨rfl, hb1⟩
      have hw1 := HH.out.below hb1
      have hB1 : B ≤ w1.heap.size := Nat.le_trans hB hb1.size
      have hu := wu32 hw1 hB1 s.size (by omega) (by omega)
      have HU := Lib.hid hu
      clear hu hw1
      go_wp2_with fail
      refine HU.out.mono ?_
      rintro e w2 ⟨rfl, v2, hw2, hf2, hk2⟩
      have hB2 : B ≤ w2.heap.size := Nat.le_trans hB1 hk2.size
      have c1 := hw2.blk.cell 1
      simp only [List.getElem?_toArray, List.getElem?_cons_zero, List.getElem?_cons_succ] at c1
      obtain ⟨A0, c0, rfl⟩ := own_slice hw2.row
      have HW2 := Lib.hid hw2; have HF2 := Lib.hid hf2
      have hln : (bs ++ bigB s.size 4).length = bs.length + 4 := by rw [List.length_append, bigB_length]
      obtain ⟨b2, hb2e⟩ : ∃ b2, bs ++ bigB s.size 4 = b2 := ⟨_, rfl⟩
      rw [hb2e] at HW2 HF2 hln c1
      have HLN := Lib.hid hln
      clear hw2 hf2 HU hln
      go_wp2_with (
        at_builtin
        refine wpList_append_str rfl (.tmp 26) (.tmp 27) 26 9 rfl B 5 i0 Tryd.underlying26 Tryd.underlying9 hi0 hz0' hz1' hz2' _ b2.length _ rfl HW2.out.row s rfl (by have := HLN.out; simp only [maxLen]; omega) (by have := HLN.out; omega) hB2 ?_
        intro v3 w3 hown hg hat
        have hrow : w3.ownsRow B 5 1 v3 (b2 ++ sNat s).length ((b2 ++ sNat s).map byt) := by rw [List.length_append, List.map_append, sNat_length, sNat_cells]; exact hown
        obtain ⟨A2, c2, rfl⟩ := own_slice hown
        obtain ⟨hb3, ht⟩ := WTo.appended HW2.out (Below.refl _ _) hrow hg hat
        have f2 := hb3.frozen 1
        have e2 := hb3.cell 1
        simp only [List.getElem?_toArray, List.getElem?_cons_zero, List.getElem?_cons_succ] at e2
        have HT := Lib.hid (WTo.after hb1 (WTo.trans HF2.out hk2 ht))
        clear hrow hown hg hat hb3 ht)
      go_ret
      rw [show bs ++ (bigB s.size 4 ++ sNat s) = b2 ++ sNat s from by rw [← List.append_assoc, hb2e]]
      exact ⟨rfl, HT.out⟩
  · have h1' : plainL s.data.toList = false := by simpa using h1
    rw [h1'] at hp
    have e1 : tErr s = 13 := by unfold tErr; rw [if_neg h1]
    have e2 : tBytes s = [] := by unfold tBytes; rw [e1, if_neg (by decide)]
    rw [e1, e2, List.append_nil]
    have HH := Lib.hid h
    clear h e1 e2 hl h1 h1' hT
    go_enter Tryd.func33, Tryd.ntmps33
    go_wp2_with fail
    refine ha.mono ?_
    rintro e w1 ⟨rfl, rfl⟩
    go_wp2_with fail
    refine hp.mono ?_
    rintro e w1 ⟨rfl, hb1⟩
    have HW := Lib.hid (WTo.after hb1 (WTo.refl (HH.out.below hb1)))
    go_wp2
    go_ret
    exact ⟨rfl, HW.out⟩
end
end Go.Proofs.YtiajmngjhbckjaaDoor
