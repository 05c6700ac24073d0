/- The law's written: a writer's call, and the document's bytes. -/
import Derived.Test.YtiajmngjhbckjaaDoorDocW
import Derived.Test.YtiajmngjhbckjaaDoorLend
namespace Go.Proofs.YtiajmngjhbckjaaDoor
open Go.RowKit
theorem WTo.thenB {w w1 w2 : World} {B o : Nat} {v : Value} {bs' : List Nat} (h : WTo w w1 B o v bs') (hb : Below w1.heap.size w1 w2) : WTo w w2 B o v bs' := by
  obtain ⟨v', a, b, c⟩ := h
  have k1 : Keeps [] w1 w2 := ⟨hb.os, hb.tape, hb.output, hb.size, fun k hk _ => hb.block k hk⟩
  exact ⟨v', a.below hb, b, c.trans k1 (fun x hx => by cases hx)⟩
/-- A call's struct. -/
def wArg (j : Int) (z : Nat) (n : Int) (A : Option Addr) (m c : Nat) (s : ByteArray) : Array Value := #[.int .i64 j, .int .u64 z, .int .i64 n, .slice A m c, .string s]
/-- The bytes that come of a call. -/
def wBytes (j : Int) (z : Nat) (n : Int) (l : List Nat) (s : ByteArray) : List Nat :=
  if j = 1 then bigB z 1 else if j = 2 then bigB z 2 else if j = 3 then bigB z 4 else if j = 4 then bigB z 8 else if j = 5 then l else if j = 6 then zBytes n else if j = 7 then tBytes s else []
/-- What written answers. -/
def WrittenTo (w : World) (B o : Nat) (v : Value) (bs l : List Nat) (e : Ending) (w' : World) : Prop :=
  ∃ u, e = .returned (.tuple #[u, .bool true]) ∧ w'.ownsRow w.heap.size 5 1 u l.length (l.map byt) ∧ WTo w w' B o v (bs ++ l)
section
variable {w : World} {B o : Nat} {bs : List Nat} {v : Value}
theorem box_off (h : IsW w B o bs v) {g : Nat} (hg : w.heap.size ≤ g) : g ∉ FW o v := fun hm => by
  have := (h.lt g hm).2
  omega
set_option maxRecDepth 20000 in
set_option maxHeartbeats 4000000 in
theorem written1 (h : IsW w B o bs v) (hB : B ≤ w.heap.size) (z : Nat) (hz : z < 18446744073709551616) (n : Int) (A : Option Addr) (m c : Nat) (s : ByteArray) (hl : bs.length ≤ 140737486258176) :
    Calls Tryd.prog 13 #[.pointer (some ⟨o, 0, none⟩), .agg (wArg 1 z n A m c s)] w (WrittenTo w B o v bs (bigB z 1)) := by
  unfold wArg
  have ha : Below w.heap.size w (w.alloc (.cells #[.int .i64 1, .int .u64 z, .int .i64 n, .slice A m c, .string s] 32)) := (Below.refl _ _).alloc (Nat.le_refl _) _
  have hbox := Blk.new w 32 #[.int .i64 1, .int .u64 z, .int .i64 n, .slice A m c, .string s]
  have hw := h.below ha
  have hoff := box_off h (Nat.le_refl _)
  have hBW : B ≤ (w.alloc (.cells #[.int .i64 1, .int .u64 z, .int .i64 n, .slice A m c, .string s] 32)).heap.size := Nat.le_trans hB ha.size
  have b0 := hbox.cell 0
  have b1 := hbox.cell 1
  simp only [List.getElem?_toArray, List.getElem?_cons_zero, List.getElem?_cons_succ] at b0 b1
  have hwr : IntKind.u8.wrap (z : Int) = ((z % 256 : Nat) : Int) := by rw [IntKind.wrap_u8]; omega
  have HWA := Lib.hid hw; have HA := Lib.hid ha; have HBX := Lib.hid hbox; have HOFF := Lib.hid hoff; have HZ := Lib.hid hz
  clear h ha hbox hw hoff hz
  go_enter Tryd.func13, Tryd.ntmps13
  go_wp2_with fail
  generalize w.alloc (.cells #[.int .i64 1, .int .u64 z, .int .i64 n, .slice A m c, .string s] 32) = W at *
  refine (wu8 HWA.out hBW (z % 256) (by have := HZ.out; omega) (by omega)).mono ?_
  rintro e w1 ⟨rfl, ht⟩
  rw [show z % 256 = z % 256 ^ 1 from rfl, bigB_mod] at ht
  have hbx1 : Blk w1 w.heap.size 32 #[.int .i64 1, .int .u64 z, .int .i64 n, .slice A m c, .string s] := by
    obtain ⟨_, _, _, hk⟩ := ht
    exact hk.blk HBX.out HOFF.out
  have c1 := hbx1.cell 1
  simp only [List.getElem?_toArray, List.getElem?_cons_zero, List.getElem?_cons_succ] at c1
  have HT := Lib.hid ht
  have hs1 : w.heap.size ≤ w1.heap.size := by
    obtain ⟨_, _, _, hk⟩ := ht
    exact Nat.le_trans HA.out.size hk.size
  clear hbx1 ht b0 b1
  go_wp2_with fail
  refine (big_any z 1 w1 (by omega) HZ.out).mono ?_
  rintro e w2 ⟨rfl, hblk, hb2⟩
  have hrow := row_more (big_row hblk (Nat.le_refl _) (by omega)) hs1
  have ht2 := (WTo.after HA.out HT.out).thenB hb2
  have HR := Lib.hid hrow; have HT2 := Lib.hid ht2
  clear hblk hrow ht2
  go_wp2
  go_ret2
  exact ⟨_, rfl, HR.out, HT2.out⟩
set_option maxRecDepth 20000 in
set_option maxHeartbeats 4000000 in
theorem written2 (h : IsW w B o bs v) (hB : B ≤ w.heap.size) (z : Nat) (hz : z < 18446744073709551616) (n : Int) (A : Option Addr) (m c : Nat) (s : ByteArray) (hl : bs.length ≤ 140737486258176) :
    Calls Tryd.prog 13 #[.pointer (some ⟨o, 0, none⟩), .agg (wArg 2 z n A m c s)] w (WrittenTo w B o v bs (bigB z 2)) := by
  unfold wArg
  have ha : Below w.heap.size w (w.alloc (.cells #[.int .i64 2, .int .u64 z, .int .i64 n, .slice A m c, .string s] 32)) := (Below.refl _ _).alloc (Nat.le_refl _) _
  have hbox := Blk.new w 32 #[.int .i64 2, .int .u64 z, .int .i64 n, .slice A m c, .string s]
  have hw := h.below ha
  have hoff := box_off h (Nat.le_refl _)
  have hBW : B ≤ (w.alloc (.cells #[.int .i64 2, .int .u64 z, .int .i64 n, .slice A m c, .string s] 32)).heap.size := Nat.le_trans hB ha.size
  have b0 := hbox.cell 0
  have b1 := hbox.cell 1
  simp only [List.getElem?_toArray, List.getElem?_cons_zero, List.getElem?_cons_succ] at b0 b1
  have hwr : IntKind.u16.wrap (z : Int) = ((z % 65536 : Nat) : Int) := by rw [IntKind.wrap_u16]; omega
  have HWA := Lib.hid hw; have HA := Lib.hid ha; have HBX := Lib.hid hbox; have HOFF := Lib.hid hoff; have HZ := Lib.hid hz
  clear h ha hbox hw hoff hz
  go_enter Tryd.func13, Tryd.ntmps13
  go_wp2_with fail
  generalize w.alloc (.cells #[.int .i64 2, .int .u64 z, .int .i64 n, .slice A m c, .string s] 32) = W at *
  refine (wu16 HWA.out hBW (z % 65536) (by have := HZ.out; omega) (by omega)).mono ?_
  rintro e w1 ⟨rfl, ht⟩
  rw [show z % 65536 = z % 256 ^ 2 from rfl, bigB_mod] at ht
  have hbx1 : Blk w1 w.heap.size 32 #[.int .i64 2, .int .u64 z, .int .i64 n, .slice A m c, .string s] := by
    obtain ⟨_, _, _, hk⟩ := ht
    exact hk.blk HBX.out HOFF.out
  have c1 := hbx1.cell 1
  simp only [List.getElem?_toArray, List.getElem?_cons_zero, List.getElem?_cons_succ] at c1
  have HT := Lib.hid ht
  have hs1 : w.heap.size ≤ w1.heap.size := by
    obtain ⟨_, _, _, hk⟩ := ht
    exact Nat.le_trans HA.out.size hk.size
  clear hbx1 ht b0 b1
  go_wp2_with fail
  refine (big_any z 2 w1 (by omega) HZ.out).mono ?_
  rintro e w2 ⟨rfl, hblk, hb2⟩
  have hrow := row_more (big_row hblk (Nat.le_refl _) (by omega)) hs1
  have ht2 := (WTo.after HA.out HT.out).thenB hb2
  have HR := Lib.hid hrow; have HT2 := Lib.hid ht2
  clear hblk hrow ht2
  go_wp2
  go_ret2
  exact ⟨_, rfl, HR.out, HT2.out⟩
set_option maxRecDepth 20000 in
set_option maxHeartbeats 4000000 in
theorem written3 (h : IsW w B o bs v) (hB : B ≤ w.heap.size) (z : Nat) (hz : z < 18446744073709551616) (n : Int) (A : Option Addr) (m c : Nat) (s : ByteArray) (hl : bs.length ≤ 140737486258176) :
    Calls Tryd.prog 13 #[.pointer (some ⟨o, 0, none⟩), .agg (wArg 3 z n A m c s)] w (WrittenTo w B o v bs (bigB z 4)) := by
  unfold wArg
  have ha : Below w.heap.size w (w.alloc (.cells #[.int .i64 3, .int .u64 z, .int .i64 n, .slice A m c, .string s] 32)) := (Below.refl _ _).alloc (Nat.le_refl _) _
  have hbox := Blk.new w 32 #[.int .i64 3, .int .u64 z, .int .i64 n, .slice A m c, .string s]
  have hw := h.below ha
  have hoff := box_off h (Nat.le_refl _)
  have hBW : B ≤ (w.alloc (.cells #[.int .i64 3, .int .u64 z, .int .i64 n, .slice A m c, .string s] 32)).heap.size := Nat.le_trans hB ha.size
  have b0 := hbox.cell 0
  have b1 := hbox.cell 1
  simp only [List.getElem?_toArray, List.getElem?_cons_zero, List.getElem?_cons_succ] at b0 b1
  have hwr : IntKind.u32.wrap (z : Int) = ((z % 4294967296 : Nat) : Int) := by rw [IntKind.wrap_u32]; omega
  have HWA := Lib.hid hw; have HA := Lib.hid ha; have HBX := Lib.hid hbox; have HOFF := Lib.hid hoff; have HZ := Lib.hid hz
  clear h ha hbox hw hoff hz
  go_enter Tryd.func13, Tryd.ntmps13
  go_wp2_with fail
  generalize w.alloc (.cells #[.int .i64 3, .int .u64 z, .int .i64 n, .slice A m c, .string s] 32) = W at *
  refine (wu32 HWA.out hBW (z % 4294967296) (by have := HZ.out; omega) (by omega)).mono ?_
  rintro e w1 ⟨rfl, ht⟩
  rw [show z % 4294967296 = z % 256 ^ 4 from rfl, bigB_mod] at ht
  have hbx1 : Blk w1 w.heap.size 32 #[.int .i64 3, .int .u64 z, .int .i64 n, .slice A m c, .string s] := by
    obtain ⟨_, _, _, hk⟩ := ht
    exact hk.blk HBX.out HOFF.out
  have c1 := hbx1.cell 1
  simp only [List.getElem?_toArray, List.getElem?_cons_zero, List.getElem?_cons_succ] at c1
  have HT := Lib.hid ht
  have hs1 : w.heap.size ≤ w1.heap.size := by
    obtain ⟨_, _, _, hk⟩ := ht
    exact Nat.le_trans HA.out.size hk.size
  clear hbx1 ht b0 b1
  go_wp2_with fail
  refine (big_any z 4 w1 (by omega) HZ.out).mono ?_
  rintro e w2 ⟨rfl, hblk, hb2⟩
  have hrow := row_more (big_row hblk (Nat.le_refl _) (by omega)) hs1
  have ht2 := (WTo.after HA.out HT.out).thenB hb2
  have HR := Lib.hid hrow; have HT2 := Lib.hid ht2
  clear hblk hrow ht2
  go_wp2
  go_ret2
  exact ⟨_, rfl, HR.out, HT2.out⟩
set_option maxRecDepth 20000 in
set_option maxHeartbeats 4000000 in
theorem written4 (h : IsW w B o bs v) (hB : B ≤ w.heap.size) (z : Nat) (hz : z < 18446744073709551616) (n : Int) (A : Option Addr) (m c : Nat) (s : ByteArray) (hl : bs.length ≤ 140737486258176) :
    Calls Tryd.prog 13 #[.pointer (some ⟨o, 0, none⟩), .agg (wArg 4 z n A m c s)] w (WrittenTo w B o v bs (bigB z 8)) := by
  unfold wArg
  have ha : Below w.heap.size w (w.alloc (.cells #[.int .i64 4, .int .u64 z, .int .i64 n, .slice A m c, .string s] 32)) := (Below.refl _ _).alloc (Nat.le_refl _) _
  have hbox := Blk.new w 32 #[.int .i64 4, .int .u64 z, .int .i64 n, .slice A m c, .string s]
  have hw := h.below ha
  have hoff := box_off h (Nat.le_refl _)
  have hBW : B ≤ (w.alloc (.cells #[.int .i64 4, .int .u64 z, .int .i64 n, .slice A m c, .string s] 32)).heap.size := Nat.le_trans hB ha.size
  have b0 := hbox.cell 0
  have b1 := hbox.cell 1
  simp only [List.getElem?_toArray, List.getElem?_cons_zero, List.getElem?_cons_succ] at b0 b1
  have HWA := Lib.hid hw; have HA := Lib.hid ha; have HBX := Lib.hid hbox; have HOFF := Lib.hid hoff; have HZ := Lib.hid hz
  clear h ha hbox hw hoff hz
  go_enter Tryd.func13, Tryd.ntmps13
  go_wp2_with fail
  generalize w.alloc (.cells #[.int .i64 4, .int .u64 z, .int .i64 n, .slice A m c, .string s] 32) = W at *
  refine (wu64 HWA.out hBW z (by have := HZ.out; omega) (by omega)).mono ?_
  rintro e w1 ⟨rfl, ht⟩
  have hbx1 : Blk w1 w.heap.size 32 #[.int .i64 4, .int .u64 z, .int .i64 n, .slice A m c, .string s] := by
    obtain ⟨_, _, _, hk⟩ := ht
    exact hk.blk HBX.out HOFF.out
  have c1 := hbx1.cell 1
  simp only [List.getElem?_toArray, List.getElem?_cons_zero, List.getElem?_cons_succ] at c1
  have HT := Lib.hid ht
  have hs1 : w.heap.size ≤ w1.heap.size := by
    obtain ⟨_, _, _, hk⟩ := ht
    exact Nat.le_trans HA.out.size hk.size
  clear hbx1 ht b0 b1
  go_wp2_with fail
  refine (big_any z 8 w1 (by omega) HZ.out).mono ?_
  rintro e w2 ⟨rfl, hblk, hb2⟩
  have hrow := row_more (big_row hblk (Nat.le_refl _) (by omega)) hs1
  have ht2 := (WTo.after HA.out HT.out).thenB hb2
  have HR := Lib.hid hrow; have HT2 := Lib.hid ht2
  clear hblk hrow ht2
  go_wp2
  go_ret2
  exact ⟨_, rfl, HR.out, HT2.out⟩
theorem lent_take (l : List Nat) (m : Nat) (h : l.length = m) : (lent l 70).toList.take (m * 1) = l.map byt := by
  unfold lent
  simp only [List.append_assoc, Nat.mul_one]
  rw [List.take_append_of_le_length (by rw [List.length_map]; omega), List.take_of_length_le (by rw [List.length_map]; omega)]
set_option maxRecDepth 20000 in
set_option maxHeartbeats 4000000 in
theorem written5 (h : IsW w B o bs v) (hB : B ≤ w.heap.size) (z : Nat) (n : Int) (A : Option Addr) (m c C : Nat) (l : List Nat) (s : ByteArray) (hr : Reads w C 1 A m (l.map byt)) (hC : C ≤ B) (hlb : ∀ x ∈ l, x < 256) (hm : m ≤ 140737488351232) (hl : bs.length + m ≤ 140737488355328) :
    Calls Tryd.prog 13 #[.pointer (some ⟨o, 0, none⟩), .agg (wArg 5 z n A m c s)] w (WrittenTo w B o v bs l) := by
  unfold wArg
  have hln : l.length = m := by have := hr.1; simpa using this
  have ha : Below w.heap.size w (w.alloc (.cells #[.int .i64 5, .int .u64 z, .int .i64 n, .slice A m c, .string s] 32)) := (Below.refl _ _).alloc (Nat.le_refl _) _
  have hbox := Blk.new w 32 #[.int .i64 5, .int .u64 z, .int .i64 n, .slice A m c, .string s]
  have hw := h.below ha
  have hsz : (w.alloc (.cells #[.int .i64 5, .int .u64 z, .int .i64 n, .slice A m c, .string s] 32)).heap.size = w.heap.size + 1 := World.size_alloc _ _
  have hrW := hr.below (ha.mono (Nat.le_trans hC hB))
  have hlt := h.lt
  have b0 := hbox.cell 0
  have b3 := hbox.cell 3
  simp only [List.getElem?_toArray, List.getElem?_cons_zero, List.getElem?_cons_succ] at b0 b3
  have HWA := Lib.hid hw; have HA := Lib.hid ha; have HBX := Lib.hid hbox; have HRW := Lib.hid hrW; have HLN := Lib.hid hln; have HLB := Lib.hid hlb; have HLT := Lib.hid hlt; have HSZ := Lib.hid hsz
  clear h ha hbox hw hr hrW hln hlb hlt hsz
  go_enter Tryd.func13, Tryd.ntmps13
  go_wp2_with fail
  generalize w.alloc (.cells #[.int .i64 5, .int .u64 z, .int .i64 n, .slice A m c, .string s] 32) = W at *
  have hsW := HSZ.out
  refine (lend_any A m c l C W HRW.out (by omega) hm).mono ?_
  rintro e w1 ⟨rfl, hblk, hb1⟩
  obtain ⟨g, hg⟩ : ∃ g, W.heap.size = g := ⟨_, rfl⟩
  rw [hg] at hblk hb1 ⊢
  have hs1 := hb1.size
  have hw1 := HWA.out.below (by rw [hg]; exact hb1)
  have hbx1 := HBX.out.below hb1 (by omega)
  have hg1 : g < w1.heap.size := hblk.lt
  have hraw := wraw hw1 (by omega) (some ⟨g, 0, none⟩) m (m + 70) w1.heap.size l (by
    have := Reads.of_blk hblk (B := w1.heap.size) (n := m) (size := 1) hg1 (by rw [lent_size l (by omega), HLN.out]; omega)
    rwa [lent_take l m HLN.out] at this) hl
  have hgv : g ∉ FW o v := fun hm' => by have := (HLT.out g hm').2; omega
  have hxv : w.heap.size ∉ FW o v := fun hm' => by have := (HLT.out _ hm').2; omega
  have HRAW := Lib.hid hraw; have HB1 := Lib.hid hb1; have HK := Lib.hid hblk; have HBX1 := Lib.hid hbx1; have HGV := Lib.hid hgv; have HXV := Lib.hid hxv
  clear hraw hb1 hblk hbx1 hw1 b0 b3 hgv hxv
  go_wp2_with fail
  refine HRAW.out.mono ?_
  rintro e w2 ⟨rfl, v2, hw2, hf2, hk2⟩
  have hblk2 := hk2.blk HK.out HGV.out
  have hbx2 := hk2.blk HBX1.out HXV.out
  have hk02 : Keeps (FW o v) w w2 := by
    have k0 : Keeps (FW o v) w W := ⟨HA.out.os, HA.out.tape, HA.out.output, HA.out.size, fun k hk _ => HA.out.block k hk⟩
    have k1 : Keeps (FW o v) W w1 := ⟨HB1.out.os, HB1.out.tape, HB1.out.output, by omega, fun k hk _ => HB1.out.block k (by omega)⟩
    exact (k0.trans k1 (fun x hx => .inl hx)).trans hk2 (fun x hx => .inl hx)
  have hr2 : Reads w2 C 1 A m (l.map byt) := by
    have hbC : Below C W w2 := by
      have k1 : Keeps (FW o v) W w1 := ⟨HB1.out.os, HB1.out.tape, HB1.out.output, by omega, fun k hk _ => HB1.out.block k (by omega)⟩
      exact (k1.trans hk2 (fun x hx => .inl hx)).below (fun x hx => by have := (HLT.out x hx).1; omega) (by omega)
    exact HRW.out.below hbC
  have hg2 : g ∉ FW o v2 := fun hm' => by
    rcases hf2 g hm' with hx | hx
    · exact HGV.out hx
    · omega
  have hf2' : ∀ x ∈ FW o v2, x ∈ FW o v ∨ w.heap.size ≤ x := fun x hx => (hf2 x hx).imp id (fun h => by omega)
  have d3 := hbx2.cell 3
  simp only [List.getElem?_toArray, List.getElem?_cons_zero, List.getElem?_cons_succ] at d3
  have hs2 := hk2.size
  have HW2 := Lib.hid hw2; have HF2 := Lib.hid hf2'; have HK02 := Lib.hid hk02; have HK2 := Lib.hid hblk2; have HBX2 := Lib.hid hbx2; have HR2 := Lib.hid hr2; have HG2 := Lib.hid hg2
  clear hw2 hf2 hf2' hk02 hk2 hblk2 hbx2 hr2 hg2 HRAW HB1 HK HBX1
  go_wp2_with fail
  refine (kept_any g c A m l C w2 HK2.out HR2.out hm).mono ?_
  rintro e w3 ⟨rfl, q, rfl⟩
  obtain ⟨w3, hw3⟩ : ∃ w3, w2.drewN q = w3 := ⟨_, rfl⟩
  have HK3 : Hid (Blk w3 g 5 (lent l 70)) := by rw [← hw3]; exact HK2
  have HBX3 : Hid (Blk w3 w.heap.size 32 #[.int .i64 5, .int .u64 z, .int .i64 n, .slice A m c, .string s]) := by rw [← hw3]; exact HBX2
  have HR3 : Hid (Reads w3 C 1 A m (l.map byt)) := by rw [← hw3]; exact HR2
  have HK03 : Hid (Keeps (FW o v) w w3) := by rw [← hw3]; exact Lib.hid (HK02.out.drewN q)
  have HW3 : Hid (IsW w3 B o (bs ++ l) v2) := by rw [← hw3]; exact Lib.hid (HW2.out.below (below_drewN (Below.refl _ _) q))
  have hs3 : w3.heap.size = w2.heap.size := by rw [← hw3]; rfl
  rw [hw3]
  clear hw3 d3 HK2 HBX2 HR2 HK02 HW2
  go_wp2
  go_loopw [8] (fun iv wr => ∃ (i : Nat) (cur : Array Value), i ≤ m ∧ iv = .int .i64 i ∧ Hid (Blk wr g 5 cur) ∧ Hid (∀ k, k < m → ∃ b : Nat, b < 256 ∧ cur[k]? = some (byt b)) ∧ Keeps [g] w3 wr) (fun iv _ => m - (intOf iv).toNat)
  case atStart =>
    refine ⟨0, _, by omega, rfl, HK3, Lib.hid fun k hk => ?_, Keeps.refl _ _⟩
    have hkl : k < l.length := by have := HLN.out; omega
    refine ⟨l[k], HLB.out _ (List.getElem_mem hkl), ?_⟩
    have e := lent_take l m HLN.out
    have e2 : ((lent l 70).toList.take (m * 1))[k]? = (l.map byt)[k]? := by rw [e]
    rw [List.getElem?_take, if_pos (by omega), List.getElem?_map, List.getElem?_eq_getElem hkl] at e2
    rw [← Array.getElem?_toList, e2]; rfl
  case round =>
    clear HK3
    obtain ⟨i, cur, hi, rfl, hb, hcs, hkw⟩ := hrel
    by_cases hlt : i < m
    · obtain ⟨b, hb256, hcb⟩ := hcs.out i hlt
      have c1 := hb.out.cell i
      rw [hcb] at c1
      unfold byt at c1
      have f1 := hb.out.frozen i
      have hi1 : (i : Int) < (m : Int) := by omega
      have hi0 : (0 : Int) ≤ (i : Int) := by omega
      obtain ⟨y, hy⟩ : ∃ y, (b + 1) % 256 = y := ⟨_, rfl⟩
      have hyw : IntKind.u8.wrap ((b : Int) + 1) = (y : Int) := by rw [IntKind.wrap_u8, ← hy]; omega
      have hb0 : (0 : Int) ≤ (b : Int) := by omega
      have hb' := hb.out.set_ i (byt y)
      have hcs' : ∀ k, k < m → ∃ b : Nat, b < 256 ∧ (cur.setIfInBounds i (byt y))[k]? = some (byt b) := fun k hk => by
        obtain ⟨b2, h1, h2⟩ := hcs.out k hk
        by_cases e : i = k
        · subst e
          exact ⟨y, by omega, by rw [Array.getElem?_setIfInBounds_self_of_lt (by have := (Array.getElem?_eq_some_iff.1 h2).1; exact this)]⟩
        · exact ⟨b2, h1, by rw [Array.getElem?_setIfInBounds_ne e]; exact h2⟩
      have hk' := hkw.setCell (p := ⟨g, i, none⟩) (.inl (by simp)) (byt y)
      have HB' := Lib.hid hb'; have HC' := Lib.hid hcs'; have HK' := Lib.hid hk'
      clear hb hcs hb' hcs' hk' hcb hy hb256
      unfold byt at HB' HC' HK'
      go_wp2
      exact ⟨⟨i + 1, _, by omega, by go_num, HB', HC', HK'.out⟩, by simp [intOf]; omega⟩
    · obtain rfl : i = m := by omega
      have hni : ¬ ((i : Int) < (i : Int)) := by omega
      have hbx := hkw.blk HBX3.out (by simp; omega)
      have c3 := hbx.cell 3
      simp only [List.getElem?_toArray, List.getElem?_cons_zero, List.getElem?_cons_succ] at c3
      have hrr : Reads wr C 1 A i (l.map byt) := HR3.out.below (hkw.below (fun x hx => by rw [List.mem_singleton.1 hx]; omega) (by omega))
      have hwr := HW3.out.keeps hkw (fun x hx hm' => by rw [List.mem_singleton.1 hm'] at hx; exact HG2.out hx)
      have hkk : Keeps (FW o v) w wr := HK03.out.trans hkw (fun x hx => .inr (by rw [List.mem_singleton.1 hx]; omega))
      have HRR := Lib.hid hrr; have HWR := Lib.hid hwr; have HKK := Lib.hid hkk
      have hsr := hkw.size
      clear hb hcs hbx hrr hwr hkk HBX3 HR3 HW3 HK03
      go_wp2_with fail
      refine (copy_any A i c l C wr HRR.out (by omega)).mono ?_
      rintro e w5 ⟨u, rfl, hown, hb5⟩
      have hrow : w5.ownsRow w.heap.size 5 1 u l.length (l.map byt) := by rw [HLN.out]; exact row_more hown (by omega)
      have ht : WTo w w5 B o v (bs ++ l) := WTo.thenB ⟨v2, HWR.out, HF2.out, HKK.out⟩ hb5
      have HRO := Lib.hid hrow; have HT := Lib.hid ht
      clear hown hrow ht
      go_wp2
      go_ret2
      exact ⟨_, rfl, HRO.out, HT.out⟩
set_option maxRecDepth 20000 in
set_option maxHeartbeats 4000000 in
theorem written6 (h : IsW w B o bs v) (hB : B ≤ w.heap.size) (z : Nat) (n : Int) (A : Option Addr) (m c : Nat) (s : ByteArray) (hl : bs.length ≤ 140737486258176) :
    Calls Tryd.prog 13 #[.pointer (some ⟨o, 0, none⟩), .agg (wArg 6 z n A m c s)] w (WrittenTo w B o v bs (zBytes n)) := by
  unfold wArg
  have ha : Below w.heap.size w (w.alloc (.cells #[.int .i64 6, .int .u64 z, .int .i64 n, .slice A m c, .string s] 32)) := (Below.refl _ _).alloc (Nat.le_refl _) _
  have hbox := Blk.new w 32 #[.int .i64 6, .int .u64 z, .int .i64 n, .slice A m c, .string s]
  have hw := h.below ha
  have hoff := box_off h (Nat.le_refl _)
  have hBW : B ≤ (w.alloc (.cells #[.int .i64 6, .int .u64 z, .int .i64 n, .slice A m c, .string s] 32)).heap.size := Nat.le_trans hB ha.size
  have b0 := hbox.cell 0
  have b1 := hbox.cell 2
  simp only [List.getElem?_toArray, List.getElem?_cons_zero, List.getElem?_cons_succ] at b0 b1
  have HWA := Lib.hid hw; have HA := Lib.hid ha; have HBX := Lib.hid hbox; have HOFF := Lib.hid hoff
  clear h ha hbox hw hoff
  go_enter Tryd.func13, Tryd.ntmps13
  go_wp2_with fail
  generalize w.alloc (.cells #[.int .i64 6, .int .u64 z, .int .i64 n, .slice A m c, .string s] 32) = W at *
  refine (wzeros HWA.out hBW n (by omega)).mono ?_
  rintro e w1 ⟨rfl, ht⟩
  have hbx1 : Blk w1 w.heap.size 32 #[.int .i64 6, .int .u64 z, .int .i64 n, .slice A m c, .string s] := by
    obtain ⟨_, _, _, hk⟩ := ht
    exact hk.blk HBX.out HOFF.out
  have c1 := hbx1.cell 2
  simp only [List.getElem?_toArray, List.getElem?_cons_zero, List.getElem?_cons_succ] at c1
  have HT := Lib.hid ht
  have hs1 : w.heap.size ≤ w1.heap.size := by
    obtain ⟨_, _, _, hk⟩ := ht
    exact Nat.le_trans HA.out.size hk.size
  clear hbx1 ht b0 b1
  go_wp2_with fail
  refine (rzeros n w1).mono ?_
  rintro e w2 ⟨u, rfl, hr, hb2⟩
  have hrow := row_more hr hs1
  have ht2 := (WTo.after HA.out HT.out).thenB hb2
  have HR := Lib.hid hrow; have HT2 := Lib.hid ht2
  have hbe : (zErr n == zErr n) = true := by simp
  clear hr hrow ht2
  go_wp2
  go_ret2
  exact ⟨_, rfl, HR.out, HT2.out⟩
set_option maxRecDepth 20000 in
set_option maxHeartbeats 4000000 in
theorem written7 (h : IsW w B o bs v) (hB : B ≤ w.heap.size) (z : Nat) (n : Int) (A : Option Addr) (m c : Nat) (s : ByteArray) (hs : s.size ≤ maxLen) (hT : Lib.Utf8Tabs 0 1 w) (h2 : 2 ≤ B) (hl : bs.length ≤ 140737486258176) :
    Calls Tryd.prog 13 #[.pointer (some ⟨o, 0, none⟩), .agg (wArg 7 z n A m c s)] w (WrittenTo w B o v bs (tBytes s)) := by
  unfold wArg
  have ha : Below w.heap.size w (w.alloc (.cells #[.int .i64 7, .int .u64 z, .int .i64 n, .slice A m c, .string s] 32)) := (Below.refl _ _).alloc (Nat.le_refl _) _
  have hbox := Blk.new w 32 #[.int .i64 7, .int .u64 z, .int .i64 n, .slice A m c, .string s]
  have hw := h.below ha
  have hoff := box_off h (Nat.le_refl _)
  have hBW : B ≤ (w.alloc (.cells #[.int .i64 7, .int .u64 z, .int .i64 n, .slice A m c, .string s] 32)).heap.size := Nat.le_trans hB ha.size
  have b0 := hbox.cell 0
  have b1 := hbox.cell 4
  simp only [List.getElem?_toArray, List.getElem?_cons_zero, List.getElem?_cons_succ] at b0 b1
  have HTW := Lib.hid (tabs_low hT (ha.mono hB) h2)
  clear hT
  have HWA := Lib.hid hw; have HA := Lib.hid ha; have HBX := Lib.hid hbox; have HOFF := Lib.hid hoff
  clear h ha hbox hw hoff
  go_enter Tryd.func13, Tryd.ntmps13
  go_wp2_with fail
  generalize w.alloc (.cells #[.int .i64 7, .int .u64 z, .int .i64 n, .slice A m c, .string s] 32) = W at *
  refine (wtext HWA.out hBW s hs HTW.out (by omega)).mono ?_
  rintro e w1 ⟨rfl, ht⟩
  have hbx1 : Blk w1 w.heap.size 32 #[.int .i64 7, .int .u64 z, .int .i64 n, .slice A m c, .string s] := by
    obtain ⟨_, _, _, hk⟩ := ht
    exact hk.blk HBX.out HOFF.out
  have c1 := hbx1.cell 4
  simp only [List.getElem?_toArray, List.getElem?_cons_zero, List.getElem?_cons_succ] at c1
  have HT := Lib.hid ht
  have hs1 : w.heap.size ≤ w1.heap.size := by
    obtain ⟨_, _, _, hk⟩ := ht
    exact Nat.le_trans HA.out.size hk.size
  clear hbx1 ht b0 b1
  go_wp2_with fail
  refine (rtext s w1 hs).mono ?_
  rintro e w2 ⟨u, rfl, hr, hb2⟩
  have hrow := row_more hr hs1
  have ht2 := (WTo.after HA.out HT.out).thenB hb2
  have HR := Lib.hid hrow; have HT2 := Lib.hid ht2
  have hbe : (tErr s == tErr s) = true := by simp
  clear hr hrow ht2
  go_wp2
  go_ret2
  exact ⟨_, rfl, HR.out, HT2.out⟩
set_option maxRecDepth 20000 in
set_option maxHeartbeats 4000000 in
theorem writtenNone (h : IsW w B o bs v) (z : Nat) (n j : Int) (A : Option Addr) (m c : Nat) (s : ByteArray) (h1 : j ≠ 1) (h2 : j ≠ 2) (h3 : j ≠ 3) (h4 : j ≠ 4) (h5 : j ≠ 5) (h6 : j ≠ 6) (h7 : j ≠ 7) :
    Calls Tryd.prog 13 #[.pointer (some ⟨o, 0, none⟩), .agg (wArg j z n A m c s)] w (WrittenTo w B o v bs []) := by
  unfold wArg
  have ha : Below w.heap.size w (w.alloc (.cells #[.int .i64 j, .int .u64 z, .int .i64 n, .slice A m c, .string s] 32)) := (Below.refl _ _).alloc (Nat.le_refl _) _
  have hbox := Blk.new w 32 #[.int .i64 j, .int .u64 z, .int .i64 n, .slice A m c, .string s]
  have b0 := hbox.cell 0
  simp only [List.getElem?_toArray, List.getElem?_cons_zero] at b0
  have d1 : (j == 1) = false := by simp [h1]
  have d2 : (j == 2) = false := by simp [h2]
  have d3 : (j == 3) = false := by simp [h3]
  have d4 : (j == 4) = false := by simp [h4]
  have d5 : (j == 5) = false := by simp [h5]
  have d6 : (j == 6) = false := by simp [h6]
  have d7 : (j == 7) = false := by simp [h7]
  have ht : WTo w (w.alloc (.cells #[.int .i64 j, .int .u64 z, .int .i64 n, .slice A m c, .string s] 32)) B o v (bs ++ []) := by
    rw [List.append_nil]; exact (WTo.refl h).thenB ha
  have HT := Lib.hid ht
  clear h ha hbox ht h1 h2 h3 h4 h5 h6 h7
  go_enter Tryd.func13, Tryd.ntmps13
  go_wp2
  go_ret2
  exact ⟨_, rfl, ⟨rfl, .inl ⟨rfl, rfl⟩⟩, HT.out⟩
/-- Any call. -/
theorem written_any (h : IsW w B o bs v) (hB : B ≤ w.heap.size) (z : Nat) (hz : z < 18446744073709551616) (n j : Int) (A : Option Addr) (m c C : Nat) (l : List Nat) (s : ByteArray) (hr : Reads w C 1 A m (l.map byt)) (hC : C ≤ B) (hlb : ∀ x ∈ l, x < 256) (hm : m ≤ 1048576)
    (hs : s.size ≤ maxLen) (hT : Lib.Utf8Tabs 0 1 w) (h2 : 2 ≤ B) (hl : bs.length ≤ 140737486258176) :
    Calls Tryd.prog 13 #[.pointer (some ⟨o, 0, none⟩), .agg (wArg j z n A m c s)] w (WrittenTo w B o v bs (wBytes j z n l s)) := by
  unfold wBytes
  by_cases e1 : j = 1
  · subst e1; rw [if_pos rfl]; exact written1 h hB z hz n A m c s hl
  rw [if_neg e1]
  by_cases e2 : j = 2
  · subst e2; rw [if_pos rfl]; exact written2 h hB z hz n A m c s hl
  rw [if_neg e2]
  by_cases e3 : j = 3
  · subst e3; rw [if_pos rfl]; exact written3 h hB z hz n A m c s hl
  rw [if_neg e3]
  by_cases e4 : j = 4
  · subst e4; rw [if_pos rfl]; exact written4 h hB z hz n A m c s hl
  rw [if_neg e4]
  by_cases e5 : j = 5
  · subst e5; rw [if_pos rfl]; exact written5 h hB z n A m c C l s hr hC hlb (by omega) (by omega)
  rw [if_neg e5]
  by_cases e6 : j = 6
  · subst e6; rw [if_pos rfl]; exact written6 h hB z n A m c s hl
  rw [if_neg e6]
  by_cases e7 : j = 7
  · subst e7; rw [if_pos rfl]; exact written7 h hB z n A m c s hs hT h2 hl
  rw [if_neg e7]
  exact writtenNone h z n j A m c s e1 e2 e3 e4 e5 e6 e7
theorem wBytes_lt (j : Int) (z : Nat) (n : Int) (l : List Nat) (s : ByteArray) (hl : ∀ x ∈ l, x < 256) : ∀ x ∈ wBytes j z n l s, x < 256 := by
  intro x hx
  unfold wBytes at hx
  split at hx
  · exact bigB_lt _ _ x hx
  split at hx
  · exact bigB_lt _ _ x hx
  split at hx
  · exact bigB_lt _ _ x hx
  split at hx
  · exact bigB_lt _ _ x hx
  split at hx
  · exact hl x hx
  split at hx
  · unfold zBytes at hx
    split at hx
    · rw [List.eq_of_mem_replicate hx]; omega
    · cases hx
  split at hx
  · unfold tBytes at hx
    split at hx
    · rcases List.mem_append.1 hx with hx | hx
      · exact bigB_lt _ _ x hx
      · exact sNat_lt s x hx
    · cases hx
  · cases hx
theorem wBytes_len (j : Int) (z : Nat) (n : Int) (l : List Nat) (s : ByteArray) : (wBytes j z n l s).length ≤ 2097152 + l.length := by
  unfold wBytes
  split
  · rw [bigB_length]; omega
  split
  · rw [bigB_length]; omega
  split
  · rw [bigB_length]; omega
  split
  · rw [bigB_length]; omega
  split
  · omega
  split
  · unfold zBytes
    split
    · rw [List.length_replicate]; omega
    · simp
  split
  · unfold tBytes
    split
    · rename_i h
      have : s.size ≤ 4096 := by
        unfold tErr at h
        split at h
        · split at h
          · cases h
          · omega
        · cases h
      rw [List.length_append, bigB_length, sNat_length]; omega
    · simp
  · simp
end
end Go.Proofs.YtiajmngjhbckjaaDoor

