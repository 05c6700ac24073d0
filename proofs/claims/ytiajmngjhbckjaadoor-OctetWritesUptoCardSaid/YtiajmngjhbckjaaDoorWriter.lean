/- The writer: what it is, and what its methods do. -/
import Derived.Test.YtiajmngjhbckjaaDoorSame
import Derived.Test.YtiajmngjhbckjaaDoorBytes
import Derived.Test.YtiajmngjhbckjaaDoorKeeps
import Derived.Test.YtiajmngjhbckjaaDoorKeep
import Derived.WalkKit
import Derived.ProofKit
import Derived.LoopTactic
import Derived.Lib.Hide
import Derived.Outline
import Derived.Deep.RegionLaw
import Derived.IntWalk
namespace Go.Proofs.YtiajmngjhbckjaaDoor
open Go.RowKit
structure IsW (w : World) (B o : Nat) (bs : List Nat) (v : Value) : Prop where
  blk : Blk w o 76 #[.bool true, v]
  row : w.ownsRow B 5 1 v bs.length (bs.map byt)
  base : B ≤ o
/-- The writer's own blocks. -/
def FW (o : Nat) (v : Value) : List Nat := o :: v.ownBlock.toList
theorem mem_fw {o g : Nat} {v : Value} (h : v.ownBlock = some g) : g ∈ FW o v := by unfold FW; rw [h]; simp
theorem own_slice {w : World} {base : Nat} {e : TypeId} {size n : Nat} {v : Value} {xs : List Value} (h : w.ownsRow base e size v n xs) : ∃ (A : Option Addr) (c : Nat), v = .slice A n c := by
  rcases h.2 with ⟨rfl, rfl⟩ | ⟨g, cap, cur, rfl, _⟩
  · exact ⟨_, _, rfl⟩
  · exact ⟨_, _, rfl⟩
theorem row_more {w : World} {base B : Nat} {e : TypeId} {size n : Nat} {v : Value} {xs : List Value} (h : w.ownsRow base e size v n xs) (hB : B ≤ base) : w.ownsRow B e size v n xs := by
  refine ⟨h.1, ?_⟩
  rcases h.2 with h2 | ⟨g, cap, cur, hv, hg, r⟩
  · exact .inl h2
  · exact .inr ⟨g, cap, cur, hv, Nat.le_trans hB hg, r⟩
theorem lt_of_blk {w : World} {g : Nat} {x : Obj} (h : w.heap[g]? = some x) : g < w.heap.size := by
  rcases Nat.lt_or_ge g w.heap.size with h' | h'
  · exact h'
  · rw [Array.getElem?_eq_none h'] at h; cases h
section
variable {w w' : World} {B o : Nat} {bs : List Nat} {v : Value}
theorem IsW.keeps {F : List Nat} (h : IsW w B o bs v) (hk : Keeps F w w') (hd : ∀ x ∈ FW o v, x ∉ F) : IsW w' B o bs v := by
  refine ⟨hk.blk h.blk (hd o (by unfold FW; simp)), ⟨h.row.1, ?_⟩, h.base⟩
  rcases h.row.2 with h2 | ⟨g, cap, cur, e, hg, hh, r⟩
  · exact .inl h2
  · exact .inr ⟨g, cap, cur, e, hg, (hk.block g (lt_of_blk hh) (hd g (mem_fw (by rw [e]; rfl)))).trans hh, r⟩
theorem IsW.below (h : IsW w B o bs v) (hb : Below w.heap.size w w') : IsW w' B o bs v :=
  h.keeps (F := []) ⟨hb.os, hb.tape, hb.output, hb.size, fun k hk _ => hb.block k hk⟩ (fun _ _ => by simp)
theorem IsW.lt (h : IsW w B o bs v) : ∀ x ∈ FW o v, B ≤ x ∧ x < w.heap.size := by
  intro x hx
  unfold FW at hx
  rcases List.mem_cons.1 hx with rfl | hx
  · exact ⟨h.base, h.blk.lt⟩
  · exact h.row.lt x (by simpa using hx)
end
/-- What a change of the writer leaves. -/
def WTo (w w' : World) (B o : Nat) (v : Value) (bs' : List Nat) : Prop :=
  ∃ v', IsW w' B o bs' v' ∧ (∀ x ∈ FW o v', x ∈ FW o v ∨ w.heap.size ≤ x) ∧ Keeps (FW o v) w w'
theorem IsW.put {w : World} {B base o : Nat} {v0 v' : Value} {bs' : List Nat} (hb : Blk w o 76 #[.bool true, v0]) (hr : w.ownsRow base 5 1 v' bs'.length (bs'.map byt)) (hB : B ≤ base) (hd : B ≤ o) :
    IsW (w.setCell ⟨o, 1, none⟩ v') B o bs' v' :=
  ⟨hb.set_ 1 v', (row_more hr hB).kept (row := some o) ⟨rfl, rfl, rfl, by simp [World.setCell], fun k _ hk => Below.heap_setCell _ _ _ _ (fun e => hk (by rw [e]))⟩ (.inr (own_blk_ne hr hb (by decide))), hd⟩
section
variable {w w' w2 : World} {B o : Nat} {bs : List Nat} {v : Value}
theorem WTo.refl (h : IsW w B o bs v) : WTo w w B o v bs := ⟨v, h, fun _ hx => .inl hx, Keeps.refl _ _⟩
/-- A row appended to, and put into the writer. -/
theorem WTo.appended {w1 w2 : World} {v2 : Value} {bs2 : List Nat} (h : IsW w B o bs v) (h1 : Below w.heap.size w w1) (hr : w2.ownsRow B 5 1 v2 bs2.length (bs2.map byt)) (hg : w1.grownBy w2 v.ownBlock) (hat : v2.ownBlock = v.ownBlock ∨ v2.ownBlock = some w1.heap.size) :
    Blk w2 o 76 #[.bool true, v] ∧ WTo w (w2.setCell ⟨o, 1, none⟩ v2) B o v bs2 := by
  have hblk : Blk w2 o 76 #[.bool true, v] := (h.blk.below h1 h.blk.lt).grown hg (fun e => own_blk_ne h.row h.blk (by decide) e.symm)
  refine ⟨hblk, v2, IsW.put hblk hr (Nat.le_refl _) h.base, ?_, ?_⟩
  · intro x hx
    unfold FW at hx
    rcases List.mem_cons.1 hx with rfl | hx
    · exact .inl (by unfold FW; simp)
    · have hx' : v2.ownBlock = some x := by simpa using hx
      rcases hat with e | e
      · rw [e] at hx'; exact .inl (mem_fw hx')
      · rw [e] at hx'
        have := h1.size
        exact .inr (by have := Option.some.inj hx'; omega)
  · have k1 : Keeps (FW o v) w w1 := ⟨h1.os, h1.tape, h1.output, h1.size, fun k hk _ => h1.block k hk⟩
    exact (k1.trans (Keeps.of_grown hg (fun g hg => mem_fw hg)) (fun x hx => .inl hx)).setCell (p := ⟨o, 1, none⟩) (.inl (by unfold FW; simp)) _
theorem WTo.trans {v1 : Value} {bs2 : List Nat} (hf : ∀ x ∈ FW o v1, x ∈ FW o v ∨ w.heap.size ≤ x) (hk : Keeps (FW o v) w w') (h2 : WTo w' w2 B o v1 bs2) : WTo w w2 B o v bs2 := by
  obtain ⟨v2, a, b, c⟩ := h2
  refine ⟨v2, a, fun x hx => ?_, hk.trans c hf⟩
  rcases b x hx with hx | hx
  · exact hf x hx
  · exact .inr (by have := hk.size; omega)
theorem WTo.below {bs' : List Nat} (h : IsW w B o bs v) (hB : B ≤ w.heap.size) (ht : WTo w w' B o v bs') : Below B w w' := by
  obtain ⟨v', _, _, hk⟩ := ht
  exact hk.below (fun x hx => (h.lt x hx).1) hB
end
section
variable {w : World} {B o : Nat} {bs : List Nat} {v : Value}
theorem walive (h : IsW w B o bs v) : Calls Tryd.prog 53 #[.pointer (some ⟨o, 0, none⟩)] w fun e w' => e = .returned (.bool true) ∧ w = w' := by
  have c0 := h.blk.cell 0
  simp only [List.getElem?_toArray, List.getElem?_cons_zero] at c0
  clear h
  go_enter Tryd.func53, Tryd.ntmps53
  go_wp2
  go_ret
  exact ⟨rfl, rfl⟩
theorem wlen (h : IsW w B o bs v) : Calls Tryd.prog 14 #[.pointer (some ⟨o, 0, none⟩)] w fun e w' => e = .returned (.int .i64 bs.length) ∧ w = w' := by
  have ha := walive h
  have c1 := h.blk.cell 1
  simp only [List.getElem?_toArray, List.getElem?_cons_zero, List.getElem?_cons_succ] at c1
  obtain ⟨A, c, rfl⟩ := own_slice h.row
  clear h
  go_enter Tryd.func14, Tryd.ntmps14
  go_wp2_with fail
  refine ha.mono ?_
  rintro e w1 ⟨rfl, rfl⟩
  go_wp2
  go_ret
  exact ⟨rfl, rfl⟩
theorem newW (w : World) : Calls Tryd.prog 12 #[] w fun e w' => e = .returned (.pointer (some ⟨w.heap.size, 0, none⟩)) ∧ w' = w.alloc (.cells #[.bool true, .slice none 0 0] 76) := by
  go_enter Tryd.func12, Tryd.ntmps12
  go_wp2
  go_ret
  exact ⟨rfl, rfl⟩
set_option maxRecDepth 20000 in
set_option maxHeartbeats 2000000 in
theorem wraw (h : IsW w B o bs v) (hB : B ≤ w.heap.size) (A : Option Addr) (n c C : Nat) (l : List Nat) (hr : Reads w C 1 A n (l.map byt)) (hn : bs.length + n ≤ 140737488355328) :
    Calls Tryd.prog 32 #[.pointer (some ⟨o, 0, none⟩), .slice A n c] w fun e w' => e = .returned (.tuple #[]) ∧ WTo w w' B o v (bs ++ l) := by
  obtain ⟨i0, hi0, hz0, hz1, hz2⟩ := info_parts info5
  have ha := walive h
  have c1 := h.blk.cell 1
  simp only [List.getElem?_toArray, List.getElem?_cons_zero, List.getElem?_cons_succ] at c1
  obtain ⟨A0, c0, rfl⟩ := own_slice h.row
  have HH := Lib.hid h; have HR := Lib.hid hr
  clear h hr
  go_enter Tryd.func32, Tryd.ntmps32
  go_wp2_with fail
  refine ha.mono ?_
  rintro e w1 ⟨rfl, rfl⟩
  go_wp2_with (
    at_builtin
    refine wpList_append_any _ rfl (.tmp 10) (.tmp 11) 26 rfl B 5 i0 _ 1 1 Tryd.underlying26 hi0 hz0 hz1 hz2 rfl (by omega) _ bs.length _ rfl HH.out.row C A n c (l.map byt) rfl HR.out (by intro u hu; obtain ⟨y, _, rfl⟩ := List.mem_map.1 hu; rfl) (by simp only [maxLen]; omega) (by omega) hB ?_
    intro v2 w2 hown hg hat
    have hln : l.length = n := by have := HR.out.1; simpa using this
    have hrow : w2.ownsRow B 5 1 v2 (bs ++ l).length ((bs ++ l).map byt) := by rw [List.length_append, List.map_append, hln]; exact hown
    obtain ⟨A2, c2, rfl⟩ := own_slice hown
    obtain ⟨hb2, ht⟩ := WTo.appended HH.out (Below.refl _ _) hrow hg hat
    have f2 := hb2.frozen 1
    have e2 := hb2.cell 1
    simp only [List.getElem?_toArray, List.getElem?_cons_zero, List.getElem?_cons_succ] at e2
    have HT := Lib.hid ht
    clear hrow hown hg hat hb2 ht)
  go_end0
  exact ⟨rfl, HT.out⟩
set_option maxRecDepth 20000 in
set_option maxHeartbeats 2000000 in
/-- The lowest n bytes of a number, the highest first, are laid down. -/
theorem wnum (h : IsW w B o bs v) (hB : B ≤ w.heap.size) (z n : Nat) (hn : n ≤ 8) (hz : z < 18446744073709551616) (hl : bs.length ≤ 140737488355300) :
    Calls Tryd.prog 60 #[.pointer (some ⟨o, 0, none⟩), .int .u64 z, .int .i64 n] w fun e w' => e = .returned (.tuple #[]) ∧ WTo w w' B o v (bs ++ bigB z n) := by
  obtain ⟨i0, hi0, hz0, hz1, hz2⟩ := info_parts info5
  have ha := walive h
  have HH := Lib.hid h; have HZ := Lib.hid hz; have HL := Lib.hid hl
  clear h hz hl
  go_enter Tryd.func60, Tryd.ntmps60
  go_wp2_with fail
  refine ha.mono ?_
  rintro e w1 ⟨rfl, rfl⟩
  go_wp2
  go_loopw [6] (fun iv wr => ∃ (j : Nat) (v' : Value), j ≤ n ∧ iv = .int .i64 ((n : Int) - 1 - j) ∧ Hid (IsW wr B o (bs ++ (bigB z n).take j) v') ∧ Hid (∀ x ∈ FW o v', x ∈ FW o v ∨ w.heap.size ≤ x) ∧ Keeps (FW o v) w wr) (fun iv _ => (intOf iv + 1).toNat)
  case atStart => exact ⟨0, v, by omega, by go_num, by rw [List.take_zero, List.append_nil]; exact HH, Lib.hid fun x hx => .inl hx, Keeps.refl _ _⟩
  case round =>
    obtain ⟨j, v1, hj, rfl, h1, hf, hk⟩ := hrel
    by_cases hlt : j < n
    · obtain ⟨i, hi⟩ : ∃ i, n - 1 - j = i := ⟨_, rfl⟩
      have e0 : (n : Int) - 1 - j = (i : Int) := by omega
      have hiz : (0 : Int) ≤ (i : Int) := by omega
      have hi7 : (i : Int) ≤ 7 := by omega
      have hi8 : (0 : Int) ≤ 8 * (i : Int) := by omega
      have c1 := h1.out.blk.cell 1
      simp only [List.getElem?_toArray, List.getElem?_cons_zero, List.getElem?_cons_succ] at c1
      obtain ⟨A0, c0, rfl⟩ := own_slice h1.out.row
      rw [e0]
      have hw8 : IntKind.i64.wrap (8 * (i : Int)) = 8 * (i : Int) := IntWalk.i64_in _ (by omega)
      obtain ⟨q, hq⟩ : ∃ q, z / 256 ^ i = q := ⟨_, rfl⟩
      have hsh : (z : Int) / 2 ^ (8 * (i : Int)).toNat = ((q : Nat) : Int) := by
        rw [show (8 * (i : Int)).toNat = 8 * i by omega, ← hq, show (256 : Nat) = 2 ^ 8 from rfl, ← Nat.pow_mul]
        push_cast
        rfl
      have hqb : (q : Int) % 256 = ((q % 256 : Nat) : Int) := by omega
      have htk : (bigB z n).take (j + 1) = (bigB z n).take j ++ [q % 256] := by rw [bigB_take z hlt, hi, hq]
      obtain ⟨y, hy⟩ : ∃ y, q % 256 = y := ⟨_, rfl⟩
      have hyw : IntKind.u8.wrap (q : Int) = (y : Int) := by rw [← hy]; go_num
      rw [hy] at htk hqb
      have hlen : (bs ++ (bigB z n).take j).length ≤ 140737488355310 := by
        rw [List.length_append, List.length_take]; have := HL.out; omega
      obtain ⟨b1, hb1⟩ : ∃ b1, bs ++ (bigB z n).take j = b1 := ⟨_, rfl⟩
      have hb1' : bs ++ (bigB z n).take (j + 1) = b1 ++ [y] := by rw [htk, ← hb1, List.append_assoc]
      rw [hb1] at h1 hlen c1 hf
      have hown := h1.out.row.alloc (.cells #[.int .u8 y] 5)
      have HO := Lib.hid hown; have HB1 := Lib.hid hb1'; have HLE := Lib.hid hlen
      have hks : B ≤ wr.heap.size := Nat.le_trans hB hk.size
      clear hb1 hb1' htk hq hy hown hlen hi
      go_wp2_with fail
      have c1a := (h1.out.blk.alloc (.cells #[.int .u8 y] 5)).cell 1
      simp only [List.getElem?_toArray, List.getElem?_cons_zero, List.getElem?_cons_succ] at c1a
      have hown2 : ((wr.alloc (.cells #[.int .u8 y] 5)).drew).ownsRow B 5 1 (.slice A0 b1.length c0) b1.length (b1.map byt) := HO.out
      have hrd : Reads ((wr.alloc (.cells #[.int .u8 y] 5)).drew) (wr.heap.size + 1) 1 (some ⟨wr.heap.size, 0, none⟩) 1 [.int .u8 y] := Reads.one_new _ _ _
      have hbz : B ≤ ((wr.alloc (.cells #[.int .u8 y] 5)).drew).heap.size := by
        have : ((wr.alloc (.cells #[.int .u8 y] 5)).drew).heap.size = wr.heap.size + 1 := World.size_alloc _ _
        omega
      have hbel : Below wr.heap.size wr ((wr.alloc (.cells #[.int .u8 y] 5)).drew) := ((Below.refl _ _).alloc (Nat.le_refl _) _).drew
      go_region_law (
        refine step_append_any _ rfl (.tmp 20) (.tmp 26) 26 rfl B 5 i0 _ 1 1 Tryd.underlying26 hi0 hz0 hz1 hz2 rfl (by omega) _ b1.length _ rfl hown2 (wr.heap.size + 1) (some ⟨wr.heap.size, 0, none⟩) 1 1 [.int .u8 y] rfl hrd (by intro u hu; rw [List.mem_singleton.1 hu]; rfl) (by have := HLE.out; simp only [maxLen]; omega) (by have := HLE.out; omega) hbz ?_
        intro v2 w2 hown3 hg3 hat3
        have hrow3 : w2.ownsRow B 5 1 v2 (b1 ++ [y]).length ((b1 ++ [y]).map byt) := by rw [List.length_append, List.map_append]; exact hown3
        obtain ⟨A2, c2, rfl⟩ := own_slice hown3
        obtain ⟨hb2, ht⟩ := WTo.appended h1.out hbel hrow3 hg3 hat3
        have f2 := hb2.frozen 1
        have e2 := hb2.cell 1
        simp only [List.getElem?_toArray, List.getElem?_cons_zero, List.getElem?_cons_succ] at e2
        have HT := Lib.hid ht
        clear hrow3 hown3 hg3 hat3 hb2 ht)
      go_wp2
      all_goals
        obtain ⟨v3, hw3, hf3, hk3⟩ := HT.out
        refine ⟨⟨j + 1, v3, by omega, by go_num, Lib.hid (by rw [HB1.out]; exact hw3), Lib.hid fun x hx => ?_, hk.trans hk3 hf.out⟩, by simp [intOf] <;> omega⟩
        rcases hf3 x hx with hx | hx
        · exact hf.out x hx
        · exact .inr (by have := hk.size; omega)
    · obtain rfl : j = n := by omega
      go_wp2
      go_end0
      have h2 := h1.out
      rw [List.take_of_length_le (by rw [bigB_length]; exact Nat.le_refl _)] at h2
      exact ⟨rfl, v1, h2, hf.out, hk⟩
theorem wu8 (h : IsW w B o bs v) (hB : B ≤ w.heap.size) (z : Nat) (hz : z < 256) (hl : bs.length ≤ 140737488355300) :
    Calls Tryd.prog 28 #[.pointer (some ⟨o, 0, none⟩), .int .u8 z] w fun e w' => e = .returned (.tuple #[]) ∧ WTo w w' B o v (bs ++ bigB z 1) := by
  have hc := wnum h hB z 1 (by omega) (by omega) hl
  have hz0 : (0 : Int) ≤ (z : Int) := by omega
  have hz1 : (z : Int) ≤ 255 := by omega
  clear h hB hz hl
  go_enter Tryd.func28, Tryd.ntmps28
  go_wp2_with fail
  refine hc.mono ?_
  rintro e w1 ⟨rfl, ht⟩
  go_wp2
  go_end0
  exact ⟨rfl, ht⟩
theorem wu16 (h : IsW w B o bs v) (hB : B ≤ w.heap.size) (z : Nat) (hz : z < 65536) (hl : bs.length ≤ 140737488355300) :
    Calls Tryd.prog 29 #[.pointer (some ⟨o, 0, none⟩), .int .u16 z] w fun e w' => e = .returned (.tuple #[]) ∧ WTo w w' B o v (bs ++ bigB z 2) := by
  have hc := wnum h hB z 2 (by omega) (by omega) hl
  have hz0 : (0 : Int) ≤ (z : Int) := by omega
  have hz1 : (z : Int) ≤ 65535 := by omega
  clear h hB hz hl
  go_enter Tryd.func29, Tryd.ntmps29
  go_wp2_with fail
  refine hc.mono ?_
  rintro e w1 ⟨rfl, ht⟩
  go_wp2
  go_end0
  exact ⟨rfl, ht⟩
theorem wu32 (h : IsW w B o bs v) (hB : B ≤ w.heap.size) (z : Nat) (hz : z < 4294967296) (hl : bs.length ≤ 140737488355300) :
    Calls Tryd.prog 30 #[.pointer (some ⟨o, 0, none⟩), .int .u32 z] w fun e w' => e = .returned (.tuple #[]) ∧ WTo w w' B o v (bs ++ bigB z 4) := by
  have hc := wnum h hB z 4 (by omega) (by omega) hl
  have hz0 : (0 : Int) ≤ (z : Int) := by omega
  have hz1 : (z : Int) ≤ 4294967295 := by omega
  clear h hB hz hl
  go_enter Tryd.func30, Tryd.ntmps30
  go_wp2_with fail
  refine hc.mono ?_
  rintro e w1 ⟨rfl, ht⟩
  go_wp2
  go_end0
  exact ⟨rfl, ht⟩
theorem wu64 (h : IsW w B o bs v) (hB : B ≤ w.heap.size) (z : Nat) (hz : z < 18446744073709551616) (hl : bs.length ≤ 140737488355300) :
    Calls Tryd.prog 31 #[.pointer (some ⟨o, 0, none⟩), .int .u64 z] w fun e w' => e = .returned (.tuple #[]) ∧ WTo w w' B o v (bs ++ bigB z 8) := by
  have hc := wnum h hB z 8 (by omega) (by omega) hl
  have hz0 : (0 : Int) ≤ (z : Int) := by omega
  have hz1 : (z : Int) ≤ 18446744073709551615 := by omega
  clear h hB hz hl
  go_enter Tryd.func31, Tryd.ntmps31
  go_wp2_with fail
  refine hc.mono ?_
  rintro e w1 ⟨rfl, ht⟩
  go_wp2
  go_end0
  exact ⟨rfl, ht⟩
end
end Go.Proofs.YtiajmngjhbckjaaDoor
