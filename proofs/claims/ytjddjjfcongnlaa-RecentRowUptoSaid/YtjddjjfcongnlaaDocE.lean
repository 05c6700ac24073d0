/- The document's order: Touch. -/
import Derived.Test.YtjddjjfcongnlaaDocD
import Derived.Deep.RegionHeld3
import Derived.Deep.RegionLaw
namespace Go.Proofs.Ytjddjjfcongnlaa
open Go.RowKit Go.Maps
theorem own_base {w : World} {base base' size n : Nat} {e : TypeId} {v : Value} {xs : List Value} (h : w.ownsRow base e size v n xs) (hb : base' ≤ base) : w.ownsRow base' e size v n xs := by
  refine ⟨h.1, ?_⟩
  rcases h.2 with h2 | ⟨g, cap, cur, hv, hg, r⟩
  · exact .inl h2
  · exact .inr ⟨g, cap, cur, hv, Nat.le_trans hb hg, r⟩
theorem frozen_alloc' {W : World} {b i : Nat} {v : Value} (h : W.cell? ⟨b, i, none⟩ = some v) (o : Obj) : (W.alloc o).frozen? ⟨b, i, none⟩ = W.frozen? ⟨b, i, none⟩ := by
  have hlt := lt_cellInt h
  have := Below.heap_alloc W o b hlt
  simp only [World.frozen?, this]
theorem cell_alloc' {W : World} {b i : Nat} {v : Value} (h : W.cell? ⟨b, i, none⟩ = some v) (o : Obj) : (W.alloc o).cell? ⟨b, i, none⟩ = some v := by
  have hlt := lt_cellInt h
  exact (World.cell?_alloc_lt W o ⟨b, i, none⟩ hlt).trans h
theorem keepS {W : World} {d bx : Nat} {v x y : Value} (h : W.cell? ⟨d, 1, none⟩ = some v ∧ W.frozen? ⟨d, 1, none⟩ = false ∧ W.cell? ⟨bx, 0, none⟩ = some x ∧ W.cell? ⟨bx, 1, none⟩ = some y) (o : Obj) :
    (W.alloc o).cell? ⟨d, 1, none⟩ = some v ∧ (W.alloc o).frozen? ⟨d, 1, none⟩ = false ∧ (W.alloc o).cell? ⟨bx, 0, none⟩ = some x ∧ (W.alloc o).cell? ⟨bx, 1, none⟩ = some y :=
  ⟨cell_alloc' h.1 o, (frozen_alloc' h.1 o).trans h.2.1, cell_alloc' h.2.2.1 o, cell_alloc' h.2.2.2 o⟩
section
variable {w : World} {B d : Nat} {made : Bool} {L : List (Int × Nat)} {v : Value}
set_option maxRecDepth 20000 in
set_option maxHeartbeats 4000000 in
theorem dtouch_any (h : IsDoc w B d made L v) (hn : KOk L) (k : Int) (hl : L.length ≤ 8796093022207) (_ : B ≤ w.heap.size) :
    Calls Try.prog 37 #[.pointer (some ⟨d, 0, none⟩), .int .i64 k] w fun e w' => e = .returned (.bool (aHas L k)) ∧ DocTo w w' B d made v (aTouch L k) := by
  have hd := dat_any h k (by omega)
  obtain ⟨A, c, rfl⟩ := h.form
  have c1 := h.blk.cell 1
  simp only [List.getElem?_toArray, List.getElem?_cons_zero, List.getElem?_cons_succ] at c1
  rcases dcase hn k with ⟨h2, h1, h3⟩ | ⟨i, p, hi, hx, h1, h2, _, _, h5, _⟩
  · have e2 : aTouch L k = L := by
      unfold aTouch
      rw [List.filter_eq_self.2 (fun x hx => by simpa using h3 x hx), List.filter_eq_nil_iff.2 (fun x hx => by simpa using h3 x hx), List.append_nil]
    rw [h2, e2]
    rw [h1] at hd
    have HH := Lib.hid h
    clear h hn h1 h2 h3 e2
    go_enter Try.func37, Try.ntmps37
    go_wp2_with (go_at_call 64; refine hd.mono ?_; rintro e w1 ⟨rfl, rfl⟩)
    go_ret
    exact ⟨rfl, _, HH.out, fun x hx => .inl hx, Keeps.refl _ _⟩
  · rw [h2, h5]
    rw [h1] at hd
    have hlt := h.blk.lt
    obtain ⟨g, x, hA, hx', _, hgl, hk, hp⟩ := row_at h.row hi
    rw [hx] at hx'
    obtain rfl := Option.some.inj hx'
    obtain ⟨i0, hi0, hz0, hz1, hz2⟩ := info_parts info83
    have HH := Lib.hid h
    have hi00 : (0 : Int) ≤ (i : Int) := by omega
    have hi1 : (i : Int) < (L.length : Int) := by omega
    have HI := Lib.hid hi
    have HA := Lib.hid hA
    subst hA
    clear h hn h1 h2 h5 hx hx' hi
    go_enter Try.func37, Try.ntmps37
    go_wp2_with fail
    refine hd.mono ?_
    rintro e w1 ⟨rfl, rfl⟩
    go_wp2
    have hWb : Below w.heap.size w (w.alloc (.cells #[.int .i64 k, .int .i64 (p : Nat)] 83)) := (Below.refl _ _).alloc (Nat.le_refl _) _
    have hbox := Blk.new w 83 #[.int .i64 k, .int .i64 (p : Nat)]
    have b0 := hbox.cell 0
    have b1 := hbox.cell 1
    have c1W : (w.alloc (.cells #[.int .i64 k, .int .i64 (p : Nat)] 83)).cell? ⟨d, 1, none⟩ = some (.slice (some ⟨g, 0, none⟩) L.length c) := (hWb.cell (p := ⟨d, 1, none⟩) hlt).trans c1
    simp only [List.getElem?_toArray, List.getElem?_cons_zero, List.getElem?_cons_succ] at b0 b1
    have hrowW := HH.out.row.alloc (.cells #[.int .i64 k, .int .i64 (p : Nat)] 83)
    have hblkW := HH.out.blk.alloc (.cells #[.int .i64 k, .int .i64 (p : Nat)] 83)
    have hsW : (w.alloc (.cells #[.int .i64 k, .int .i64 (p : Nat)] 83)).heap.size = w.heap.size + 1 := World.size_alloc _ _
    have f1W := hblkW.frozen 1
    have HRW := Lib.hid hrowW; have HBW := Lib.hid hblkW; have HBX := Lib.hid hbox; have HWB := Lib.hid hWb
    clear hbox hrowW hblkW hk hp c1 hWb
    generalize w.alloc (.cells #[.int .i64 k, .int .i64 (p : Nat)] 83) = W at *
    have hdl : d < W.heap.size := by omega
    have hxl : w.heap.size < W.heap.size := by omega
    have HSW := Lib.hid hsW; clear hsW
    have HROWD : Hid (W.drew.ownsRow B 83 2 (.slice (some ⟨g, 0, none⟩) L.length c) L.length (itc L)) := HRW
    have hle : (L.eraseIdx i).length ≤ L.length := List.length_eraseIdx_le _ _
    have hone : ∀ u ∈ [Value.int .i64 k, .int .i64 (p : Nat)], u.oneCell' = true := by intro u hu; simp at hu; rcases hu with rfl | rfl <;> rfl
    have eitc : itc (L.eraseIdx i ++ [(k, p)]) = itc (L.eraseIdx i) ++ [.int .i64 k, .int .i64 (p : Nat)] := itc_append _ _
    have elen : (L.eraseIdx i ++ [(k, p)]).length = (L.eraseIdx i).length + 1 := List.length_append
    have HE1 := Lib.hid eitc; have HE2 := Lib.hid elen; have HONE := Lib.hid hone; have HLE := Lib.hid hle
    clear eitc elen hone hle
    have hfa0 : ∀ o, (W.alloc o).frozen? ⟨d, 1, none⟩ = false := fun o => (frozen_alloc' (W := W) c1W o).trans f1W
    have HROWA : Hid ((W.alloc (.cells #[.int .i64 k, .int .i64 (p : Nat)] 83)).drew.ownsRow B 83 2 (.slice (some ⟨g, 0, none⟩) L.length c) L.length (itc L)) := Lib.hid (HRW.out.alloc _)
    have hSA : W.heap.size + 1 ≤ (W.alloc (.cells #[.int .i64 k, .int .i64 (p : Nat)] 83)).drew.heap.size := by
      show _ ≤ (W.alloc (.cells #[.int .i64 k, .int .i64 (p : Nat)] 83)).heap.size
      rw [World.size_alloc]; exact Nat.le_refl _
    have hca0 : ∀ o, (W.alloc o).cell? ⟨d, 1, none⟩ = some (.slice (some ⟨g, 0, none⟩) L.length c) := fun o => cell_alloc' (W := W) c1W o
    have hcb0 : ∀ o, (W.alloc o).cell? ⟨w.heap.size, 0, none⟩ = some (.int .i64 k) := fun o => cell_alloc' (W := W) b0 o
    have hcb1 : ∀ o, (W.alloc o).cell? ⟨w.heap.size, 1, none⟩ = some (.int .i64 (p : Nat)) := fun o => cell_alloc' (W := W) b1 o
    go_region_law
      (first
        | (go_simp; go_at_call 67; (with_reducible refine (without_any (w := W.drew) HROWD.out i HI.out hl).mono ?_)
           rintro e w1 ⟨v1, rfl, hown1, hb1⟩
           have hBW : Below W.heap.size W w1 := (Below.refl W.heap.size W).drew.trans hb1
           have hblk1 := Blk.below HBW.out hBW hdl
           have hbx1 := Blk.below HBX.out hBW hxl
           have hS1 : w1.cell? ⟨d, 1, none⟩ = some (.slice (some ⟨g, 0, none⟩) L.length c) ∧ w1.frozen? ⟨d, 1, none⟩ = false ∧ w1.cell? ⟨w.heap.size, 0, none⟩ = some (.int .i64 k) ∧ w1.cell? ⟨w.heap.size, 1, none⟩ = some (.int .i64 (p : Nat)) := ⟨hblk1.cell 1, hblk1.frozen 1, hbx1.cell 0, hbx1.cell 1⟩
           obtain ⟨s1, s2, s3, s4⟩ := hS1
           have hca1 : ∀ o, (w1.alloc o).cell? ⟨d, 1, none⟩ = some (.slice (some ⟨g, 0, none⟩) L.length c) := fun o => cell_alloc' s1 o
           have hfa1 : ∀ o, (w1.alloc o).frozen? ⟨d, 1, none⟩ = false := fun o => (frozen_alloc' s1 o).trans s2)
        | (go_simp; go_at_call 67; (with_reducible refine (without_any (w := (W.alloc (.cells #[.int .i64 k, .int .i64 (p : Nat)] 83)).drew) HROWA.out i HI.out hl).mono ?_)
           rintro e w1 ⟨v1, rfl, hown1, hb1⟩
           have hBW0 : Below W.heap.size W ((W.alloc (.cells #[.int .i64 k, .int .i64 (p : Nat)] 83)).drew) := ((Below.refl W.heap.size W).alloc (Nat.le_refl _) _).drew
           have hBW : Below W.heap.size W w1 := hBW0.trans (hb1.mono hBW0.size)
           have hblk1 := Blk.below HBW.out hBW hdl
           have hbx1 := Blk.below HBX.out hBW hxl
           have hlit : Reads w1 (W.heap.size + 1) 2 (some ⟨W.heap.size, 0, none⟩) 1 [.int .i64 k, .int .i64 (p : Nat)] := Reads.below (w := (W.alloc (.cells #[.int .i64 k, .int .i64 (p : Nat)] 83)).drew) (item_new W _ _ 83) (hb1.mono hSA)
           have hS1 : w1.cell? ⟨d, 1, none⟩ = some (.slice (some ⟨g, 0, none⟩) L.length c) ∧ w1.frozen? ⟨d, 1, none⟩ = false ∧ w1.cell? ⟨w.heap.size, 0, none⟩ = some (.int .i64 k) ∧ w1.cell? ⟨w.heap.size, 1, none⟩ = some (.int .i64 (p : Nat)) := ⟨hblk1.cell 1, hblk1.frozen 1, hbx1.cell 0, hbx1.cell 1⟩
           obtain ⟨s1, s2, s3, s4⟩ := hS1
           have hca1 : ∀ o, (w1.alloc o).cell? ⟨d, 1, none⟩ = some (.slice (some ⟨g, 0, none⟩) L.length c) := fun o => cell_alloc' s1 o
           have hfa1 : ∀ o, (w1.alloc o).frozen? ⟨d, 1, none⟩ = false := fun o => (frozen_alloc' s1 o).trans s2)
        | (refine step_append_any _ rfl (.tmp 25) (.tmp 27) 40 rfl W.heap.size 83 i0 _ 2 16 Try.underlying40 hi0 hz0 hz1 hz2 rfl (by omega) v1 (L.eraseIdx i).length (itc (L.eraseIdx i)) rfl (hown1.alloc (.cells #[.int .i64 k, .int .i64 (p : Nat)] 83)) (w1.heap.size + 1) (some ⟨w1.heap.size, 0, none⟩) 1 1 [.int .i64 k, .int .i64 (p : Nat)] rfl (item_new w1 _ _ 83) HONE.out (by simp only [maxLen]; have := HLE.out; omega) (by have := HLE.out; omega) (by rw [World.size_alloc]; have := hBW.size; omega) ?_
           intro v2 w2 hown3 hg2 hat2
           have hBW2 : Below W.heap.size W w2 := (hBW.alloc hBW.size _).grown hg2 (by rw [World.size_alloc]; have := hBW.size; omega) (fun q hq => (hown1.lt q hq).1)
           have hblk2 := Blk.below HBW.out hBW2 hdl
           have hS2 : w2.cell? ⟨d, 1, none⟩ = some (.slice (some ⟨g, 0, none⟩) L.length c) ∧ w2.frozen? ⟨d, 1, none⟩ = false ∧ w2.cell? ⟨w.heap.size, 0, none⟩ = some (.int .i64 k) ∧ w2.cell? ⟨w.heap.size, 1, none⟩ = some (.int .i64 (p : Nat)) := ⟨hblk2.cell 1, hblk2.frozen 1, (Blk.below HBX.out hBW2 hxl).cell 0, (Blk.below HBX.out hBW2 hxl).cell 1⟩
           obtain ⟨A2, c2, rfl⟩ := own_sliceInt hown3
           obtain ⟨z1, z2, z3, z4⟩ := hS2
           skip)
        | (refine step_append_any _ rfl (.tmp 25) (.tmp 27) 40 rfl W.heap.size 83 i0 _ 2 16 Try.underlying40 hi0 hz0 hz1 hz2 rfl (by omega) v1 (L.eraseIdx i).length (itc (L.eraseIdx i)) rfl (own_base hown1 hBW0.size) (W.heap.size + 1) (some ⟨W.heap.size, 0, none⟩) 1 1 [.int .i64 k, .int .i64 (p : Nat)] rfl hlit HONE.out (by simp only [maxLen]; have := HLE.out; omega) (by have := HLE.out; omega) hBW.size ?_
           intro v2 w2 hown3 hg2 hat2
           have hBW2 : Below W.heap.size W w2 := hBW.grown hg2 hBW.size (fun q hq => Nat.le_trans hBW0.size (hown1.lt q hq).1)
           have hblk2 := Blk.below HBW.out hBW2 hdl
           have hS2 : w2.cell? ⟨d, 1, none⟩ = some (.slice (some ⟨g, 0, none⟩) L.length c) ∧ w2.frozen? ⟨d, 1, none⟩ = false ∧ w2.cell? ⟨w.heap.size, 0, none⟩ = some (.int .i64 k) ∧ w2.cell? ⟨w.heap.size, 1, none⟩ = some (.int .i64 (p : Nat)) := ⟨hblk2.cell 1, hblk2.frozen 1, (Blk.below HBX.out hBW2 hxl).cell 0, (Blk.below HBX.out hBW2 hxl).cell 1⟩
           obtain ⟨A2, c2, rfl⟩ := own_sliceInt hown3
           obtain ⟨z1, z2, z3, z4⟩ := hS2
           skip))
    all_goals
      go_wp2
      go_ret
      have hrow3 : w2.ownsRow W.heap.size 83 2 (.slice A2 ((L.eraseIdx i).length + 1) c2) (L.eraseIdx i ++ [(k, p)]).length (itc (L.eraseIdx i ++ [(k, p)])) := by
        rw [HE2.out, HE1.out]; exact hown3
      have hBw2 : Below w.heap.size w w2 := HWB.out.trans (hBW2.mono (by omega))
      refine ⟨rfl, _, IsDoc.put hblk2 hrow3 (by omega) HH.out.base, fd_new (fun q hq => by have := (hrow3.lt q hq).1; omega), ?_⟩
      have hkp : Keeps (FD d (.slice (some ⟨g, 0, none⟩) L.length c)) w w2 := ⟨hBw2.os, hBw2.tape, hBw2.output, hBw2.size, fun q hq _ => hBw2.block q hq⟩
      exact hkp.setCell (p := ⟨d, 1, none⟩) (.inl (by unfold FD; simp)) _
end
end Go.Proofs.Ytjddjjfcongnlaa
