/- The document's order: without, Drop, Add. -/
import Derived.Test.YtjddjjfcongnlaaDocC
import Derived.Test.YtjddjjfcongnlaaHeld
namespace Go.Proofs.Ytjddjjfcongnlaa
open Go.RowKit Go.Maps
theorem info83 : (Try.prog.info? 83).map (fun i => (i.zero, i.size, i.bytes)) = some (some (.agg #[.int .i64 0, .int .i64 0]), 2, 16) := by kernel_rfl
theorem erase_take_other (L : List (Int × Nat)) (i j : Nat) (x : Int × Nat) (hx : L[j]? = some x) (h : j ≠ i) : (L.take (j + 1)).eraseIdx i = (L.take j).eraseIdx i ++ [x] := by
  have hj := (List.getElem?_eq_some_iff.1 hx).1
  have e : L.take (j + 1) = L.take j ++ [x] := by rw [List.take_add_one, hx]; rfl
  rw [e]
  have hl : (L.take j).length = j := by rw [List.length_take]; omega
  by_cases hij : i < j
  · rw [List.eraseIdx_append_of_lt_length (by omega)]
  · rw [List.eraseIdx_of_length_le (by rw [List.length_append, hl]; simp; omega), List.eraseIdx_of_length_le (by omega)]
theorem erase_take_same (L : List (Int × Nat)) (i : Nat) (hi : i < L.length) : (L.take (i + 1)).eraseIdx i = (L.take i).eraseIdx i := by
  obtain ⟨x, hx⟩ : ∃ x, L[i]? = some x := ⟨_, List.getElem?_eq_getElem hi⟩
  have e : L.take (i + 1) = L.take i ++ [x] := by rw [List.take_add_one, hx]; rfl
  have hl : (L.take i).length = i := by rw [List.length_take]; omega
  rw [e, List.eraseIdx_append_of_length_le (by omega), hl, Nat.sub_self, show (L.take i).eraseIdx i = L.take i from List.eraseIdx_of_length_le (by omega)]
  simp
theorem item_new (w : World) (x y : Value) (e : TypeId) : Reads (w.alloc (.cells #[x, y] e)) (w.heap.size + 1) 2 (some ⟨w.heap.size, 0, none⟩) 1 [x, y] :=
  ⟨rfl, fun _ => ⟨_, rfl, Nat.lt_succ_self _, fun j u hj => by
    rw [Addr.add_lit, Nat.zero_add]
    exact ((Blk.new w e #[x, y]).cell j).trans (by simpa using hj)⟩⟩
/-- The item at i of a row of items. -/
theorem row_at {w : World} {B : Nat} {L : List (Int × Nat)} {A : Option Addr} {n c : Nat} (h : w.ownsRow B 83 2 (.slice A n c) L.length (itc L)) {i : Nat} (hi : i < L.length) :
    ∃ g x, A = some ⟨g, 0, none⟩ ∧ L[i]? = some x ∧ B ≤ g ∧ g < w.heap.size ∧ w.cell? ⟨g, i * 2, none⟩ = some (.int .i64 x.1) ∧ w.cell? ⟨g, i * 2 + 1, none⟩ = some (.int .i64 (x.2 : Nat)) := by
  obtain ⟨x, hx⟩ : ∃ x, L[i]? = some x := ⟨_, List.getElem?_eq_getElem hi⟩
  obtain ⟨g, cap, hv, hBg, hlt⟩ := h.form (by omega)
  obtain ⟨a1, a2⟩ := itc_at L i x hx
  injection hv with hA
  have hc := h.cells (g := g) (by rw [hA]; rfl)
  have b1 := hc _ _ a1
  have b2 := hc _ _ a2
  rw [Addr.add_lit, Nat.zero_add] at b1 b2
  exact ⟨g, x, hA, hx, hBg, hlt, b1, b2⟩
set_option maxRecDepth 20000 in
set_option maxHeartbeats 2000000 in
theorem without_any {w : World} {B : Nat} {L : List (Int × Nat)} {A : Option Addr} {c : Nat} (h : w.ownsRow B 83 2 (.slice A L.length c) L.length (itc L)) (i : Nat) (hi : i < L.length) (hl : L.length ≤ 8796093022207) :
    Calls Try.prog 67 #[.slice A L.length c, .int .i64 i] w fun e w' => ∃ v, e = .returned v ∧ w'.ownsRow w.heap.size 83 2 v (L.eraseIdx i).length (itc (L.eraseIdx i)) ∧ Below w.heap.size w w' := by
  obtain ⟨i0, hi0, hz0, hz1, hz2⟩ := info_parts info83
  have HH := Lib.hid h; clear h
  have HI := Lib.hid hi; clear hi
  go_enter Try.func67, Try.ntmps67
  go_wp2
  go_loopw [5, 6] (fun v jv wr => ∃ j : Nat, j ≤ L.length ∧ jv = .int .i64 j ∧ wr.ownsRow w.heap.size 83 2 v ((L.take j).eraseIdx i).length (itc ((L.take j).eraseIdx i)) ∧ Below w.heap.size w wr) (fun _ jv _ => L.length - (intOf jv).toNat)
  case atStart => exact ⟨0, by omega, rfl, ⟨by simp [itc], .inl ⟨rfl, by simp⟩⟩, Below.refl _ _⟩
  case round =>
    obtain ⟨j, hj, rfl, hown, hbw⟩ := hrel
    have hbs := hbw.size
    obtain ⟨Ao, co, rfl⟩ := own_sliceInt hown
    have HO := Lib.hid hown; clear hown
    by_cases hlt : j < L.length
    · obtain ⟨g, x, rfl, hx, _, hgl, hk, hp⟩ := row_at HH.out hlt
      have hk2 : wr.cell? ⟨g, j * 2, none⟩ = some (.int .i64 x.1) := (hbw.cell (p := ⟨g, j * 2, none⟩) hgl).trans hk
      have hp2 : wr.cell? ⟨g, j * 2 + 1, none⟩ = some (.int .i64 (x.2 : Nat)) := (hbw.cell (p := ⟨g, j * 2 + 1, none⟩) hgl).trans hp
      have hlen : ((L.take j).eraseIdx i).length ≤ j := by
        have h1 := List.length_eraseIdx_le (L.take j) i
        rw [List.length_take] at h1; omega
      obtain ⟨x1, x2⟩ := x
      have HX := Lib.hid hx
      clear hx hk hp
      have hj1 : (j : Int) < (L.length : Int) := by omega
      have hj0 : (0 : Int) ≤ (j : Int) := by omega
      by_cases hji : j = i
      · subst hji
        have he := erase_take_same L j hlt
        have HE := Lib.hid he; clear he
        go_wp2
        exact ⟨⟨j + 1, by omega, by go_num, by rw [HE.out]; exact HO.out, hbw⟩, by simp [intOf]; omega⟩
      · have he := erase_take_other L i j _ HX.out hji
        have HE := Lib.hid he; clear he
        have hb1 : ((j : Int) != (i : Int)) = true := by simp; omega
        have ho2 := HO.out.alloc (.cells #[.int .i64 x1, .int .i64 (x2 : Nat)] 83)
        have HO2 := Lib.hid ho2; clear ho2
        go_wp2_with (
          at_builtin
          refine wpList_append_any _ rfl (.tmp 16) (.tmp 21) 40 rfl w.heap.size 83 i0 _ 2 16 Try.underlying40 hi0 hz0 hz1 hz2 rfl (by omega) _ ((L.take j).eraseIdx i).length _ rfl HO2.out (wr.heap.size + 1) (some ⟨wr.heap.size, 0, none⟩) 1 1 [.int .i64 x1, .int .i64 (x2 : Nat)] rfl (item_new _ _ _ _) (by intro u hu; simp at hu; rcases hu with rfl | rfl <;> rfl) (by simp only [maxLen]; omega) (by omega) (by rw [World.size_alloc]; omega) ?_
          intro v2 w2 hown3 hg2 hat2)
        have hb2 : Below w.heap.size w w2 := (hbw.alloc hbs _).grown hg2 (by rw [World.size_alloc]; omega) (fun k hk => (HO2.out.lt k hk).1)
        refine ⟨⟨j + 1, by omega, by go_num, ?_, hb2⟩, by simp [intOf]; omega⟩
        rw [HE.out, itc_append, List.length_append]
        exact hown3
    · obtain rfl : j = L.length := by omega
      go_wp2
      go_ret
      refine ⟨_, rfl, ?_, hbw⟩
      have h3 := HO.out
      rw [List.take_of_length_le (Nat.le_refl _)] at h3 ⊢
      exact h3
/-- Behind a call on the document's order. -/
def DocTo (w w' : World) (B d : Nat) (made : Bool) (v : Value) (L' : List (Int × Nat)) : Prop :=
  ∃ v', IsDoc w' B d made L' v' ∧ (∀ x ∈ FD d v', x ∈ FD d v ∨ w.heap.size ≤ x) ∧ Keeps (FD d v) w w'
theorem IsDoc.put {w : World} {B base d : Nat} {made : Bool} {v0 v' : Value} {L' : List (Int × Nat)} (hb : Blk w d 42 #[.bool made, v0]) (hr : w.ownsRow base 83 2 v' L'.length (itc L')) (hB : B ≤ base) (hd : B ≤ d) :
    IsDoc (w.setCell ⟨d, 1, none⟩ v') B d made L' v' := by
  have hr' : w.ownsRow B 83 2 v' L'.length (itc L') := by
    refine ⟨hr.1, ?_⟩
    rcases hr.2 with h2 | ⟨g, cap, cur, hv, hg, r⟩
    · exact .inl h2
    · exact .inr ⟨g, cap, cur, hv, Nat.le_trans hB hg, r⟩
  refine ⟨hb.set_ 1 v', hr'.kept (row := some d) ⟨rfl, rfl, rfl, by simp [World.setCell], fun k _ hk => Below.heap_setCell _ _ _ _ (fun e => hk (by rw [e]))⟩ (.inr ?_), hd⟩
  exact own_blk_ne hr hb (by decide)
theorem fd_new {d n : Nat} {v v' : Value} (h : ∀ g, v'.ownBlock = some g → n ≤ g) : ∀ x ∈ FD d v', x ∈ FD d v ∨ n ≤ x := by
  intro x hx
  unfold FD at hx
  rcases List.mem_cons.1 hx with rfl | hx
  · exact .inl (by unfold FD; simp)
  · exact .inr (h x (by simpa using hx))
section
variable {w : World} {B d : Nat} {made : Bool} {L : List (Int × Nat)} {v : Value}
set_option maxRecDepth 20000 in
set_option maxHeartbeats 2000000 in
theorem ddrop_any (h : IsDoc w B d made L v) (hn : KOk L) (k : Int) (hl : L.length ≤ 8796093022207) (hB : B ≤ w.heap.size) :
    Calls Try.prog 39 #[.pointer (some ⟨d, 0, none⟩), .int .i64 k] w fun e w' => e = .returned (.bool (aHas L k)) ∧ DocTo w w' B d made v (aDrop L k) := by
  have hd := dat_any h k (by omega)
  obtain ⟨A, c, rfl⟩ := h.form
  have c1 := h.blk.cell 1
  simp only [List.getElem?_toArray, List.getElem?_cons_zero, List.getElem?_cons_succ] at c1
  rcases dcase hn k with ⟨h2, h1, h3⟩ | ⟨i, p, hi, hx, h1, h2, _, h4, _, _⟩
  · have e2 : aDrop L k = L := by
      unfold aDrop
      exact List.filter_eq_self.2 fun x hx => by simpa using h3 x hx
    rw [h2, e2]
    rw [h1] at hd
    have HH := Lib.hid h
    clear h hn h1 h2 h3 e2
    go_enter Try.func39, Try.ntmps39
    go_wp2_with (go_at_call 64; refine hd.mono ?_; rintro e w1 ⟨rfl, rfl⟩)
    go_ret
    exact ⟨rfl, _, HH.out, fun x hx => .inl hx, Keeps.refl _ _⟩
  · rw [h2, h4]
    rw [h1] at hd
    have hw := without_any h.row i hi hl
    have HH := Lib.hid h
    have hi0 : (0 : Int) ≤ (i : Int) := by omega
    have hlt := h.blk.lt
    clear h hn h1 h2 h4 hi hx
    go_enter Try.func39, Try.ntmps39
    go_wp2_with fail
    refine hd.mono ?_
    rintro e w1 ⟨rfl, rfl⟩
    go_wp2_with fail
    refine hw.mono ?_
    rintro e w1 ⟨v1, rfl, hown, hb1⟩
    obtain ⟨A1, c1', rfl⟩ := own_sliceInt hown
    have hblk1 := Blk.below HH.out.blk hb1 hlt
    have f1 := hblk1.frozen 1
    have e1 := hblk1.cell 1
    simp only [List.getElem?_toArray, List.getElem?_cons_zero, List.getElem?_cons_succ] at e1
    have hdoc := IsDoc.put hblk1 hown hB HH.out.base
    have hfd := fd_new (d := d) (v := .slice A L.length c) (fun g hg => (hown.lt g hg).1)
    have HD := Lib.hid hdoc; have HF := Lib.hid hfd
    have hkp : Keeps (FD d (.slice A L.length c)) w w1 := ⟨hb1.os, hb1.tape, hb1.output, hb1.size, fun k hk _ => hb1.block k hk⟩
    clear hdoc hfd hown hblk1
    go_wp2
    go_ret
    exact ⟨rfl, _, HD.out, HF.out, hkp.setCell (p := ⟨d, 1, none⟩) (.inl (by unfold FD; simp)) _⟩
set_option maxRecDepth 20000 in
set_option maxHeartbeats 2000000 in
theorem dadd_any (h : IsDoc w B d made L v) (hn : KOk L) (k : Int) (hl : L.length ≤ 8796093022207) (hB : B ≤ w.heap.size) :
    Calls Try.prog 35 #[.pointer (some ⟨d, 0, none⟩), .int .i64 k] w fun e w' => e = .returned (.bool (made && !aHas L k)) ∧ DocTo w w' B d made v (if made then aAdd L k else L) := by
  have hd := dat_any h k (by omega)
  obtain ⟨A, c, rfl⟩ := h.form
  have c1 := h.blk.cell 1
  have c0 := h.blk.cell 0
  have f1 := h.blk.frozen 1
  simp only [List.getElem?_toArray, List.getElem?_cons_zero, List.getElem?_cons_succ] at c1 c0
  cases made with
  | false =>
    rw [if_neg (by decide), Bool.false_and]
    have HH := Lib.hid h
    clear h hn
    go_enter Try.func35, Try.ntmps35
    go_wp2
    go_ret
    exact ⟨rfl, _, HH.out, fun x hx => .inl hx, Keeps.refl _ _⟩
  | true =>
    rw [if_pos rfl, Bool.true_and]
    rcases dcase hn k with ⟨h2, h1, h3⟩ | ⟨i, p, hi, hx, h1, h2, _, h4, _, _⟩
    · have e2 : aAdd L k = L ++ [(k, 0)] := by unfold aAdd; rw [h2]; rfl
      rw [h2, e2]
      rw [h1] at hd
      obtain ⟨i0, hi0, hz0, hz1, hz2⟩ := info_parts info83
      have hown := h.row.alloc (.cells #[.int .i64 k, .int .i64 0] 83)
      have HO := Lib.hid hown
      have HH := Lib.hid h
      have hlt := h.blk.lt
      clear h hn h1 h2 h3 e2 hown
      go_enter Try.func35, Try.ntmps35
      go_wp2_with fail
      refine hd.mono ?_
      rintro e w1 ⟨rfl, rfl⟩
      go_wp2_with (
        at_builtin
        refine wpList_append_any _ rfl (.tmp 20) (.tmp 23) 40 rfl B 83 i0 _ 2 16 Try.underlying40 hi0 hz0 hz1 hz2 rfl (by omega) _ L.length _ rfl HO.out (w.heap.size + 1) (some ⟨w.heap.size, 0, none⟩) 1 1 [.int .i64 k, .int .i64 0] rfl (item_new _ _ _ _) (by intro u hu; simp at hu; rcases hu with rfl | rfl <;> rfl) (by simp only [maxLen]; omega) (by omega) (by rw [World.size_alloc]; omega) ?_
        intro v2 w2 hown3 hg2 hat2
        obtain ⟨A2, c2, rfl⟩ := own_sliceInt hown3
        have hblk2 := (HH.out.blk.alloc (.cells #[.int .i64 k, .int .i64 0] 83)).grown hg2 (fun e => own_blk_ne HH.out.row HH.out.blk (by decide) e.symm)
        have f2 := hblk2.frozen 1
        have e2 := hblk2.cell 1
        simp only [List.getElem?_toArray, List.getElem?_cons_zero, List.getElem?_cons_succ] at e2
        have HB2 := Lib.hid hblk2; have HO3 := Lib.hid hown3; have HG2 := Lib.hid hg2; have HA2 := Lib.hid hat2
        clear hblk2 hown3 hg2 hat2)
      go_ret
      have hrow : w2.ownsRow B 83 2 (.slice A2 (L.length + 1) c2) (L ++ [(k, 0)]).length (itc (L ++ [(k, 0)])) := by
        rw [List.length_append, itc_append]; exact HO3.out
      refine ⟨rfl, _, IsDoc.put HB2.out hrow (Nat.le_refl _) HH.out.base, ?_, ?_⟩
      · intro x hx
        unfold FD at hx
        rcases List.mem_cons.1 hx with rfl | hx
        · exact .inl (by unfold FD; simp)
        · have hx' : (Value.slice A2 (L.length + 1) c2).ownBlock = some x := by simpa using hx
          rcases HA2.out with h | h
          · rw [h] at hx'
            exact .inl (mem_fd hx')
          · rw [h, World.size_alloc] at hx'
            exact .inr (by have := Option.some.inj hx'; omega)
      · have hk1 : Keeps (FD d (.slice A L.length c)) w (w.alloc (.cells #[.int .i64 k, .int .i64 0] 83)) := (Keeps.refl _ _).alloc _
        exact (hk1.trans (Keeps.of_grown HG2.out (fun g hg => mem_fd hg)) (fun x hx => .inl hx)).setCell (p := ⟨d, 1, none⟩) (.inl (by unfold FD; simp)) _
    · have e2 : aAdd L k = L := by unfold aAdd; rw [h2]; rfl
      rw [h2, e2]
      rw [h1] at hd
      have HH := Lib.hid h
      have hi0 : (0 : Int) ≤ (i : Int) := by omega
      clear h hn h1 h2 e2 hx h4 hi
      go_enter Try.func35, Try.ntmps35
      go_wp2_with (go_at_call 64; refine hd.mono ?_; rintro e w1 ⟨rfl, rfl⟩)
      go_ret
      exact ⟨rfl, _, HH.out, fun x hx => .inl hx, Keeps.refl _ _⟩
end
end Go.Proofs.Ytjddjjfcongnlaa
