/- The document's order: All, Free, Oldest. -/
import Derived.Test.YtjddjjfcongnlaaDocE
namespace Go.Proofs.Ytjddjjfcongnlaa
open Go.RowKit Go.Maps
theorem keys_snoc (free : Bool) (L : List (Int × Nat)) (i : Nat) (x : Int × Nat) (hx : L[i]? = some x) : aKeysInt free (L.take (i + 1)) = aKeysInt free (L.take i) ++ (if (!free || decide (x.2 = 0)) = true then [x.1] else []) := by
  unfold aKeysInt
  rw [List.take_add_one, hx, List.filter_append, List.map_append]
  congr 1
  by_cases hc : (!free || decide (x.2 = 0)) = true
  · rw [if_pos hc]; simp [hc]
  · rw [if_neg hc]; simp only [Bool.not_eq_true] at hc; simp [hc]
theorem keys_le (free : Bool) (L : List (Int × Nat)) : (aKeysInt free L).length ≤ L.length := by
  unfold aKeysInt
  rw [List.length_map]
  exact List.length_filter_le ..
section
variable {w : World} {B d : Nat} {made : Bool} {L : List (Int × Nat)} {v : Value}
theorem IsDoc.below {w' : World} (h : IsDoc w B d made L v) (hb : Below w.heap.size w w') : IsDoc w' B d made L v :=
  ⟨Blk.below h.blk hb h.blk.lt, h.row.kept (row := none) ⟨hb.os, hb.tape, hb.output, hb.size, fun k hk _ => hb.block k hk⟩ (by cases hv : v.ownBlock <;> simp), h.base⟩
set_option maxRecDepth 20000 in
set_option maxHeartbeats 4000000 in
theorem dall_any (h : IsDoc w B d made L v) (hl : L.length ≤ 8796093022207) :
    Calls Try.prog 27 #[.pointer (some ⟨d, 0, none⟩)] w fun e w' => ∃ v, e = .returned v ∧ w'.ownsRow w.heap.size 3 1 v (aKeysInt false L).length ((aKeysInt false L).map ekInt) ∧ Below w.heap.size w w' := by
  obtain ⟨i0, hi0, hz0, hz1, hz2⟩ := info_parts infoKInt
  obtain ⟨A, c, rfl⟩ := h.form
  have HH := Lib.hid h
  have hdlt := h.blk.lt
  clear h
  go_enter Try.func27, Try.ntmps27
  go_wp2
  go_loopw [3, 4] (fun v iv wr => ∃ i : Nat, i ≤ L.length ∧ iv = .int .i64 i ∧ wr.ownsRow w.heap.size 3 1 v (aKeysInt false (L.take i)).length ((aKeysInt false (L.take i)).map ekInt) ∧ Below w.heap.size w wr) (fun _ iv _ => L.length - (intOf iv).toNat)
  case atStart => exact ⟨0, by omega, rfl, ⟨rfl, .inl ⟨rfl, rfl⟩⟩, Below.refl _ _⟩
  case round =>
    obtain ⟨i, hi, rfl, hown, hbw⟩ := hrel
    have hbs := hbw.size
    have hdoc := HH.out.below hbw
    have c1 := hdoc.blk.cell 1
    simp only [List.getElem?_toArray, List.getElem?_cons_zero, List.getElem?_cons_succ] at c1
    obtain ⟨Ao, co, rfl⟩ := own_sliceInt hown
    have HO := Lib.hid hown; clear hown
    by_cases hlt : i < L.length
    · obtain ⟨g, x, rfl, hx, _, _, hk, _, _⟩ := hdoc.at_ hlt
      have hs := keys_snoc false L i x hx
      rw [if_pos (by simp)] at hs
      have hlen := keys_le false (L.take i)
      rw [List.length_take] at hlen
      obtain ⟨x1, x2⟩ := x
      have HS := Lib.hid hs
      clear hs hx hdoc
      have hi1 : (i : Int) < (L.length : Int) := by omega
      have hi00 : (0 : Int) ≤ (i : Int) := by omega
      have ho2 := HO.out.alloc (.cells #[.int .i64 x1] 3)
      have HO2 := Lib.hid ho2; clear ho2
      go_wp2_with (
        at_builtin
        refine wpList_append_any _ rfl (.tmp 14) (.tmp 23) 31 rfl w.heap.size 3 i0 _ 1 8 Try.underlying31 hi0 hz0 hz1 hz2 rfl (by omega) _ (aKeysInt false (L.take i)).length _ rfl HO2.out (wr.heap.size + 1) (some ⟨wr.heap.size, 0, none⟩) 1 1 [.int .i64 x1] rfl (Reads.one_new _ _ _) (by intro u hu; rw [List.mem_singleton.1 hu]; rfl) (by simp only [maxLen]; omega) (by omega) (by rw [World.size_alloc]; omega) ?_
        intro v2 w2 hown3 hg2 hat2)
      have hb2 : Below w.heap.size w w2 := (hbw.alloc hbs _).grown hg2 (by rw [World.size_alloc]; omega) (fun k hk => (HO2.out.lt k hk).1)
      refine ⟨⟨i + 1, by omega, by go_num, ?_, hb2⟩, by simp [intOf]; omega⟩
      rw [HS.out, List.map_append, List.length_append]
      exact hown3
    · obtain rfl : i = L.length := by omega
      clear hdoc
      go_wp2
      go_ret
      refine ⟨_, rfl, ?_, hbw⟩
      have h3 := HO.out
      rw [List.take_of_length_le (Nat.le_refl _)] at h3 ⊢
      exact h3
set_option maxRecDepth 20000 in
set_option maxHeartbeats 4000000 in
theorem dfree_any (h : IsDoc w B d made L v) (hl : L.length ≤ 8796093022207) :
    Calls Try.prog 28 #[.pointer (some ⟨d, 0, none⟩)] w fun e w' => ∃ v, e = .returned v ∧ w'.ownsRow w.heap.size 3 1 v (aKeysInt true L).length ((aKeysInt true L).map ekInt) ∧ Below w.heap.size w w' := by
  obtain ⟨i0, hi0, hz0, hz1, hz2⟩ := info_parts infoKInt
  obtain ⟨A, c, rfl⟩ := h.form
  have HH := Lib.hid h
  have hdlt := h.blk.lt
  clear h
  go_enter Try.func28, Try.ntmps28
  go_wp2
  go_loopw [3, 4] (fun v iv wr => ∃ i : Nat, i ≤ L.length ∧ iv = .int .i64 i ∧ wr.ownsRow w.heap.size 3 1 v (aKeysInt true (L.take i)).length ((aKeysInt true (L.take i)).map ekInt) ∧ Below w.heap.size w wr) (fun _ iv _ => L.length - (intOf iv).toNat)
  case atStart => exact ⟨0, by omega, rfl, ⟨rfl, .inl ⟨rfl, rfl⟩⟩, Below.refl _ _⟩
  case round =>
    obtain ⟨i, hi, rfl, hown, hbw⟩ := hrel
    have hbs := hbw.size
    have hdoc := HH.out.below hbw
    have c1 := hdoc.blk.cell 1
    simp only [List.getElem?_toArray, List.getElem?_cons_zero, List.getElem?_cons_succ] at c1
    obtain ⟨Ao, co, rfl⟩ := own_sliceInt hown
    have HO := Lib.hid hown; clear hown
    by_cases hlt : i < L.length
    · obtain ⟨g, x, rfl, hx, _, _, hk, hp, _⟩ := hdoc.at_ hlt
      have hs := keys_snoc true L i x hx
      have hlen := keys_le true (L.take i)
      rw [List.length_take] at hlen
      obtain ⟨x1, x2⟩ := x
      have hi1 : (i : Int) < (L.length : Int) := by omega
      have hi00 : (0 : Int) ≤ (i : Int) := by omega
      by_cases hx2 : x2 = 0
      · subst hx2
        rw [if_pos (by simp)] at hs
        have HS := Lib.hid hs
        clear hs hx hdoc
        have ho2 := HO.out.alloc (.cells #[.int .i64 x1] 3)
        have HO2 := Lib.hid ho2; clear ho2
        go_wp2_with (
          at_builtin
          refine wpList_append_any _ rfl (.tmp 23) (.tmp 32) 31 rfl w.heap.size 3 i0 _ 1 8 Try.underlying31 hi0 hz0 hz1 hz2 rfl (by omega) _ (aKeysInt true (L.take i)).length _ rfl HO2.out (wr.heap.size + 1) (some ⟨wr.heap.size, 0, none⟩) 1 1 [.int .i64 x1] rfl (Reads.one_new _ _ _) (by intro u hu; rw [List.mem_singleton.1 hu]; rfl) (by simp only [maxLen]; omega) (by omega) (by rw [World.size_alloc]; omega) ?_
          intro v2 w2 hown3 hg2 hat2)
        have hb2 : Below w.heap.size w w2 := (hbw.alloc hbs _).grown hg2 (by rw [World.size_alloc]; omega) (fun k hk => (HO2.out.lt k hk).1)
        refine ⟨⟨i + 1, by omega, by go_num, ?_, hb2⟩, by simp [intOf]; omega⟩
        rw [HS.out, List.map_append, List.length_append]
        exact hown3
      · rw [if_neg (by simpa using hx2), List.append_nil] at hs
        have HS := Lib.hid hs
        have bz : ((x2 : Int) == 0) = false := by simp; exact hx2
        clear hs hx hdoc hx2
        go_wp2
        refine ⟨⟨i + 1, by omega, by go_num, ?_, hbw⟩, by simp [intOf]; omega⟩
        have h3 := HO.out
        rw [HS.out]
        exact h3
    · obtain rfl : i = L.length := by omega
      clear hdoc
      go_wp2
      go_ret
      refine ⟨_, rfl, ?_, hbw⟩
      have h3 := HO.out
      rw [List.take_of_length_le (Nat.le_refl _)] at h3 ⊢
      exact h3
set_option maxRecDepth 20000 in
theorem dold_any (h : IsDoc w B d made L v) (hl : L.length ≤ 8796093022207) :
    Calls Try.prog 61 #[.pointer (some ⟨d, 0, none⟩)] w fun e w' => e = .returned (oldVInt (aKeysInt true L).head?) ∧ Below w.heap.size w w' := by
  have hf := dfree_any h hl
  clear h
  have hkl := keys_le true L
  generalize aKeysInt true L = xs at *
  cases xs with
  | nil =>
    have o2 : oldVInt ([] : List Int).head? = .tuple #[.int .i64 0, .bool false] := rfl
    rw [o2]
    go_enter Try.func61, Try.ntmps61
    go_wp2_with fail
    refine hf.mono ?_
    rintro e w1 ⟨v1, rfl, hown, hb⟩
    obtain ⟨A1, c1, rfl⟩ := own_sliceInt hown
    go_wp2_with fail
    go_ret2
    exact ⟨rfl, hb⟩
  | cons x xs =>
    have o2 : oldVInt (x :: xs).head? = .tuple #[.int .i64 x, .bool true] := rfl
    rw [o2]
    have hlen : ((((x :: xs).length : Nat) : Int) == 0) = false := by simp; omega
    have hpos : (0 : Int) < (((x :: xs).length : Nat) : Int) := by simp only [List.length_cons]; omega
    obtain ⟨m, hm⟩ : ∃ m, (x :: xs).length = m := ⟨_, rfl⟩
    have hm0 : 0 < m := by rw [← hm]; simp
    rw [hm] at hf hlen hpos hkl
    go_enter Try.func61, Try.ntmps61
    go_wp2_with fail
    refine hf.mono ?_
    rintro e w1 ⟨v1, rfl, hown, hb⟩
    obtain ⟨A1, c1, rfl⟩ := own_sliceInt hown
    obtain ⟨ad, u, rfl, had, hu, hcell⟩ := (Reads.of_own hown).at_ (k := 0) hm0
    obtain rfl : ekInt x = u := by simpa using hu
    unfold ekInt at hcell
    have hcell0 : w1.cell? ad = some (.int .i64 x) := by simpa [Addr.add] using hcell
    clear hown hu
    go_wp2_with fail
    go_ret2
    exact ⟨rfl, hb⟩
end
end Go.Proofs.Ytjddjjfcongnlaa
