/- OctetHexes: the walk. -/
import Derived.Test.YtiajmngjhbckjaaUnhexDoc
import Derived.Test.YtiajmngjhbckjaaOwn
namespace Go.Proofs.Ytiajmngjhbckjaa
open Go.RowKit
theorem lent_reads {w : World} {g : Nat} {l : List Nat} {n : Nat} (hln : l.length = n) (hb : Blk w g 5 (lent l 70)) : Reads w (g + 1) 1 (some ⟨g, 0, none⟩) n (l.map byt) := by
  have hsz := lent_size l (j := 70) (by omega)
  have := Reads.of_blk (n := n) (size := 1) hb (Nat.lt_succ_self g) (by omega)
  have e : (lent l 70).toList.take (n * 1) = l.map byt := by
    simp only [lent, List.append_assoc, Nat.mul_one]
    rw [List.take_append_of_le_length (by simp [hln]), List.take_of_length_le (by simp [hln])]
  rwa [e] at this
theorem own_le {w : World} {base base' size n : Nat} {e : TypeId} {v : Value} {xs : List Value} (h : w.ownsRow base e size v n xs) (hb : base' ≤ base) : w.ownsRow base' e size v n xs := by
  refine ⟨h.1, ?_⟩
  rcases h.2 with h2 | ⟨g, cap, cur, hv, hg, r⟩
  · exact .inl h2
  · exact .inr ⟨g, cap, cur, hv, Nat.le_trans hb hg, r⟩
theorem own_none {v : Value} (h : ¬ ∃ g, v.ownBlock = some g) : v.ownBlock = none := by
  cases hv : v.ownBlock with
  | none => rfl
  | some g => exact absurd ⟨g, hv⟩ h
theorem ne_of_parts {v v' : Value} {a : Nat} (h : ∀ g, v.ownBlock = some g → g < a) (h' : ∀ g, v'.ownBlock = some g → a ≤ g) : (v.ownBlock = none ∨ v.ownBlock ≠ v'.ownBlock) ∧ (v'.ownBlock = none ∨ v'.ownBlock ≠ v.ownBlock) := by
  constructor
  · by_cases hv : ∃ g, v.ownBlock = some g
    · obtain ⟨g, hv⟩ := hv
      right
      intro e
      have := h g hv
      have := h' g (e ▸ hv)
      omega
    · exact .inl (own_none hv)
  · by_cases hv : ∃ g, v'.ownBlock = some g
    · obtain ⟨g, hv⟩ := hv
      right
      intro e
      have := h' g hv
      have := h g (e ▸ hv)
      omega
    · exact .inl (own_none hv)
theorem apart3 {x y z : Value} (h1 : (x.ownBlock = none ∨ x.ownBlock ≠ y.ownBlock) ∧ (y.ownBlock = none ∨ y.ownBlock ≠ x.ownBlock)) (h2 : (x.ownBlock = none ∨ x.ownBlock ≠ z.ownBlock) ∧ (z.ownBlock = none ∨ z.ownBlock ≠ x.ownBlock)) (h3 : (y.ownBlock = none ∨ y.ownBlock ≠ z.ownBlock) ∧ (z.ownBlock = none ∨ z.ownBlock ≠ y.ownBlock)) : ApartOf [x, y, z] := by
  intro i j v v' hij hv hv'
  match i, j, hij, hv, hv' with
  | 0, 0, hij, _, _ => exact absurd rfl hij
  | 1, 1, hij, _, _ => exact absurd rfl hij
  | 2, 2, hij, _, _ => exact absurd rfl hij
  | 0, 1, _, hv, hv' => obtain rfl := Option.some.inj hv; obtain rfl := Option.some.inj hv'; exact h1.1
  | 1, 0, _, hv, hv' => obtain rfl := Option.some.inj hv; obtain rfl := Option.some.inj hv'; exact h1.2
  | 0, 2, _, hv, hv' => obtain rfl := Option.some.inj hv; obtain rfl := Option.some.inj hv'; exact h2.1
  | 2, 0, _, hv, hv' => obtain rfl := Option.some.inj hv; obtain rfl := Option.some.inj hv'; exact h2.2
  | 1, 2, _, hv, hv' => obtain rfl := Option.some.inj hv; obtain rfl := Option.some.inj hv'; exact h3.1
  | 2, 1, _, hv, hv' => obtain rfl := Option.some.inj hv; obtain rfl := Option.some.inj hv'; exact h3.2
theorem rows3 {w : World} {B : Nat} {x y z : Value} {a b c : List Nat} (hx : w.ownsRow B 5 1 x a.length (a.map byt)) (hy : w.ownsRow B 5 1 y b.length (b.map byt)) (hz : w.ownsRow B 5 1 z c.length (c.map byt)) : RowsOf w B [x, y, z] [a, b, c] fun _ l => l := by
  intro i v l hv hl
  match i, hv, hl with
  | 0, hv, hl => obtain rfl := Option.some.inj hv; obtain rfl := Option.some.inj hl; exact hx
  | 1, hv, hl => obtain rfl := Option.some.inj hv; obtain rfl := Option.some.inj hl; exact hy
  | 2, hv, hl => obtain rfl := Option.some.inj hv; obtain rfl := Option.some.inj hl; exact hz
theorem unhx_getD_length (s : ByteArray) : ((unhx (nums s)).getD []).length ≤ s.size := by
  cases h : unhx (nums s) with
  | none => simp
  | some o =>
    have := unhx_length _ _ h
    rw [nums_length] at this
    simp; omega
set_option maxHeartbeats 4000000 in
theorem hexes_any (A : Option Addr) (n c : Nat) (l : List Nat) (s : ByteArray) (W : World) (h : Reads W W.heap.size 1 A n (l.map byt)) (hb : ∀ x ∈ l, x < 256) (hn : n ≤ 1048576) (hs : s.size ≤ 1048576) :
    Calls Try.prog 5 #[.slice A n c, .string s] W fun e W' => e = .returned (.bool true) ∧ Below W.heap.size W W' := by
  have hln : l.length = n := by have := h.1; simpa using this
  go_enter Try.func5, Try.ntmps5
  go_wp2_with fail
  refine (lend_any _ _ _ l _ _ h (Nat.le_refl _) (by omega)).mono ?_
  rintro e w1 ⟨rfl, hblk1, hb1⟩
  have hs1 := hb1.size
  have hlt1 : W.heap.size < w1.heap.size := hblk1.lt
  have hr1 := lent_reads hln hblk1
  go_wp2_with fail
  refine (hex_any _ n _ l _ _ hr1 hlt1 hb hn).mono ?_
  rintro e w2 ⟨rfl, hb2⟩
  have hs2 := hb2.size
  have hblk2 := Blk.below hblk1 hb2 hlt1
  have hW2 : Below W.heap.size W w2 := hb1.trans (hb2.mono hs1)
  have hsz : (strOf (hexL l)).size = 2 * n := by rw [← nums_length, nums_strOf (hexL_lt l hb), hexL_length, hln]
  have hunh : unhx (nums (strOf (hexL l))) = some l := by rw [nums_strOf (hexL_lt l hb), unhx_hexL l hb]
  have hH : (⟨((hexL l).map Nat.toUInt8).toArray⟩ : ByteArray) = strOf (hexL l) := rfl
  have rhex := rhex_any A n c l
  rw [hH] at *
  generalize strOf (hexL l) = H at *
  clear hH
  have HSZ := Lib.hid hsz; have HUN := Lib.hid hunh; clear hsz hunh
  go_wp2_with fail
  refine (rhex _ _ (h.below hW2) (by omega) hb hn).mono ?_
  rintro e w3 ⟨rfl, hb3⟩
  have hs3 := hb3.size
  have hblk3 := Blk.below hblk2 hb3 (by omega)
  have hW3 : Below W.heap.size W w3 := hW2.trans (hb3.mono (by omega))
  go_wp2_with fail
  refine (kept_any _ _ A n l _ _ hblk3 (h.below hW3) (by omega)).mono ?_
  rintro e w4 ⟨rfl, m4, rfl⟩
  have hW4 : Below W.heap.size W (w3.drewN m4) := belowN hW3 m4
  have hs4 := hW4.size
  generalize w3.drewN m4 = w4 at *
  go_wp2_with fail
  refine (unhex_any s w4 (by omega)).mono ?_
  rintro e w5 ⟨vx, rfl, hx5, hb5⟩
  have hlx := unhx_getD_length s
  have ry := fun w => runhex_any s w (by omega)
  unfold unhxOut at ry
  generalize (unhx (nums s)).getD [] = ox at *
  generalize hF : (if (unhx (nums s)).isSome then (0 : Int) else 15) = F at *
  obtain ⟨Ax, cx, rfl⟩ := own_slice' hx5
  have hs5 := hb5.size
  have hW5 : Below W.heap.size W w5 := hW4.trans (hb5.mono hs4)
  go_wp2_with fail
  refine (ry _).mono ?_
  rintro e w6 ⟨vy, rfl, hy6, hb6⟩
  obtain ⟨Ay, cy, rfl⟩ := own_slice' hy6
  have hs6 := hb6.size
  have hx6 := own_below hx5 hb6
  have hW6 : Below W.heap.size W w6 := hW5.trans (hb6.mono (by omega))
  go_wp2_with fail
  refine (same_any _ _ _ _ _ _ ox ox _ _ w6 (Reads.of_own hx6) (Reads.of_own hy6) (by omega) (by omega)).mono ?_
  rintro e w7 ⟨rfl, m7, rfl⟩
  have hW7 : Below W.heap.size W (w6.drewN m7) := belowN hW6 m7
  have hs7 := hW7.size
  have hx7 : (w6.drewN m7).ownsRow w4.heap.size 5 1 (.slice Ax ox.length cx) ox.length (ox.map byt) := hx6
  generalize w6.drewN m7 = w7 at *
  rw [decide_eq_true (Eq.refl ox)]
  go_wp2_with fail
  have ub := fun w => unhex_any H w (by rw [HSZ.out]; omega)
  unfold unhxOut at ub
  rw [HUN.out] at ub
  refine (ub w7).mono ?_
  rintro e w8 ⟨vb, rfl, hk8, hb8⟩
  simp only [Option.getD_some] at hk8
  rw [hln] at hk8
  obtain ⟨Ab, cb, rfl⟩ := own_slice' hk8
  have hs8 := hb8.size
  have hx8 := own_below (hx7) hb8
  have hW8 : Below W.heap.size W w8 := hW7.trans (hb8.mono hs7)
  go_wp2_with fail
  refine (ub w8).mono ?_
  rintro e w9 ⟨va, rfl, ha9, hb9⟩
  simp only [Option.getD_some] at ha9
  rw [hln] at ha9
  obtain ⟨Aa, ca, rfl⟩ := own_slice' ha9
  have hs9 := hb9.size
  have hx9 := own_below hx8 hb9
  have hk9 := own_below hk8 hb9
  have hW9 : Below W.heap.size W w9 := hW8.trans (hb9.mono (by omega))
  simp only [Option.isSome_some, if_true]
  go_wp2_with fail
  have hkb := Reads.of_own hk9
  have hab := Reads.of_own ha9
  refine (same_any _ _ _ _ _ _ l l _ _ w9 hkb (h.below hW9) (by omega) (by omega)).mono ?_
  rintro e w10 ⟨rfl, m10, rfl⟩
  rw [decide_eq_true (Eq.refl l)]
  go_wp2_with fail
  refine (same_any _ _ _ _ _ _ l l _ _ (w9.drewN m10) hab ((h.below hW9).drewN m10) (by omega) (by omega)).mono ?_
  rintro e w11 ⟨rfl, m11, rfl⟩
  rw [decide_eq_true (Eq.refl l)]
  have hW11 : Below W.heap.size W ((w9.drewN m10).drewN m11) := belowN (belowN hW9 m10) m11
  have hx11 : ((w9.drewN m10).drewN m11).ownsRow W.heap.size 5 1 (.slice Ax ox.length cx) ox.length (ox.map byt) := own_le hx9 hs4
  have hk11 : ((w9.drewN m10).drewN m11).ownsRow W.heap.size 5 1 (.slice Ab n cb) l.length (l.map byt) := by rw [hln]; exact own_le hk9 hs7
  have ha11 : ((w9.drewN m10).drewN m11).ownsRow W.heap.size 5 1 (.slice Aa n ca) l.length (l.map byt) := by rw [hln]; exact own_le ha9 (by omega)
  have hap : ApartOf [Value.slice Ax ox.length cx, .slice Ab n cb, .slice Aa n ca] := by
    refine apart3 (ne_of_parts (a := w7.heap.size) (fun g hg => (hx7.lt g hg).2) (fun g hg => (hk8.lt g hg).1)) (ne_of_parts (a := w8.heap.size) (fun g hg => (hx8.lt g hg).2) (fun g hg => (ha9.lt g hg).1)) (ne_of_parts (a := w8.heap.size) (fun g hg => (hk8.lt g hg).2) (fun g hg => (ha9.lt g hg).1))
  have hs11 := hW11.size
  generalize (w9.drewN m10).drewN m11 = w11 at *
  have hrows := rows3 (hx11.alloc (.cells #[.slice Ax ox.length cx, .slice Ab n cb, .slice Aa n ca] 23)) (hk11.alloc (.cells #[.slice Ax ox.length cx, .slice Ab n cb, .slice Aa n ca] 23)) (ha11.alloc (.cells #[.slice Ax ox.length cx, .slice Ab n cb, .slice Aa n ca] 23))
  have hd : (w11.alloc (.cells #[.slice Ax ox.length cx, .slice Ab n cb, .slice Aa n ca] 23)).ownsRow W.heap.size 23 1 (.slice (some ⟨w11.heap.size, 0, none⟩) 3 3) 3 [.slice Ax ox.length cx, .slice Ab n cb, .slice Aa n ca] :=
    ⟨rfl, .inr ⟨_, 3, _, rfl, hs11, heap_alloc_new _ _, by omega, by simp only [maxLen]; omega, rfl, rfl⟩⟩
  go_wp2_with fail
  refine (own_any _ 3 3 W.heap.size _ _ _ hd hrows hap rfl ?_ (by omega) (by simp only [World.size_alloc]; omega)).mono ?_
  · intro l' hl'
    simp at hl'
    rcases hl' with rfl | rfl <;> omega
  rintro e w12 ⟨rfl, hb12⟩
  have hW12 : Below W.heap.size W w12 := (hW11.alloc hs11 _).trans hb12
  go_wp2_with fail
  go_ret
  exact ⟨rfl, hW12⟩
end Go.Proofs.Ytiajmngjhbckjaa
