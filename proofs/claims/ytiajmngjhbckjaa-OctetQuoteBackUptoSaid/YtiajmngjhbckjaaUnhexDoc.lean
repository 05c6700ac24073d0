/- The contract of octet.Unhex. -/
import Derived.Test.YtiajmngjhbckjaaUnhexWalk
import Derived.Deep.RegionHeld3
namespace Go.Proofs.Ytiajmngjhbckjaa
open Go.RowKit
theorem belowN {B : Nat} {a w : World} (h : Below B a w) (n : Nat) : Below B a (w.drewN n) := ⟨h.os, h.tape, h.output, h.size, h.block⟩
theorem or_half (x y : Int) (h0 : 0 ≤ x) (h1 : x < 16) (h2 : 0 ≤ y) (h3 : y < 16) : bits .or .i64 (x * 16) y = 16 * x + y := by
  have : ∀ a b : Fin 16, bits .or .i64 ((a.val : Int) * 16) (b.val : Int) = 16 * (a.val : Int) + (b.val : Int) := by decide +kernel
  obtain ⟨a, rfl⟩ := Int.eq_ofNat_of_zero_le h0
  obtain ⟨b, rfl⟩ := Int.eq_ofNat_of_zero_le h2
  exact this ⟨a, by omega⟩ ⟨b, by omega⟩
theorem index_any (c : Nat) (w : World) (h : c < 256) : Calls Try.prog 26 #[.string ⟨#[48, 49, 50, 51, 52, 53, 54, 55, 56, 57, 97, 98, 99, 100, 101, 102]⟩, .int .u8 c] w fun e w' => e = .returned (.int .i64 (nib c)) ∧ w' = w := by
  have := Try.strings_IndexByte ⟨#[48, 49, 50, 51, 52, 53, 54, 55, 56, 57, 97, 98, 99, 100, 101, 102]⟩ c w
  rw [Int.toNat_natCast] at this
  rw [← indexByte_nib c h]
  exact this
set_option maxHeartbeats 2000000 in
theorem unhex_any (s : ByteArray) (w : World) (hs : s.size ≤ 2097152) : Calls Try.prog 16 #[.string s] w fun e w' => unhxOut s w e w' := by
  by_cases hodd : s.size % 2 = 1
  · have hu := unhx_odd (nums s) (by rw [nums_length]; exact hodd)
    unfold unhxOut
    rw [hu]
    have hm : (s.size : Int) % 2 = 1 := by omega
    go_enter Try.func16, Try.ntmps16
    go_wp2
    go_ret2
    exact ⟨_, rfl, ⟨rfl, .inl ⟨rfl, rfl⟩⟩, Below.refl _ _⟩
  · obtain ⟨i0, hi0, hz0, hz1, hz2⟩ := info_parts info5
    have hm : (s.size : Int) % 2 = 0 := by omega
    go_enter Try.func16, Try.ntmps16
    go_wp2
    go_loopw [4, 5] (fun v i wr => ∃ (k : Nat) (o : List Nat), 2 * k ≤ s.size ∧ i = .int .i64 (2 * k : Nat) ∧ o.length = k ∧ unhx (nums s) = (unhx ((nums s).drop (2 * k))).map (o ++ ·) ∧ wr.ownsRow w.heap.size 5 1 v o.length (o.map byt) ∧ Below w.heap.size w wr) (fun _ i _ => s.size - (intOf i).toNat)
    case atStart => exact ⟨0, [], by omega, rfl, rfl, by simp, ⟨rfl, .inl ⟨rfl, rfl⟩⟩, Below.refl _ _⟩
    case round =>
      clear hm
      obtain ⟨k, o, hk, rfl, hol, hu, hown, hbw⟩ := hrel
      have hbs := hbw.size
      by_cases hlt : 2 * k < s.size
      · have hlt1 : 2 * k + 1 < s.size := by omega
        obtain ⟨a, ha⟩ : ∃ a, (s[2 * k]'hlt).toNat = a := ⟨_, rfl⟩
        obtain ⟨b, hb⟩ : ∃ b, (s[2 * k + 1]'hlt1).toNat = b := ⟨_, rfl⟩
        have hd := drop2 ((nums_at s _ hlt).trans (congrArg some ha)) ((nums_at s _ hlt1).trans (congrArg some hb))
        rw [hd, unhx] at hu
        have ha8 : a < 256 := ha ▸ (s[2 * k]'hlt).toNat_lt
        have hb8 : b < 256 := hb ▸ (s[2 * k + 1]'hlt1).toNat_lt
        have na := nib_lt a; have nb := nib_lt b
        obtain ⟨x, hx⟩ : ∃ x, nib a = x := ⟨_, rfl⟩
        obtain ⟨y, hy⟩ : ∃ y, nib b = y := ⟨_, rfl⟩
        rw [hx] at na hu; rw [hy] at nb hu
        have HU := Lib.hid hu; clear hu hd
        have hk0 : (0 : Int) ≤ 2 * (k : Int) := by omega
        have hk2 : 2 * (k : Int) < (s.size : Int) := by omega
        have hk3 : (0 : Int) ≤ 2 * (k : Int) + 1 := by omega
        have hk1 : 2 * (k : Int) + 1 < (s.size : Int) := by omega
        obtain ⟨na0, na1⟩ := na; obtain ⟨nb0, nb1⟩ := nb
        by_cases hbad : x < 0 ∨ y < 0
        · have hu := HU.out
          rw [if_pos hbad] at hu
          have hu1 : unhx (nums s) = none := hu
          have HN := Lib.hid hu1; clear hu hu1 HU
          by_cases hxn : x < 0
          · clear hbad
            go_wp2
            go_quiet ((go_at_call 26; refine Calls.quiet_of_same (index_any _ _ (by first | exact ha8 | exact hb8))))
            go_wp2
            go_ret2
            unfold unhxOut
            rw [HN.out]
            exact ⟨_, rfl, ⟨rfl, .inl ⟨rfl, rfl⟩⟩, belowN hbw _⟩
          · have hyn : y < 0 := by omega
            clear hbad
            go_wp2
            go_quiet ((go_at_call 26; refine Calls.quiet_of_same (index_any _ _ (by first | exact ha8 | exact hb8))))
            go_wp2
            go_ret2
            unfold unhxOut
            rw [HN.out]
            exact ⟨_, rfl, ⟨rfl, .inl ⟨rfl, rfl⟩⟩, belowN hbw _⟩
        · have hx0 : 0 ≤ x := by omega
          have hy0 : 0 ≤ y := by omega
          have hu := HU.out
          rw [if_neg hbad] at hu
          have HN := Lib.hid hu; clear hu HU hbad
          have hbyt : byt (16 * x + y).toNat = .int .u8 (16 * x + y) := by
            show Value.int _ (((16 * x + y).toNat : Nat) : Int) = _
            rw [Int.toNat_of_nonneg (by omega)]
          have hor := or_half x y hx0 na1 hy0 nb1
          have hmod : (16 * x + y) % 256 = 16 * x + y := by omega
          go_wp2
          go_quiet ((go_at_call 26; refine Calls.quiet_of_same (index_any _ _ (by first | exact ha8 | exact hb8))))
          have hbwn := belowN hbw nq
          have hbn : w.heap.size ≤ (wr.drewN nq).heap.size := hbs
          have hownn : (wr.drewN nq).ownsRow w.heap.size 5 1 u4 o.length (o.map byt) := hown
          have hown2 := hownn.alloc (.cells #[.int .u8 (16 * x + y)] 5)
          go_wp2_with (at_builtin
                       refine wpList_append_any _ rfl (.tmp 33) (.tmp 39) _ rfl w.heap.size 5 i0 _ 1 1 Try.underlying23 hi0 hz0 hz1 hz2 rfl (by omega) _ o.length _ rfl hown2 ((wr.drewN nq).heap.size + 1) (some ⟨(wr.drewN nq).heap.size, 0, none⟩) 1 1 [.int .u8 (16 * x + y)] rfl (Reads.one_new _ _ _) (by intro u hu; rw [List.mem_singleton.1 hu]; rfl) (by simp only [maxLen]; omega) (by omega) (by simp only [World.size_alloc]; omega) ?_
                       intro v2 w2 hown3 hg2 hat2)
          have hb2 : Below w.heap.size w w2 := (hbwn.alloc hbn _).grown hg2 (by simp only [World.size_alloc]; omega) (fun k hk => (hown2.lt k hk).1)
          refine ⟨⟨k + 1, o ++ [(16 * x + y).toNat], by omega, by go_num, by simp [hol], ?_, ?_, hb2⟩, by simp [intOf]; omega⟩
          · rw [HN.out, Option.map_map, show 2 * (k + 1) = 2 * k + 2 from by omega]
            congr 1
            funext z
            simp
          · rw [List.length_append, List.map_append, List.map_singleton, hbyt]
            exact hown3
      · have hk2 : 2 * k = s.size := by omega
        have hu1 : unhx (nums s) = some o := by
          rw [hu, List.drop_of_length_le (by rw [nums_length]; omega)]
          simp [unhx]
        have HN := Lib.hid hu1; clear hu hu1
        have hki : ((2 * k : Nat) : Int) = (s.size : Int) := by omega
        clear hk hlt
        go_wp2
        go_ret2
        unfold unhxOut
        rw [HN.out]
        exact ⟨_, rfl, hown, hbw⟩
end Go.Proofs.Ytiajmngjhbckjaa
