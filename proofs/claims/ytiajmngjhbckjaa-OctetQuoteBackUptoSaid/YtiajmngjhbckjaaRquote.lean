/- The contract of spindleref01.Quote. -/
import Derived.Test.YtiajmngjhbckjaaRune
import Derived.Test.YtiajmngjhbckjaaQuote
namespace Go.Proofs.Ytiajmngjhbckjaa
open Go.RowKit
theorem hx8_num (v : Nat) (h : v < 16) : (hx8 v).toNat = hexd v := by
  have : ∀ i : Fin 16, (hx8 i.val).toNat = hexd i.val := by decide
  exact this ⟨v, h⟩
theorem digit_hx (v : Int) (w : World) (h0 : 0 ≤ v) (hv : v < 16) : Calls Try.prog 25 #[.int .u8 v] w fun e w' => e = .returned (.int .u8 ((hx8 v.toNat).toNat : Nat)) ∧ w = w' := by
  rw [hx8_num _ (by omega)]
  exact (digit_int v w h0 hv).mono fun e w' ⟨h1, h2⟩ => ⟨h1, h2.symm⟩
theorem rune_same (s : ByteArray) (i n : Nat) (w : World) (hs : s.size ≤ 9223372036854775807) (h : runeAt s i = n) :
    Calls Try.prog 32 #[.string s, .int .i64 i] w fun e w' => e = .returned (.int .i64 n) ∧ w = w' := by
  rw [← h]
  exact (rune_any s i w hs).mono fun e w' ⟨h1, h2⟩ => ⟨h1, h2.symm⟩
theorem conv_bytes {P : Program} {w : World} {src dst e : TypeId} (hs : P.underlying src = some (.slice e)) (he : P.underlying e = some (.int .u8)) (hd : P.underlying dst = some .string)
    {B : Nat} {A : Option Addr} {n c : Nat} {l : List UInt8} (h : Reads w B 1 A n (Lib.byteCells l)) : (convert src dst (.slice A n c)).run P w = .ok (.string ⟨l.toArray⟩) w := by
  have e1 : Lib.byteCells l = (l.map UInt8.toNat).map byt := by rw [List.map_map]; rfl
  rw [e1] at h
  have := conv_back (c := c) hs he hd h (by intro x hx; obtain ⟨y, _, rfl⟩ := List.mem_map.1 hx; exact y.toNat_lt)
  have e2 : strOf (l.map UInt8.toNat) = ⟨l.toArray⟩ := by
    unfold strOf
    rw [List.map_map]
    congr 2
    conv => rhs; rw [← List.map_id l]
    refine List.map_congr_left fun x _ => ?_
    simp
  rwa [e2] at this
theorem strCells_extract (s : ByteArray) (i n : Nat) : Lib.strCells (s.extract i (i + n)) = Lib.byteCells ((s.data.toList.drop i).take n) := by
  unfold Lib.strCells Lib.byteCells
  rw [Lib.extract_data]
  simp
/-- A list literal behind an owned row. -/
theorem own_cells {w : World} {base : Nat} {v : Value} {a b : List UInt8} (h : w.ownsRow base 5 1 v (a.length + b.length) (Lib.byteCells a ++ Lib.byteCells b)) : w.ownsRow base 5 1 v (a ++ b).length (Lib.byteCells (a ++ b)) := by
  rw [List.length_append, Lib.byteCells_append]; exact h
theorem last_cells {w : World} {base : Nat} {v : Value} {a : List UInt8} (h : w.ownsRow base 5 1 v (a.length + 1) (Lib.byteCells a ++ [.int .u8 34])) : w.ownsRow base 5 1 v (a.length + 1) (Lib.byteCells (a ++ [34])) := by
  rw [Lib.byteCells_append]; exact h
set_option maxHeartbeats 4000000 in
set_option maxRecDepth 100000 in
theorem rquote_any (s : ByteArray) (w : World) (hs : s.size ≤ 8388608) :
    Calls Try.prog 22 #[.string s] w fun e w' => e = .returned (.string ⟨(quoteL s.data.toList).toArray⟩) ∧ Below w.heap.size w w' := by
  have hsl := size_toList s
  obtain ⟨i0, hi0, hz0, hz1, hz2⟩ := info_parts info5
  go_enter Try.func22, Try.ntmps22
  go_wp2
  go_loopw [3, 4] (fun v iv wr => ∃ (i : Nat) (acc : List UInt8), i ≤ s.size ∧ iv = .int .i64 i ∧ wr.ownsRow w.heap.size 5 1 v acc.length (Lib.byteCells acc) ∧ Below w.heap.size w wr ∧ acc ++ (quoteB (s.data.toList.drop i) ++ [34]) = quoteL s.data.toList ∧ acc.length ≤ 4 * i + 1) (fun _ iv _ => s.size - (intOf iv).toNat)
  case atStart =>
    refine ⟨0, [34], by omega, rfl, ⟨rfl, .inr ⟨_, 1, _, rfl, Nat.le_refl _, heap_alloc_new w _, by simp, by simp only [maxLen]; omega, rfl, rfl⟩⟩, (Below.refl _ _).alloc (Nat.le_refl _) _, rfl, by simp⟩
  case round =>
    obtain ⟨i, acc, his, rfl, hown, hbw, hacc, hal⟩ := hrel
    have hbs := hbw.size
    have HACC := Lib.hid hacc; clear hacc
    by_cases hlt : i < s.size
    · obtain ⟨hw, hO⟩ := outQ_doc s i hlt
      have hne : s.data.toList.drop i ≠ [] := by intro e; have := congrArg List.length e; simp at this; omega
      have hstep := quoteB_step _ hne
      rw [List.drop_drop] at hstep
      have hrl := runeAt_step s i hlt
      have hlo := outQ_le (s.data.toList.drop i)
      have hr4 := hrl.1
      have hrin := hrl.2.2
      clear hrl
      rw [hw] at hlo hstep
      have hget := byteAt_get s i hlt
      have hc8 := byteAt_lt s i
      generalize outQ (s.data.toList.drop i) = O at *
      obtain ⟨n, hn⟩ : ∃ n, runeAt s i = n := ⟨_, rfl⟩
      rw [hn] at hO hw hr4 hrin hstep hlo
      generalize byteAt s i = c at *
      have rn := fun w => rune_same s i n w (by omega) hn
      have hil : (i : Int) < (s.size : Int) := by omega
      have HST := Lib.hid hstep; have HR := Lib.hid hrin
      clear hn hw hstep hrin
      have hal4 : acc.length ≤ 33554433 := by omega
      have fin : ∀ (v2 : Value) (w2 : World), w2.ownsRow w.heap.size 5 1 v2 (acc.length + O.length) (Lib.byteCells acc ++ Lib.byteCells O) → Below w.heap.size w w2 → ∀ z : Int, z = (i : Int) + (if n = 0 then 1 else n : Nat) → z ≤ (s.size : Int) →
          (∃ (i' : Nat) (acc' : List UInt8), i' ≤ s.size ∧ Value.int .i64 z = .int .i64 i' ∧ w2.ownsRow w.heap.size 5 1 v2 acc'.length (Lib.byteCells acc') ∧ Below w.heap.size w w2 ∧ acc' ++ (quoteB (s.data.toList.drop i') ++ [34]) = quoteL s.data.toList ∧ acc'.length ≤ 4 * i' + 1) ∧
          s.size - (intOf (.int .i64 z)).toNat < s.size - (intOf (.int .i64 (i : Int))).toNat := by
        intro v2 w2 h1 h2 z hm hms
        obtain ⟨m, rfl⟩ : ∃ m : Nat, z = m := ⟨z.toNat, by omega⟩
        have hn1 : 1 ≤ if n = 0 then 1 else n := by split <;> omega
        refine ⟨⟨m, acc ++ O, by omega, rfl, own_cells h1, h2, ?_, by rw [List.length_append]; omega⟩, by simp only [intOf]; omega⟩
        rw [← HACC.out, HST.out, show m = i + (if n = 0 then 1 else n) by omega]; simp
      have FIN := Lib.hid fin; clear fin
      have e15 := and15 hc8
      by_cases hA : c = 34 ∨ c = 92
      · rw [if_pos hA] at hO
        have HO := Lib.hid hO; clear hO
        rcases hA with rfl | rfl
        · skip
          by_cases hn0 : n = 0
          · subst hn0
            clear e15
            go_wp2_with (first
              | (go_at_call 32; refine (rn _).mono ?_; rintro e w1 ⟨rfl, rfl⟩)
              | (at_builtin
                 refine wpList_append_any _ rfl (.tmp 33) (.tmp 35) _ rfl w.heap.size 5 i0 _ 1 1 Try.underlying23 hi0 hz0 hz1 hz2 rfl (by omega) _ acc.length _ rfl (hown.alloc _) (wr.heap.size + 1) (some ⟨wr.heap.size, 0, none⟩) 2 2 [.int .u8 92, .int .u8 34] rfl (Reads.new_list _ _ _) (by intro u hu; simp at hu; rcases hu with rfl | rfl <;> rfl) (by simp only [maxLen]; omega) (by omega) (by simp; omega) ?_
                 intro v2 w2 hown3 hg2 hat2))
            have hb2 : Below w.heap.size w w2 := (hbw.alloc hbs _).grown hg2 (by simp; omega) (fun k hk => (hown.lt k hk).1)
            have hbc : Lib.byteCells O = [.int .u8 92, .int .u8 34] := by rw [HO.out]; rfl
            have hlo2 : O.length = 2 := by rw [HO.out]; rfl
            rw [← hbc, ← hlo2] at hown3
            exact FIN.out v2 w2 hown3 hb2 _ (by simp) (by omega)
          · have hn0' := hn0
            have bn : ((n : Int) == 0) = false := by simp; exact hn0
            have hin := (HR.out hn0).1
            clear hn0 e15
            have HN := Lib.hid hn0'; clear hn0'
            go_wp2_with (first
              | (go_at_call 32; refine (rn _).mono ?_; rintro e w1 ⟨rfl, rfl⟩)
              | (at_builtin
                 refine wpList_append_any _ rfl (.tmp 33) (.tmp 35) _ rfl w.heap.size 5 i0 _ 1 1 Try.underlying23 hi0 hz0 hz1 hz2 rfl (by omega) _ acc.length _ rfl (hown.alloc _) (wr.heap.size + 1) (some ⟨wr.heap.size, 0, none⟩) 2 2 [.int .u8 92, .int .u8 34] rfl (Reads.new_list _ _ _) (by intro u hu; simp at hu; rcases hu with rfl | rfl <;> rfl) (by simp only [maxLen]; omega) (by omega) (by simp; omega) ?_
                 intro v2 w2 hown3 hg2 hat2))
            have hb2 : Below w.heap.size w w2 := (hbw.alloc hbs _).grown hg2 (by simp; omega) (fun k hk => (hown.lt k hk).1)
            have hbc : Lib.byteCells O = [.int .u8 92, .int .u8 34] := by rw [HO.out]; rfl
            have hlo2 : O.length = 2 := by rw [HO.out]; rfl
            rw [← hbc, ← hlo2] at hown3
            exact FIN.out v2 w2 hown3 hb2 _ (by rw [if_neg HN.out]) (by omega)
        · skip
          by_cases hn0 : n = 0
          · subst hn0
            clear e15
            go_wp2_with (first
              | (go_at_call 32; refine (rn _).mono ?_; rintro e w1 ⟨rfl, rfl⟩)
              | (at_builtin
                 refine wpList_append_any _ rfl (.tmp 33) (.tmp 35) _ rfl w.heap.size 5 i0 _ 1 1 Try.underlying23 hi0 hz0 hz1 hz2 rfl (by omega) _ acc.length _ rfl (hown.alloc _) (wr.heap.size + 1) (some ⟨wr.heap.size, 0, none⟩) 2 2 [.int .u8 92, .int .u8 92] rfl (Reads.new_list _ _ _) (by intro u hu; simp at hu; rcases hu with rfl | rfl <;> rfl) (by simp only [maxLen]; omega) (by omega) (by simp; omega) ?_
                 intro v2 w2 hown3 hg2 hat2))
            have hb2 : Below w.heap.size w w2 := (hbw.alloc hbs _).grown hg2 (by simp; omega) (fun k hk => (hown.lt k hk).1)
            have hbc : Lib.byteCells O = [.int .u8 92, .int .u8 92] := by rw [HO.out]; rfl
            have hlo2 : O.length = 2 := by rw [HO.out]; rfl
            rw [← hbc, ← hlo2] at hown3
            exact FIN.out v2 w2 hown3 hb2 _ (by simp) (by omega)
          · have hn0' := hn0
            have bn : ((n : Int) == 0) = false := by simp; exact hn0
            have hin := (HR.out hn0).1
            clear hn0 e15
            have HN := Lib.hid hn0'; clear hn0'
            go_wp2_with (first
              | (go_at_call 32; refine (rn _).mono ?_; rintro e w1 ⟨rfl, rfl⟩)
              | (at_builtin
                 refine wpList_append_any _ rfl (.tmp 33) (.tmp 35) _ rfl w.heap.size 5 i0 _ 1 1 Try.underlying23 hi0 hz0 hz1 hz2 rfl (by omega) _ acc.length _ rfl (hown.alloc _) (wr.heap.size + 1) (some ⟨wr.heap.size, 0, none⟩) 2 2 [.int .u8 92, .int .u8 92] rfl (Reads.new_list _ _ _) (by intro u hu; simp at hu; rcases hu with rfl | rfl <;> rfl) (by simp only [maxLen]; omega) (by omega) (by simp; omega) ?_
                 intro v2 w2 hown3 hg2 hat2))
            have hb2 : Below w.heap.size w w2 := (hbw.alloc hbs _).grown hg2 (by simp; omega) (fun k hk => (hown.lt k hk).1)
            have hbc : Lib.byteCells O = [.int .u8 92, .int .u8 92] := by rw [HO.out]; rfl
            have hlo2 : O.length = 2 := by rw [HO.out]; rfl
            rw [← hbc, ← hlo2] at hown3
            exact FIN.out v2 w2 hown3 hb2 _ (by rw [if_neg HN.out]) (by omega)
      rw [if_neg hA] at hO
      have b1 : ((c : Int) == 34) = false := by simp; omega
      have b2 : ((c : Int) == 92) = false := by simp; omega
      by_cases hB : c = 10
      · rw [if_pos hB] at hO
        have HO := Lib.hid hO; clear hO
        subst hB
        by_cases hn0 : n = 0
        · subst hn0
          clear hA
          go_wp2_with (first
            | (go_at_call 32; refine (rn _).mono ?_; rintro e w1 ⟨rfl, rfl⟩)
            | (at_builtin
               refine wpList_append_any _ rfl (.tmp 40) (.tmp 41) _ rfl w.heap.size 5 i0 _ 1 1 Try.underlying23 hi0 hz0 hz1 hz2 rfl (by omega) _ acc.length _ rfl (hown.alloc _) (wr.heap.size + 1) (some ⟨wr.heap.size, 0, none⟩) 2 2 [.int .u8 92, .int .u8 110] rfl (Reads.new_list _ _ _) (by intro u hu; simp at hu; rcases hu with rfl | rfl <;> rfl) (by simp only [maxLen]; omega) (by omega) (by simp; omega) ?_
               intro v2 w2 hown3 hg2 hat2))
          have hb2 : Below w.heap.size w w2 := (hbw.alloc hbs _).grown hg2 (by simp; omega) (fun k hk => (hown.lt k hk).1)
          have hbc : Lib.byteCells O = [.int .u8 92, .int .u8 110] := by rw [HO.out]; rfl
          have hlo2 : O.length = 2 := by rw [HO.out]; rfl
          rw [← hbc, ← hlo2] at hown3
          exact FIN.out v2 w2 hown3 hb2 _ (by simp) (by omega)
        · have hn0' := hn0
          have bn : ((n : Int) == 0) = false := by simp; exact hn0
          have hin := (HR.out hn0).1
          clear hn0 hA
          have HN := Lib.hid hn0'; clear hn0'
          go_wp2_with (first
            | (go_at_call 32; refine (rn _).mono ?_; rintro e w1 ⟨rfl, rfl⟩)
            | (at_builtin
               refine wpList_append_any _ rfl (.tmp 40) (.tmp 41) _ rfl w.heap.size 5 i0 _ 1 1 Try.underlying23 hi0 hz0 hz1 hz2 rfl (by omega) _ acc.length _ rfl (hown.alloc _) (wr.heap.size + 1) (some ⟨wr.heap.size, 0, none⟩) 2 2 [.int .u8 92, .int .u8 110] rfl (Reads.new_list _ _ _) (by intro u hu; simp at hu; rcases hu with rfl | rfl <;> rfl) (by simp only [maxLen]; omega) (by omega) (by simp; omega) ?_
               intro v2 w2 hown3 hg2 hat2))
          have hb2 : Below w.heap.size w w2 := (hbw.alloc hbs _).grown hg2 (by simp; omega) (fun k hk => (hown.lt k hk).1)
          have hbc : Lib.byteCells O = [.int .u8 92, .int .u8 110] := by rw [HO.out]; rfl
          have hlo2 : O.length = 2 := by rw [HO.out]; rfl
          rw [← hbc, ← hlo2] at hown3
          exact FIN.out v2 w2 hown3 hb2 _ (by rw [if_neg HN.out]) (by omega)
      rw [if_neg hB] at hO
      have b3 : ((c : Int) == 10) = false := by simp; omega
      by_cases hC : n = 0 ∨ c < 32 ∨ c = 127
      · rw [if_pos hC] at hO
        have HO := Lib.hid hO; clear hO
        by_cases hn0 : n = 0
        · subst hn0
          clear hA hB hC
          go_wp2_with (first
            | (go_at_call 32; refine (rn _).mono ?_; rintro e w1 ⟨rfl, rfl⟩)
            | (go_at_call 25; refine (digit_hx _ _ (by omega) (by omega)).mono ?_; rintro e w' ⟨rfl, rfl⟩)
            | (at_builtin
               refine wpList_append_any _ rfl (.tmp 54) (.tmp 61) _ rfl w.heap.size 5 i0 _ 1 1 Try.underlying23 hi0 hz0 hz1 hz2 rfl (by omega) _ acc.length _ rfl (hown.alloc _) (wr.heap.size + 1) (some ⟨wr.heap.size, 0, none⟩) 4 4 [.int .u8 92, .int .u8 120, .int .u8 ((hx8 (c / 16)).toNat : Nat), .int .u8 ((hx8 (c % 16)).toNat : Nat)] rfl (Reads.new_list _ _ _) (by intro u hu; simp at hu; rcases hu with rfl | rfl | rfl | rfl <;> rfl) (by simp only [maxLen]; omega) (by omega) (by simp; omega) ?_
               intro v2 w2 hown3 hg2 hat2))
          have hb2 : Below w.heap.size w w2 := (hbw.alloc hbs _).grown hg2 (by simp; omega) (fun k hk => (hown.lt k hk).1)
          have hbc : Lib.byteCells O = [.int .u8 92, .int .u8 120, .int .u8 ((hx8 (c / 16)).toNat : Nat), .int .u8 ((hx8 (c % 16)).toNat : Nat)] := by rw [HO.out]; rfl
          have hlo2 : O.length = 4 := by rw [HO.out]; rfl
          rw [← hbc, ← hlo2] at hown3
          exact FIN.out v2 w2 hown3 hb2 _ (by simp) (by omega)
        · have bn : ((n : Int) == 0) = false := by simp; exact hn0
          have hin := (HR.out hn0).1
          have HN := Lib.hid hn0
          by_cases h32 : c < 32
          · clear hA hB hC hn0
            go_wp2_with (first
              | (go_at_call 32; refine (rn _).mono ?_; rintro e w1 ⟨rfl, rfl⟩)
              | (go_at_call 25; refine (digit_hx _ _ (by omega) (by omega)).mono ?_; rintro e w' ⟨rfl, rfl⟩)
              | (at_builtin
                 refine wpList_append_any _ rfl (.tmp 54) (.tmp 61) _ rfl w.heap.size 5 i0 _ 1 1 Try.underlying23 hi0 hz0 hz1 hz2 rfl (by omega) _ acc.length _ rfl (hown.alloc _) (wr.heap.size + 1) (some ⟨wr.heap.size, 0, none⟩) 4 4 [.int .u8 92, .int .u8 120, .int .u8 ((hx8 (c / 16)).toNat : Nat), .int .u8 ((hx8 (c % 16)).toNat : Nat)] rfl (Reads.new_list _ _ _) (by intro u hu; simp at hu; rcases hu with rfl | rfl | rfl | rfl <;> rfl) (by simp only [maxLen]; omega) (by omega) (by simp; omega) ?_
                 intro v2 w2 hown3 hg2 hat2))
            have hb2 : Below w.heap.size w w2 := (hbw.alloc hbs _).grown hg2 (by simp; omega) (fun k hk => (hown.lt k hk).1)
            have hbc : Lib.byteCells O = [.int .u8 92, .int .u8 120, .int .u8 ((hx8 (c / 16)).toNat : Nat), .int .u8 ((hx8 (c % 16)).toNat : Nat)] := by rw [HO.out]; rfl
            have hlo2 : O.length = 4 := by rw [HO.out]; rfl
            rw [← hbc, ← hlo2] at hown3
            exact FIN.out v2 w2 hown3 hb2 _ (by rw [if_neg HN.out]) (by omega)
          · obtain rfl : c = 127 := by omega
            clear hA hB hC hn0 h32
            go_wp2_with (first
              | (go_at_call 32; refine (rn _).mono ?_; rintro e w1 ⟨rfl, rfl⟩)
              | (go_at_call 25; refine (digit_hx _ _ (by omega) (by omega)).mono ?_; rintro e w' ⟨rfl, rfl⟩)
              | (at_builtin
                 refine wpList_append_any _ rfl (.tmp 54) (.tmp 61) _ rfl w.heap.size 5 i0 _ 1 1 Try.underlying23 hi0 hz0 hz1 hz2 rfl (by omega) _ acc.length _ rfl (hown.alloc _) (wr.heap.size + 1) (some ⟨wr.heap.size, 0, none⟩) 4 4 [.int .u8 92, .int .u8 120, .int .u8 ((hx8 7).toNat : Nat), .int .u8 ((hx8 15).toNat : Nat)] rfl (Reads.new_list _ _ _) (by intro u hu; simp at hu; rcases hu with rfl | rfl | rfl | rfl <;> rfl) (by simp only [maxLen]; omega) (by omega) (by simp; omega) ?_
                 intro v2 w2 hown3 hg2 hat2))
            have hb2 : Below w.heap.size w w2 := (hbw.alloc hbs _).grown hg2 (by simp; omega) (fun k hk => (hown.lt k hk).1)
            have hbc : Lib.byteCells O = [.int .u8 92, .int .u8 120, .int .u8 ((hx8 7).toNat : Nat), .int .u8 ((hx8 15).toNat : Nat)] := by rw [HO.out]; rfl
            have hlo2 : O.length = 4 := by rw [HO.out]; rfl
            rw [← hbc, ← hlo2] at hown3
            exact FIN.out v2 w2 hown3 hb2 _ (by rw [if_neg HN.out]) (by omega)
      · rw [if_neg hC] at hO
        have hn0 : n ≠ 0 := fun h => hC (.inl h)
        have bn : ((n : Int) == 0) = false := by simp; exact hn0
        have b4 : ¬ ((c : Int) < 32) := by omega
        have b5 : ((c : Int) == 127) = false := by simp; omega
        have hin := (HR.out hn0).1
        have HN := Lib.hid hn0
        have HO := Lib.hid hO
        clear hA hB hC hn0 hO
        have hsz : (s.extract i (i + n)).size = n := by rw [ByteArray.size_extract]; omega
        have hol : O.length = n := by rw [HO.out, List.length_take, List.length_drop, hsl]; omega
        have HL := Lib.hid hol; clear hol
        have k0 : (0 : Int) ≤ (i : Int) := by omega
        have k1 : (i : Int) ≤ (i : Int) + (n : Int) := by omega
        have k2 : (i : Int) + (n : Int) ≤ (s.size : Int) := by omega
        go_wp2_with (first
          | (go_at_call 32; refine (rn _).mono ?_; rintro e w1 ⟨rfl, rfl⟩)
          | (at_builtin
             refine Lib.wpList_append_own_string _ rfl (.tmp 18) (.tmp 24) 23 9 rfl w.heap.size 5 i0 Try.underlying23 Try.underlying9 hi0 hz0 hz1 hz2 _ acc.length _ rfl hown (s.extract i (i + n)) rfl ?c1 ?c2 ?c3 ?_
             case c1 => simp only [maxLen]; rw [hsz]; omega
             case c2 => rw [hsz]; omega
             case c3 => omega
             intro v2 w2 hown3 hg2 _))
        have hb2 : Below w.heap.size w w2 := hbw.grown hg2 hbs (fun k hk => (hown.lt k hk).1)
        rw [strCells_extract, hsz, ← HO.out, ← HL.out] at hown3
        exact FIN.out v2 w2 hown3 hb2 _ (by rw [if_neg HN.out]) (by omega)
    · obtain rfl : i = s.size := by omega
      have hq : acc ++ [34] = quoteL s.data.toList := by rw [← HACC.out, List.drop_of_length_le (by omega)]; rfl
      have HQ := Lib.hid hq; clear hq HACC
      clear hlt
      have hq := hown.alloc (.cells #[.int .u8 34] 5)
      go_wp2_with (
        at_builtin
        refine wpList_append_any _ rfl (.tmp 68) (.tmp 69) _ rfl w.heap.size 5 i0 _ 1 1 Try.underlying23 hi0 hz0 hz1 hz2 rfl (by omega) _ acc.length _ rfl hq (wr.heap.size + 1) (some ⟨wr.heap.size, 0, none⟩) 1 1 [.int .u8 34] rfl (Reads.one_new _ _ _) ?c1 ?c2 ?c3 ?c4 ?_
        case c1 => intro u hu; rw [List.mem_singleton.1 hu]; rfl
        case c2 => simp only [maxLen]; omega
        case c3 => omega
        case c4 => rw [World.size_alloc]; omega
        intro v2 w2 hown3 hg2 hat2
        have hb2 : Below w.heap.size w w2 := (hbw.alloc hbs _).grown hg2 (by simp; omega) (fun k hk => (hown.lt k hk).1)
        obtain ⟨A2, c2, rfl⟩ := own_slice' hown3
        have hown4 := last_cells hown3
        rw [HQ.out] at hown4
        clear HQ hown3 hg2 hat2 hq hown
        have hcv := conv_bytes (P := Try.prog) (c := c2) Try.underlying23 Try.underlying5 Try.underlying9 (Reads.of_own hown4))
      go_ret
      exact ⟨rfl, hb2⟩
end Go.Proofs.Ytiajmngjhbckjaa
