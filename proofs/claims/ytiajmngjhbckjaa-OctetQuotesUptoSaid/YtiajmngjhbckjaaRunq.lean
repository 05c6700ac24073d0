/- The contract of spindleref01.Unquote. -/
import Derived.Test.YtiajmngjhbckjaaUnesc
namespace Go.Proofs.Ytiajmngjhbckjaa
open Go.RowKit
theorem half_same (c : Nat) (w : World) (hc : c < 256) : Calls Try.prog 27 #[.int .u8 c] w fun e w' => e = .returned (.int .i64 (nib c)) ∧ w = w' :=
  (half_any c w hc).mono fun _ _ ⟨h1, h2⟩ => ⟨h1, h2.symm⟩
/-- What both Unquote answer. -/
def unqRet (E : Int → Value) (R : Option (List UInt8)) : Ending := .returned (.tuple #[.string ⟨(R.getD []).toArray⟩, E (if R.isSome then 0 else 16)])
def mid (s : ByteArray) (i : Nat) : List UInt8 := (s.data.toList.drop i).take (s.size - 1 - i)
theorem mid_length (s : ByteArray) (i : Nat) : (mid s i).length = s.size - 1 - i := by
  unfold mid; rw [List.length_take, List.length_drop, size_toList]; omega
theorem mid_at (s : ByteArray) (i k : Nat) (h : i + k < s.size - 1) : ((mid s i).getD k 0).toNat = byteAt s (i + k) := by
  unfold mid
  rw [Lib.getD_takeU _ _ _ (by omega), getD_drop]
theorem mid_drop (s : ByteArray) (i k : Nat) : (mid s i).drop k = mid s (i + k) := by
  unfold mid
  rw [List.drop_take, List.drop_drop, show s.size - 1 - i - k = s.size - 1 - (i + k) by omega]
set_option maxHeartbeats 4000000 in
set_option maxRecDepth 100000 in
theorem runq_any (s : ByteArray) (w : World) (hs : s.size ≤ 8388608) :
    Calls Try.prog 21 #[.string s] w fun e w' => e = unqRet (.int .i64) (finQ unR s.data.toList) ∧ Below w.heap.size w w' := by
  have hsl := size_toList s
  obtain ⟨i0, hi0, hz0, hz1, hz2⟩ := info_parts info5
  by_cases h2 : s.size < 2
  · have hfin : finQ unR s.data.toList = none := by unfold finQ; rw [inner_none1 s h2]; rfl
    rw [hfin]
    have h2' : (s.size : Int) < 2 := by omega
    go_enter Try.func21, Try.ntmps21
    go_wp2
    go_ret2
    exact ⟨rfl, Below.refl _ _⟩
  have h2' : ¬ ((s.size : Int) < 2) := by omega
  have g0 := byteAt_get s 0 (by omega)
  have g1 := byteAt_get s (s.size - 1) (by omega)
  by_cases hb0 : byteAt s 0 = 34
  case neg =>
    have hfin : finQ unR s.data.toList = none := by unfold finQ; rw [inner_none2 s hb0]; rfl
    rw [hfin]
    have hb : ((byteAt s 0 : Int) != 34) = true := by simp; omega
    clear hfin
    generalize byteAt s 0 = c0 at *
    go_enter Try.func21, Try.ntmps21
    go_wp2
    go_ret2
    exact ⟨rfl, Below.refl _ _⟩
  rw [hb0] at g0
  by_cases hb1 : byteAt s (s.size - 1) = 34
  case neg =>
    have hfin : finQ unR s.data.toList = none := by unfold finQ; rw [inner_none3 s hb1]; rfl
    rw [hfin]
    have hb : ((byteAt s (s.size - 1) : Int) != 34) = true := by simp; omega
    clear hfin
    generalize byteAt s (s.size - 1) = c1 at *
    have k0 : (0 : Int) ≤ (s.size : Int) - 1 := by omega
    have k1 : (s.size : Int) - 1 < (s.size : Int) := by omega
    clear hb0
    go_enter Try.func21, Try.ntmps21
    go_wp2
    go_ret2
    exact ⟨rfl, Below.refl _ _⟩
  rw [hb1] at g1
  have hin : (innerQ s.data.toList).bind unR = unR (mid s 1) := by
    rw [inner_some s (by omega) hb0 hb1, Option.bind_some]
    unfold mid
    rw [show s.size - 1 - 1 = s.size - 2 by omega]
  unfold finQ
  rw [hin]
  have k0 : (0 : Int) ≤ (s.size : Int) - 1 := by omega
  have k1 : (s.size : Int) - 1 < (s.size : Int) := by omega
  obtain ⟨R, hR⟩ : ∃ R, unR (mid s 1) = R := ⟨_, rfl⟩
  rw [hR]
  have HR := Lib.hid hR
  have hs2 : 2 ≤ s.size := by omega
  clear hb0 hb1 hin hR
  go_enter Try.func21, Try.ntmps21
  go_wp2
  go_loopw [4, 5] (fun ov iv wr => ∃ (i : Nat) (o : List UInt8), 1 ≤ i ∧ i ≤ s.size - 1 ∧ iv = .int .i64 i ∧ wr.ownsRow w.heap.size 5 1 ov o.length (Lib.byteCells o) ∧ Below w.heap.size w wr ∧ R = (unR (mid s i)).map (o ++ ·) ∧ o.length + 1 ≤ i) (fun _ iv _ => s.size - (intOf iv).toNat)
  case atStart => exact ⟨1, [], by omega, by omega, rfl, ⟨rfl, .inl ⟨rfl, rfl⟩⟩, Below.refl _ _, by rw [HR.out]; simp, by simp⟩
  case round =>
    clear HR g0 g1 h2 h2' k0 k1
    obtain ⟨i, o, hi1, his, rfl, hown, hbw, hrel, hle⟩ := hrel
    have HREL := Lib.hid hrel; clear hrel
    have hbs := hbw.size
    have hml := mid_length s i
    by_cases hend : i = s.size - 1
    · have hfin : R = some o := by
        have : mid s i = [] := List.eq_nil_of_length_eq_zero (by omega)
        rw [HREL.out, this]; simp [unR]
      have k1 : ¬ ((i : Int) < (s.size : Int) - 1) := by omega
      subst hfin
      clear hend hml
      obtain ⟨A2, c2, rfl⟩ := own_slice' hown
      have hcv := conv_bytes (P := Try.prog) (c := c2) Try.underlying23 Try.underlying5 Try.underlying9 (Reads.of_own hown)
      go_wp2_with fail
      have hol : o.length ≤ 8388608 := by omega
      refine (rquote_any ⟨o.toArray⟩ _ (by show o.toArray.size ≤ _; simpa using hol)).mono ?_
      rintro e W1 ⟨rfl, hb1⟩
      have hW1 : Below w.heap.size w W1 := hbw.trans (hb1.mono hbs)
      rw [show quoteL (⟨o.toArray⟩ : ByteArray).data.toList = quoteL o from rfl]
      by_cases hq : quoteL o = s.data.toList
      · have hq1 : (⟨(quoteL o).toArray⟩ : ByteArray) = s := by
          apply ByteArray.ext
          apply Array.toList_inj.1
          exact hq
        have hfin : (some o).bind (fun r => if quoteL r = s.data.toList then some r else none) = some o := by rw [Option.bind_some, if_pos hq]
        have HF := Lib.hid hfin
        clear hq hfin
        rw [hq1]
        clear hq1
        go_wp2_with fail
        go_ret2
        rw [HF.out]
        exact ⟨rfl, hW1⟩
      · have hq1 : ((⟨(quoteL o).toArray⟩ : ByteArray).toList == s.toList) = false := by
          rw [Lib.toList_data, Lib.toList_data]
          simpa using hq
        have hfin : (some o).bind (fun r => if quoteL r = s.data.toList then some r else none) = none := by rw [Option.bind_some, if_neg hq]
        have HF := Lib.hid hfin
        clear hq hfin
        generalize (⟨(quoteL o).toArray⟩ : ByteArray) = Q at *
        go_wp2_with fail
        go_ret2
        rw [HF.out]
        exact ⟨rfl, hW1⟩
    have hlt : i < s.size := by omega
    have k1 : (i : Int) < (s.size : Int) - 1 := by omega
    have k2 : (i : Int) < (s.size : Int) := by omega
    have hn0 : mid s i ≠ [] := by intro e; rw [e] at hml; simp at hml; omega
    have gg0 := byteAt_get s i hlt
    have hm0 := mid_at s i 0 (by omega)
    rw [Nat.add_zero] at hm0
    obtain ⟨c, hc⟩ : ∃ c, byteAt s i = c := ⟨_, rfl⟩
    rw [hc] at gg0 hm0
    have hc8 : c < 256 := hc ▸ byteAt_lt s i
    clear hc
    by_cases h92 : c = 92
    · subst h92
      by_cases h1 : i + 1 = s.size - 1
      · have hu := (un_alone _ hn0 hm0 (by omega)).2
        have hfin : R = none := by rw [HREL.out, hu]; rfl
        have k3 : (s.size : Int) - 1 ≤ (i : Int) + 1 := by omega
        subst hfin
        clear h1 hml hm0
        go_wp2
        go_ret2
        exact ⟨rfl, hbw⟩
      · have hu := unR_back (mid s i) (by omega) hm0
        have hlt1 : i + 1 < s.size := by omega
        have gg1 := byteAt_get s (i + 1) hlt1
        obtain ⟨d, hdd⟩ : ∃ d, byteAt s (i + 1) = d := ⟨_, rfl⟩
        have hd8 : d < 256 := hdd ▸ byteAt_lt s (i + 1)
        have hm1 := mid_at s i 1 (by omega)
        rw [hdd] at hm1 gg1
        have e1 : (mid s i).getD 1 0 = d.toUInt8 := (byte_num _ _ hd8).2 hm1
        rw [hm1, e1, mid_drop, mid_drop] at hu
        have k3 : ¬ ((s.size : Int) - 1 ≤ (i : Int) + 1) := by omega
        have k4 : (i : Int) + 1 < (s.size : Int) := by omega
        have k5 : (0 : Int) ≤ (i : Int) + 1 := by omega
        clear hdd hm1 e1 hm0
        by_cases hB : d = 110
        · rw [if_pos hB] at hu
          have HU := Lib.hid hu; clear hu hml
          subst hB
          clear h1
          go_wp2_with (
            at_builtin
            refine wpList_append_any _ rfl (.tmp 57) (.tmp 58) _ rfl w.heap.size 5 i0 _ 1 1 Try.underlying23 hi0 hz0 hz1 hz2 rfl (by omega) _ o.length _ rfl (hown.alloc _) (wr.heap.size + 1) (some ⟨wr.heap.size, 0, none⟩) 1 1 [.int .u8 10] rfl (Reads.one_new _ _ _) (by intro u hu; rw [List.mem_singleton.1 hu]; rfl) (by simp only [maxLen]; omega) (by omega) (by rw [World.size_alloc]; omega) ?_
            intro v2 w2 hown3 hg2 hat2
            have hb2 : Below w.heap.size w w2 := (hbw.alloc hbs _).grown hg2 (by rw [World.size_alloc]; omega) (fun k hk => (hown.lt k hk).1))
          have hown4 : w2.ownsRow w.heap.size 5 1 v2 (o ++ [(10 : Nat).toUInt8]).length (Lib.byteCells (o ++ [(10 : Nat).toUInt8])) := own_one hown3 (by omega)
          refine ⟨⟨i + 2, o ++ [(10 : Nat).toUInt8], by omega, by omega, by go_num, hown4, hb2, ?_, by rw [List.length_append, List.length_singleton]; omega⟩, by simp [intOf]; omega⟩
          rw [HREL.out, HU.out, Option.map_map]; congr 1; funext z; simp
        rw [if_neg hB] at hu
        have b3 : ((d : Int) == 110) = false := by simp; omega
        clear hB
        by_cases hC : d = 120
        · rw [if_pos hC] at hu
          subst hC
          by_cases h4 : (mid s i).length < 4
          · rw [if_pos h4] at hu
            have HU := Lib.hid hu; clear hu
            have k6 : ¬ ((i : Int) + 1 + 1 + 2 ≤ (s.size : Int) - 1) := by omega
            clear h4 h1 hml
            go_wp2_with (
              at_builtin
              refine wpList_append_any _ rfl (.tmp 50) (.tmp 52) _ rfl w.heap.size 5 i0 _ 1 1 Try.underlying23 hi0 hz0 hz1 hz2 rfl (by omega) _ o.length _ rfl (hown.alloc _) (wr.heap.size + 1) (some ⟨wr.heap.size, 0, none⟩) 1 1 [.int .u8 120] rfl (Reads.one_new _ _ _) (by intro u hu; rw [List.mem_singleton.1 hu]; rfl) (by simp only [maxLen]; omega) (by omega) (by rw [World.size_alloc]; omega) ?_
              intro v2 w2 hown3 hg2 hat2
              have hb2 : Below w.heap.size w w2 := (hbw.alloc hbs _).grown hg2 (by rw [World.size_alloc]; omega) (fun k hk => (hown.lt k hk).1))
            have hown4 : w2.ownsRow w.heap.size 5 1 v2 (o ++ [(120 : Nat).toUInt8]).length (Lib.byteCells (o ++ [(120 : Nat).toUInt8])) := own_one hown3 (by omega)
            refine ⟨⟨i + 2, o ++ [(120 : Nat).toUInt8], by omega, by omega, by go_num, hown4, hb2, ?_, by rw [List.length_append, List.length_singleton]; omega⟩, by simp [intOf]; omega⟩
            rw [HREL.out, HU.out, Option.map_map]; congr 1; funext z; simp
          · rw [if_neg h4] at hu
            have hlt2 : i + 1 + 1 < s.size := by omega
            have hlt3 : i + 1 + 1 + 1 < s.size := by omega
            have gg2 := byteAt_get s (i + 1 + 1) hlt2
            have gg3 := byteAt_get s (i + 1 + 1 + 1) hlt3
            have hm2 := mid_at s i 2 (by omega)
            have hm3 := mid_at s i 3 (by omega)
            obtain ⟨x, hx⟩ : ∃ x, byteAt s (i + 1 + 1) = x := ⟨_, rfl⟩
            obtain ⟨y, hy⟩ : ∃ y, byteAt s (i + 1 + 1 + 1) = y := ⟨_, rfl⟩
            have hx8 : x < 256 := hx ▸ byteAt_lt s _
            have hy8 : y < 256 := hy ▸ byteAt_lt s _
            rw [show i + 2 = i + 1 + 1 from rfl, hx] at hm2
            rw [show i + 3 = i + 1 + 1 + 1 from rfl, hy] at hm3
            rw [hx] at gg2
            rw [hy] at gg3
            have nx : nb8 ((mid s i).getD 2 0) = nib x := by rw [← hm2]; rfl
            have ny : nb8 ((mid s i).getD 3 0) = nib y := by rw [← hm3]; rfl
            rw [nx, ny] at hu
            have hfx := fun w => half_same x w hx8
            have hfy := fun w => half_same y w hy8
            have bx := nib_lt x
            have by_ := nib_lt y
            have cx := nib_cases x
            have cy := nib_cases y
            have hgx : ∀ h, (s[((i : Int) + 1 + 1).toNat]'h).toNat = x := fun h => by rw [byteAt_get, show ((i : Int) + 1 + 1).toNat = i + 1 + 1 by omega, hx]
            have hgy : ∀ h, (s[((i : Int) + 1 + 1 + 1).toNat]'h).toNat = y := fun h => by rw [byteAt_get, show ((i : Int) + 1 + 1 + 1).toNat = i + 1 + 1 + 1 by omega, hy]
            have HGX := Lib.hid hgx; have HGY := Lib.hid hgy
            clear nx ny hx hy hm2 hm3 hgx hgy
            generalize nib x = p at *
            generalize nib y = q at *
            obtain ⟨bx0, bx1⟩ := bx
            obtain ⟨by0, by1⟩ := by_
            have k6 : (i : Int) + 1 + 1 + 2 ≤ (s.size : Int) - 1 := by omega
            have k7 : (0 : Int) ≤ (i : Int) + 1 + 1 := by omega
            have k8 : (i : Int) + 1 + 1 < (s.size : Int) := by omega
            have k9 : (0 : Int) ≤ (i : Int) + 1 + 1 + 1 := by omega
            have k10 : (i : Int) + 1 + 1 + 1 < (s.size : Int) := by omega
            clear h4 h1 hml
            by_cases hp : p < 0
            · rw [if_pos (.inl hp)] at hu
              have HU := Lib.hid hu; clear hu cx cy
              go_wp2_with (first
                | (go_at_call 27; first | (with_reducible refine (hfx _).mono ?_) | (with_reducible refine (hfy _).mono ?_)
                   rintro e w' ⟨rfl, rfl⟩)
                | (at_builtin
                   refine wpList_append_any _ rfl (.tmp 50) (.tmp 52) _ rfl w.heap.size 5 i0 _ 1 1 Try.underlying23 hi0 hz0 hz1 hz2 rfl (by omega) _ o.length _ rfl (hown.alloc _) (wr.heap.size + 1) (some ⟨wr.heap.size, 0, none⟩) 1 1 [.int .u8 120] rfl (Reads.one_new _ _ _) (by intro u hu; rw [List.mem_singleton.1 hu]; rfl) (by simp only [maxLen]; omega) (by omega) (by rw [World.size_alloc]; omega) ?_
                   intro v2 w2 hown3 hg2 hat2
                   have hb2 : Below w.heap.size w w2 := (hbw.alloc hbs _).grown hg2 (by rw [World.size_alloc]; omega) (fun k hk => (hown.lt k hk).1)))
              have hown4 : w2.ownsRow w.heap.size 5 1 v2 (o ++ [(120 : Nat).toUInt8]).length (Lib.byteCells (o ++ [(120 : Nat).toUInt8])) := own_one hown3 (by omega)
              refine ⟨⟨i + 2, o ++ [(120 : Nat).toUInt8], by omega, by omega, by go_num, hown4, hb2, ?_, by rw [List.length_append, List.length_singleton]; omega⟩, by simp [intOf]; omega⟩
              rw [HREL.out, HU.out, Option.map_map]; congr 1; funext z; simp
            have hp0 : 0 ≤ p := by omega
            by_cases hq : q < 0
            · rw [if_pos (.inr hq)] at hu
              have HU := Lib.hid hu; clear hu cx cy hp
              go_wp2_with (first
                | (go_at_call 27; first | (with_reducible refine (hfx _).mono ?_) | (with_reducible refine (hfy _).mono ?_)
                   rintro e w' ⟨rfl, rfl⟩)
                | (at_builtin
                   refine wpList_append_any _ rfl (.tmp 50) (.tmp 52) _ rfl w.heap.size 5 i0 _ 1 1 Try.underlying23 hi0 hz0 hz1 hz2 rfl (by omega) _ o.length _ rfl (hown.alloc _) (wr.heap.size + 1) (some ⟨wr.heap.size, 0, none⟩) 1 1 [.int .u8 120] rfl (Reads.one_new _ _ _) (by intro u hu; rw [List.mem_singleton.1 hu]; rfl) (by simp only [maxLen]; omega) (by omega) (by rw [World.size_alloc]; omega) ?_
                   intro v2 w2 hown3 hg2 hat2
                   have hb2 : Below w.heap.size w w2 := (hbw.alloc hbs _).grown hg2 (by rw [World.size_alloc]; omega) (fun k hk => (hown.lt k hk).1)))
              have hown4 : w2.ownsRow w.heap.size 5 1 v2 (o ++ [(120 : Nat).toUInt8]).length (Lib.byteCells (o ++ [(120 : Nat).toUInt8])) := own_one hown3 (by omega)
              refine ⟨⟨i + 2, o ++ [(120 : Nat).toUInt8], by omega, by omega, by go_num, hown4, hb2, ?_, by rw [List.length_append, List.length_singleton]; omega⟩, by simp [intOf]; omega⟩
              rw [HREL.out, HU.out, Option.map_map]; congr 1; funext z; simp
            have hq0 : 0 ≤ q := by omega
            rw [if_neg (by omega)] at hu
            have HU := Lib.hid hu; clear hu cx cy hp hq
            have hown2 : ((wr.alloc (.cells #[.int .u8 (16 * p + q)] 5)).drew).ownsRow w.heap.size 5 1 u4 o.length (Lib.byteCells o) := hown.alloc _
            have hrd : Reads ((wr.alloc (.cells #[.int .u8 (16 * p + q)] 5)).drew) (wr.heap.size + 1) 1 (some ⟨wr.heap.size, 0, none⟩) 1 [.int .u8 (16 * p + q)] := Reads.one_new wr _ 5
            have hone : ∀ u ∈ [Value.int .u8 (16 * p + q)], u.oneCell' = true := by intro u hu; rw [List.mem_singleton.1 hu]; rfl
            have hbase : w.heap.size ≤ ((wr.alloc (.cells #[.int .u8 (16 * p + q)] 5)).drew).heap.size := by
              have : ((wr.alloc (.cells #[.int .u8 (16 * p + q)] 5)).drew).heap.size = wr.heap.size + 1 := World.size_alloc _ _
              omega
            go_wp2_with (go_at_call 27; first | (with_reducible refine (hfx _).mono ?_) | (with_reducible refine (hfy _).mono ?_); rintro e w' ⟨rfl, rfl⟩)
            have hz8 : (16 * p + q).toNat < 256 := by omega
            have hzi : (((16 * p + q).toNat : Nat) : Int) = 16 * p + q := by omega
            have HZ := Lib.hid hzi; clear hzi
            have wz1 : IntKind.i64.wrap ((i : Int) + 1 + 1 + 1) = (i : Int) + 1 + 1 + 1 := IntWalk.i64_in _ (by omega)
            have wz2 : IntKind.i64.wrap (16 * p) = 16 * p := IntWalk.i64_in _ (by omega)
            have wz3 : IntKind.i64.wrap (16 * p + q) = 16 * p + q := IntWalk.i64_in _ (by omega)
            have wz4 : IntKind.u8.wrap (16 * p + q) = 16 * p + q := IntWalk.u8_in _ (by omega)
            go_region_held3 (fun _ => True) (trivial)
              (first
                | (go_at_call 27; rw [HGX.out]; (with_reducible refine (hfx _).mono ?_); rintro e w' ⟨rfl, rfl⟩)
                | (go_at_call 27; rw [HGY.out]; (with_reducible refine (hfy _).mono ?_); rintro e w' ⟨rfl, rfl⟩)
                | (refine step_append_any _ rfl (.tmp 86) (.tmp 99) _ rfl w.heap.size 5 i0 _ 1 1 Try.underlying23 hi0 hz0 hz1 hz2 rfl (by omega) _ o.length _ rfl hown2 (wr.heap.size + 1) (some ⟨wr.heap.size, 0, none⟩) 1 1 [.int .u8 (16 * p + q)] rfl hrd hone (by simp only [maxLen]; omega) (by omega) hbase ?_
                   intro v2 w2 hown3 hg2 hat2
                   have hb2 : Below w.heap.size w w2 := ((hbw.alloc hbs _).drew).grown hg2 hbase (fun k hk => (hown2.lt k hk).1)))
            clear wz1 wz2 wz3 wz4 hfx hfy
            all_goals
              go_wp2
              rw [← HZ.out] at hown3
              have hown4 : w2.ownsRow w.heap.size 5 1 v2 (o ++ [(16 * p + q).toNat.toUInt8]).length (Lib.byteCells (o ++ [(16 * p + q).toNat.toUInt8])) := own_one hown3 hz8
              refine ⟨⟨i + 4, o ++ [(16 * p + q).toNat.toUInt8], by omega, by omega, by go_num, hown4, hb2, ?_, by rw [List.length_append, List.length_singleton]; omega⟩, by simp [intOf]; omega⟩
              rw [HREL.out, HU.out, Option.map_map]; congr 1; funext z; simp
        · rw [if_neg hC] at hu
          have b4 : ((d : Int) == 120) = false := by simp; omega
          have HU := Lib.hid hu; clear hu
          clear h1 hml hC
          go_wp2_with (
            at_builtin
            refine wpList_append_any _ rfl (.tmp 50) (.tmp 52) _ rfl w.heap.size 5 i0 _ 1 1 Try.underlying23 hi0 hz0 hz1 hz2 rfl (by omega) _ o.length _ rfl (hown.alloc _) (wr.heap.size + 1) (some ⟨wr.heap.size, 0, none⟩) 1 1 [.int .u8 (d : Int)] rfl (Reads.one_new _ _ _) (by intro u hu; rw [List.mem_singleton.1 hu]; rfl) (by simp only [maxLen]; omega) (by omega) (by rw [World.size_alloc]; omega) ?_
            intro v2 w2 hown3 hg2 hat2
            have hb2 : Below w.heap.size w w2 := (hbw.alloc hbs _).grown hg2 (by rw [World.size_alloc]; omega) (fun k hk => (hown.lt k hk).1))
          have hown4 : w2.ownsRow w.heap.size 5 1 v2 (o ++ [d.toUInt8]).length (Lib.byteCells (o ++ [d.toUInt8])) := own_one hown3 hd8
          refine ⟨⟨i + 2, o ++ [d.toUInt8], by omega, by omega, by go_num, hown4, hb2, ?_, by rw [List.length_append, List.length_singleton]; omega⟩, by simp [intOf]; omega⟩
          rw [HREL.out, HU.out, Option.map_map]; congr 1; funext z; simp
    · have hu := unR_other _ hn0 (by rw [hm0]; exact h92)
      have e0 : (mid s i).getD 0 0 = c.toUInt8 := (byte_num _ _ hc8).2 hm0
      rw [e0, mid_drop] at hu
      have HU := Lib.hid hu; clear hu e0 hm0 hml
      have bc : ((c : Int) != 92) = true := by simp; omega
      go_wp2_with (
        at_builtin
        refine wpList_append_any _ rfl (.tmp 36) (.tmp 38) _ rfl w.heap.size 5 i0 _ 1 1 Try.underlying23 hi0 hz0 hz1 hz2 rfl (by omega) _ o.length _ rfl (hown.alloc _) (wr.heap.size + 1) (some ⟨wr.heap.size, 0, none⟩) 1 1 [.int .u8 (c : Int)] rfl (Reads.one_new _ _ _) (by intro u hu; rw [List.mem_singleton.1 hu]; rfl) (by simp only [maxLen]; omega) (by omega) (by rw [World.size_alloc]; omega) ?_
        intro v2 w2 hown3 hg2 hat2
        have hb2 : Below w.heap.size w w2 := (hbw.alloc hbs _).grown hg2 (by rw [World.size_alloc]; omega) (fun k hk => (hown.lt k hk).1))
      have hown4 : w2.ownsRow w.heap.size 5 1 v2 (o ++ [c.toUInt8]).length (Lib.byteCells (o ++ [c.toUInt8])) := own_one hown3 hc8
      refine ⟨⟨i + 1, o ++ [c.toUInt8], by omega, by omega, by go_num, hown4, hb2, ?_, by rw [List.length_append, List.length_singleton]; omega⟩, by simp [intOf]; omega⟩
      rw [HREL.out, HU.out, Option.map_map]; congr 1; funext z; simp
end Go.Proofs.Ytiajmngjhbckjaa
