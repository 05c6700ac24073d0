/- The contracts of octet.Plain and spindleref01.Plain. -/
import Derived.Test.YtiajmngjhbckjaaDoorRune
import Derived.Test.YtiajmngjhbckjaaDoorValid
import Derived.Test.YtiajmngjhbckjaaDoorShelf
import Derived.Lib.IndexLaws
namespace Go.Proofs.YtiajmngjhbckjaaDoor
open Go.RowKit
theorem indexByte_zero (l : List UInt8) : decide (Lib.indexByte l 0 < 0) = !l.contains 0 := by
  by_cases h : Lib.indexByte l 0 < 0
  · have h1 : Lib.indexByte l 0 = -1 := by have := Lib.indexByte_ge l 0; omega
    have h2 := Lib.indexByte_none h1
    have h3 : l.contains 0 = false := by
      rw [List.contains_eq_mem, decide_eq_false_iff_not]
      intro hm
      obtain ⟨k, hk⟩ := List.getElem?_of_mem hm
      exact h2 k hk
    rw [h3]; simpa using h
  · obtain ⟨o, ho⟩ := Int.eq_ofNat_of_zero_le (Int.not_lt.1 h)
    have h2 := (Lib.indexByte_some ho).1
    have h3 : l.contains 0 = true := by
      rw [List.contains_eq_mem, decide_eq_true_iff]
      exact List.mem_of_getElem? h2
    rw [h3]; simpa using h
theorem plain_any (s : ByteArray) (w : World) (hs : s.size ≤ 9223372036854775807) (hT : Lib.Utf8Tabs 0 1 w) :
    Calls Tryd.prog 10 #[.string s] w fun e w' => e = .returned (.bool (plainL s.data.toList)) ∧ Below w.heap.size w w' := by
  have hz := indexByte_zero s.data.toList
  have hc0 : (0 : Int).toNat.toUInt8 = 0 := rfl
  cases hv : Lib.validD s.data.toList
  · have hp : plainL s.data.toList = false := by unfold plainL; rw [hv]; rfl
    rw [hp]
    go_enter Tryd.func10, Tryd.ntmps10
    go_wp2_with (go_at_call 46; refine (valid_any s w hs hT).mono ?_; rintro e w1 ⟨rfl, hb⟩; rw [hv])
    go_ret
    exact ⟨rfl, hb⟩
  · have hp : plainL s.data.toList = decide (Lib.indexByte s.data.toList 0 < 0) := by unfold plainL; rw [hv, hz]; rfl
    rw [hp]
    clear hz hp
    go_enter Tryd.func10, Tryd.ntmps10
    go_wp2_with (first
      | (go_at_call 46; refine (valid_any s w hs hT).mono ?_; rintro e w1 ⟨rfl, hb⟩; rw [hv])
      | (go_at_call 47; refine (Tryd.strings_IndexByte s 0 _).mono ?_; rintro e w2 ⟨rfl, rfl⟩; rw [hc0]))
    go_ret
    exact ⟨rfl, hb⟩
theorem rplain_any (s : ByteArray) (w : World) (hs : s.size ≤ 9223372036854775807) :
    Calls Tryd.prog 11 #[.string s] w fun e w' => e = .returned (.bool (plainL s.data.toList)) ∧ w' = w := by
  obtain ⟨R, hR⟩ : ∃ R, plainL s.data.toList = R := ⟨_, rfl⟩
  rw [hR]
  have HR := Lib.hid hR; clear hR
  go_enter Tryd.func11, Tryd.ntmps11
  go_wp2
  go_loop [3] (fun iv => ∃ (i : Nat), i ≤ s.size ∧ iv = .int .i64 i ∧ plainL (s.data.toList.drop i) = R) (fun iv => s.size - (intOf iv).toNat)
  case atStart => exact ⟨0, by omega, rfl, HR.out⟩
  case round =>
    clear HR
    obtain ⟨i, hi, rfl, hp⟩ := hrel
    have HP := Lib.hid hp; clear hp
    by_cases hlt : i < s.size
    · obtain ⟨n, hn⟩ : ∃ n, runeAt s i = n := ⟨_, rfl⟩
      obtain ⟨x, hx⟩ : ∃ x, byteAt s i = x := ⟨_, rfl⟩
      have hget := (byteAt_get s i hlt).trans hx
      have hn4 := (runeAt_step s i hlt).1
      have hni := (runeAt_step s i hlt).2.2
      rw [hn] at hn4 hni
      have hx8 : x < 256 := hx ▸ byteAt_lt s i
      have hi1 : (i : Int) < s.size := by omega
      by_cases hbad : n = 0 ∨ x = 0
      · have hR0 : R = false := HP.out.symm.trans (plain_bad s i hlt (by rw [hn, hx]; exact hbad))
        have HX := Lib.hid hx; have HNI := Lib.hid hni; clear hx hni
        subst hR0
        by_cases hn0 : n = 0
        · subst hn0
          clear hbad
          go_wp2_with (go_at_call 48; refine (rune_any s i _ (by omega)).mono ?_; rintro e w1 ⟨rfl, rfl⟩; rw [hn])
          go_ret
          exact ⟨rfl, rfl⟩
        · have hx0 : x = 0 := by omega
          subst hx0
          have hn0' : ((n : Int) == 0) = false := by simp; exact hn0
          clear hbad
          go_wp2_with (go_at_call 48; refine (rune_any s i _ (by omega)).mono ?_; rintro e w1 ⟨rfl, rfl⟩; rw [hn])
          go_ret
          exact ⟨rfl, rfl⟩
      · have hn0 : n ≠ 0 := fun e => hbad (.inl e)
        have hx0 : x ≠ 0 := fun e => hbad (.inr e)
        have hstep := plain_step s i hlt (by rw [hn]; exact hn0) (by rw [hx]; exact hx0)
        rw [hn] at hstep
        have hin := (hni hn0).1
        have hn0' : ((n : Int) == 0) = false := by simp; exact hn0
        have hx0' : ((x : Int) == 0) = false := by simp; exact hx0
        have HX := Lib.hid hx; have HNI := Lib.hid hni; have HS := Lib.hid hstep; clear hx hni hstep hbad
        go_wp2_with (go_at_call 48; refine (rune_any s i _ (by omega)).mono ?_; rintro e w1 ⟨rfl, rfl⟩; rw [hn])
        refine ⟨⟨i + n, by omega, by go_num, HS.out.symm.trans HP.out⟩, by simp [intOf]; omega⟩
    · obtain rfl : i = s.size := by omega
      have hR0 : R = true := by
        rw [← HP.out, List.drop_of_length_le (by rw [size_toList]; omega)]
        exact plain_nil
      subst hR0
      go_wp2
      go_ret
      exact ⟨rfl, rfl⟩
end Go.Proofs.YtiajmngjhbckjaaDoor
