/- RecentPins: the walk. -/
import Derived.Test.YtjddjjfcongnlaaAlive
import Derived.Test.YtjddjjfcongnlaaOrdIInt
namespace Go.Proofs.Ytjddjjfcongnlaa
open Go.RowKit Go.Maps
section
variable (k : Int) (p : Nat)
theorem one_has : aHas [(k, p)] k = true := by simp [aHas]
theorem one_pins : aPins [(k, p)] k = p := by simp [aPins]
theorem one_pinOk (h : p < 2147483647) : aPinOk [(k, p)] k = true := by unfold aPinOk; rw [one_has, one_pins]; simpa using h
theorem one_pin (h : p < 2147483647) : aPin [(k, p)] k = [(k, p + 1)] := by unfold aPin; rw [one_pinOk k p h, one_pins]; simp [aSet]
theorem one_unpinOk : aUnpinOk [(k, p)] k = decide (0 < p) := by unfold aUnpinOk; rw [one_has, one_pins]; rfl
theorem one_unpin : aUnpin [(k, p)] k = [(k, p - 1)] := by
  unfold aUnpin
  rw [one_unpinOk, one_pins]
  by_cases h : 0 < p
  · rw [if_pos (by simpa using h)]; simp [aSet]
  · rw [if_neg (by simpa using h), show p - 1 = p by omega]
theorem one_old : (aKeysInt true [(k, p)]).head? = if p = 0 then some k else none := by
  unfold aKeysInt
  by_cases h : p = 0 <;> simp [h]
end
set_option maxRecDepth 100000 in
set_option maxHeartbeats 4000000 in
theorem pinsLaw_any (k : Int) (n m : Nat) (w : World) (hk : okInt k) (hn : n < 65536) (hm : m < 65536) :
    Calls Try.prog 4 #[.int .i64 k, .int .u16 n, .int .u16 m] w fun e w' => e = .returned (.bool true) ∧ Below w.heap.size w w' := by
  have HK := Lib.hid hk
  clear hk
  go_enter Try.func4, Try.ntmps4
  go_wp2_with fail
  refine (newInt w).mono ?_
  rintro e w1 ⟨o, F1, rfl, h1, _, hb1⟩
  have hs1 := hb1.size
  go_wp2_with fail
  refine (addInt h1 HK.out (by omega) hs1).mono ?_
  rintro e w2 ⟨rfl, ⟨F, h2, hF2, hl2⟩, hk2⟩
  have h2' : IsOrderInt w2 w.heap.size o 1 F [(k, 0)] := h2
  have hb2 : Below w.heap.size w w2 := hb1.trans (hk2.below (fun x hx => (h1.lt x hx).1) hs1)
  clear h1 h2 hF2 hl2 hk2 hb1 hs1
  rw [show (!aHas ([] : List (Int × Nat)) k) = true from rfl]
  have HH := Lib.hid h2'; clear h2'
  go_wp2
  go_loopw [10] (fun iv wr => ∃ i : Nat, i ≤ n ∧ iv = .int .i64 i ∧ Hid (IsOrderInt wr w.heap.size o 1 F [(k, i)]) ∧ Below w.heap.size w wr) (fun iv _ => n - (intOf iv).toNat)
  case atStart => exact ⟨0, by omega, rfl, HH, hb2⟩
  case round =>
    obtain ⟨i, hi, rfl, hh, hb⟩ := hrel
    have hs := hb.size
    by_cases hlt : i < n
    · have hlt' : (i : Int) < (n : Int) := by omega
      go_wp2_with fail
      refine (pinInt hh.out HK.out).mono ?_
      rintro e w3 ⟨rfl, h3, hk3⟩
      rw [one_pinOk k i (by omega)]
      rw [one_pin k i (by omega)] at h3
      have hb3 : Below w.heap.size w w3 := hb.trans (hk3.below (fun x hx => (hh.out.lt x hx).1) hs)
      go_wp2_with fail
      refine (pinsRInt h3 HK.out).mono ?_
      rintro e w4 ⟨rfl, rfl⟩
      rw [one_pins, show ((i + 1 : Nat) : Int) = (i : Int) + 1 from by omega]
      have HH3 := Lib.hid h3; clear h3
      go_wp2
      exact ⟨⟨i + 1, by omega, by go_num, HH3, hb3⟩, by simp [intOf]; omega⟩
    · obtain rfl : i = n := by omega
      clear HH hb2
      go_wp2
      go_loopw [11] (fun jv wr => ∃ j : Nat, j ≤ m ∧ jv = .int .i64 j ∧ Hid (IsOrderInt wr w.heap.size o 1 F [(k, i - j)]) ∧ Below w.heap.size w wr) (fun jv _ => m - (intOf jv).toNat)
      case atStart => exact ⟨0, by omega, rfl, hh, hb⟩
      case round =>
        obtain ⟨j, hj, rfl, hh2, hb2⟩ := hrel
        clear hh hb
        have hs2 := hb2.size
        by_cases hlt2 : j < m
        · have hlt2' : (j : Int) < (m : Int) := by omega
          have hu := unpinInt hh2.out HK.out
          rw [one_unpinOk, one_unpin] at hu
          by_cases hji : j < i
          · have b1 : decide (0 < i - j) = true := by simpa using by omega
            have b2 : (j : Int) < (i : Int) := by omega
            rw [b1] at hu
            clear b1
            go_wp2_with fail
            refine hu.mono ?_
            rintro e w3 ⟨rfl, h3, hk3⟩
            have hb3 : Below w.heap.size w w3 := hb2.trans (hk3.below (fun x hx => (hh2.out.lt x hx).1) hs2)
            rw [show i - j - 1 = i - (j + 1) by omega] at h3
            have HH3 := Lib.hid h3; clear h3
            go_wp2
            exact ⟨⟨j + 1, by omega, by go_num, HH3, hb3⟩, by simp [intOf]; omega⟩
          · have b1 : decide (0 < i - j) = false := by simpa using by omega
            have b2 : ¬ ((j : Int) < (i : Int)) := by omega
            rw [b1] at hu
            clear b1
            go_wp2_with fail
            refine hu.mono ?_
            rintro e w3 ⟨rfl, h3, hk3⟩
            have hb3 : Below w.heap.size w w3 := hb2.trans (hk3.below (fun x hx => (hh2.out.lt x hx).1) hs2)
            rw [show i - j - 1 = i - (j + 1) by omega] at h3
            have HH3 := Lib.hid h3; clear h3
            go_wp2
            exact ⟨⟨j + 1, by omega, by go_num, HH3, hb3⟩, by simp [intOf]; omega⟩
        · obtain rfl : j = m := by omega
          have hold := oldestInt hh2.out (by omega)
          have hpins := fun w' (h : Below wr.heap.size wr w') => pinsRInt (hh2.out.below h) HK.out
          rw [one_old] at hold
          simp only [one_pins] at hpins
          have hal := alive_any
          have o1 : oldVInt (some k) = .tuple #[.int .i64 k, .bool true] := rfl
          have o2 : oldVInt none = .tuple #[.int .i64 0, .bool false] := rfl
          clear hlt2
          by_cases hij : i < j
          · have hz : i - j = 0 := by omega
            rw [hz, if_pos rfl, o1] at hold
            simp only [hz] at hpins
            have c1 : (i : Int) - (j : Int) < 0 := by omega
            clear hz hh2
            go_wp2_with fail
            refine hold.mono ?_
            rintro e w3 ⟨rfl, hb3⟩
            have hb4 : Below w.heap.size w w3 := hb2.trans (hb3.mono hs2)
            have hs4 := hb4.size
            go_wp2_with fail
            refine (hpins _ hb3).mono ?_
            rintro e w4 ⟨rfl, rfl⟩
            rw [show ((0 : Nat) : Int) = 0 from rfl]
            go_wp2_with fail
            refine (hal _).mono ?_
            rintro e w5 ⟨rfl, hb5⟩
            go_wp2_with fail
            go_ret
            exact ⟨rfl, hb4.trans (hb5.mono hs4)⟩
          · have c1 : ¬ ((i : Int) - (j : Int) < 0) := by omega
            have hci : ((i - j : Nat) : Int) = (i : Int) - (j : Int) := by omega
            by_cases he : i - j = 0
            · rw [he, if_pos rfl, o1] at hold
              have c2 : (((i : Int) - (j : Int)) == 0) = true := by simp; omega
              simp only [hci] at hpins
              clear he hci hh2
              go_wp2_with fail
              refine hold.mono ?_
              rintro e w3 ⟨rfl, hb3⟩
              have hb4 : Below w.heap.size w w3 := hb2.trans (hb3.mono hs2)
              have hs4 := hb4.size
              go_wp2_with fail
              refine (hpins _ hb3).mono ?_
              rintro e w4 ⟨rfl, rfl⟩
              go_wp2_with fail
              refine (hal _).mono ?_
              rintro e w5 ⟨rfl, hb5⟩
              go_wp2_with fail
              go_ret
              exact ⟨rfl, hb4.trans (hb5.mono hs4)⟩
            · rw [if_neg he, o2] at hold
              have c2 : (((i : Int) - (j : Int)) == 0) = false := by simp; omega
              simp only [hci] at hpins
              clear he hci hh2
              go_wp2_with fail
              refine hold.mono ?_
              rintro e w3 ⟨rfl, hb3⟩
              have hb4 : Below w.heap.size w w3 := hb2.trans (hb3.mono hs2)
              have hs4 := hb4.size
              go_wp2_with fail
              refine (hpins _ hb3).mono ?_
              rintro e w4 ⟨rfl, rfl⟩
              go_wp2_with fail
              refine (hal _).mono ?_
              rintro e w5 ⟨rfl, hb5⟩
              go_wp2_with fail
              go_ret
              exact ⟨rfl, hb4.trans (hb5.mono hs4)⟩
end Go.Proofs.Ytjddjjfcongnlaa
