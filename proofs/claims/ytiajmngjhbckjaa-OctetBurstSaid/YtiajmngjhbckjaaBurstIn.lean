/- The walk of OctetBurst, the bits turned. -/
import Derived.Test.YtiajmngjhbckjaaBurst
import Derived.IntWalk
namespace Go.Proofs.Ytiajmngjhbckjaa
open Go.RowKit
/-- One bit turned, if the mask says so. -/
def turn (mask p i : Nat) (l : List Nat) : List Nat := if mask / 2 ^ i % 2 = 1 then l.modify ((p + i) / 8) (· ^^^ 2 ^ ((p + i) % 8)) else l
def turns (mask p : Nat) : Nat → List Nat → List Nat
  | 0, l => l
  | i + 1, l => turn mask p i (turns mask p i l)
theorem turn_length (mask p i : Nat) (l : List Nat) : (turn mask p i l).length = l.length := by unfold turn; split <;> simp
theorem turns_length (mask p : Nat) (l : List Nat) : ∀ i, (turns mask p i l).length = l.length
  | 0 => rfl
  | i + 1 => (turn_length _ _ _ _).trans (turns_length mask p l i)
theorem xor_byte {b r : Nat} (hb : b < 256) (hr : r < 8) : b ^^^ 2 ^ r < 256 :=
  have h2 : 2 ^ r < 2 ^ 8 := Nat.pow_lt_pow_right (by omega) hr
  Nat.xor_lt_two_pow (n := 8) hb h2
theorem turn_lt (mask p i : Nat) (l : List Nat) (hb : ∀ x ∈ l, x < 256) : ∀ x ∈ turn mask p i l, x < 256 := by
  unfold turn
  split
  · intro x hx
    obtain ⟨j, hj⟩ := List.getElem?_of_mem hx
    rw [List.getElem?_modify] at hj
    obtain ⟨y, hy, rfl⟩ := Option.map_eq_some_iff.1 hj
    have := hb y (List.mem_of_getElem? hy)
    split
    · exact xor_byte this (Nat.mod_lt _ (by omega))
    · exact this
  · exact hb
theorem turns_lt (mask p : Nat) (l : List Nat) (hb : ∀ x ∈ l, x < 256) : ∀ i, ∀ x ∈ turns mask p i l, x < 256
  | 0 => hb
  | i + 1 => turn_lt _ _ _ _ (turns_lt mask p l hb i)
theorem turn_value {b r : Nat} (hb : b < 256) (hr : r < 8) : bits .xor .u8 (b : Int) (2 ^ r % 256) = ((b ^^^ 2 ^ r : Nat) : Int) := by
  have h2 : 2 ^ r < 2 ^ 8 := Nat.pow_lt_pow_right (by omega) hr
  have e : ((2 : Int) ^ r % 256) = ((2 ^ r : Nat) : Int) := by
    have h3 : ((2 ^ r : Nat) : Int) = (2 : Int) ^ r := by simp
    rw [← h3]
    generalize 2 ^ r = z at *
    omega
  rw [e]
  exact u8_xor_nat b (2 ^ r) hb h2
theorem map_modify {l : List Nat} {k b : Nat} {f : Nat → Nat} (h : l[k]? = some b) : (l.modify k f).map byt = (l.map byt).set k (byt (f b)) := by
  apply List.ext_getElem?
  intro i
  rw [List.getElem?_map, List.getElem?_modify, List.getElem?_set]
  by_cases e : k = i
  · subst e
    obtain ⟨hl, rfl⟩ := List.getElem?_eq_some_iff.1 h
    simp [hl]
  · simp [e]
theorem xor_cancel {a b c : Nat} (h : a ^^^ c = b ^^^ c) : a = b := by
  have := congrArg (· ^^^ c) h
  simpa [Nat.xor_assoc] using this
theorem pcrc_one (A : Option Addr) (c : Nat) (l : List Nat) (B : Nat) (w : World) (h : Parts w B A 1 [l]) :
    Calls Try.prog 10 #[.slice A 1 c] w fun e w' => e = .returned (.int .u32 ((crcs l ^^^ 4294967295 : Nat) : Int)) ∧ w = w' := by
  have := pcrc A 1 c [l] B w h (by decide)
  rwa [show [l].flatten = l from by simp] at this
theorem ownsRow_form {w : World} {base : Nat} {e : TypeId} {v : Value} {n : Nat} {xs : List Value} {sz : Nat} (h : w.ownsRow base e sz v n xs) (hn : 0 < n) : ∃ g cap, v = .slice (some ⟨g, 0, none⟩) n cap ∧ base ≤ g ∧ g < w.heap.size := by
  rcases h.2 with ⟨_, rfl⟩ | ⟨g, cap, cur, rfl, hb, hh, _⟩
  · omega
  · refine ⟨g, cap, rfl, hb, ?_⟩
    exact (Array.getElem?_eq_some_iff.1 hh).1
theorem and1' (m j : Nat) (hm : m < 4294967296) : bits .and .u32 ((m : Int) / 2 ^ j) 1 = ((m / 2 ^ j % 2 : Nat) : Int) := by
  have e : ((m : Int) / 2 ^ j) = ((m / 2 ^ j : Nat) : Int) := by
    rw [Int.natCast_ediv]; simp
  rw [e]
  exact and1 _ (Nat.lt_of_le_of_lt (Nat.div_le_self _ _) hm)
set_option maxRecDepth 100000 in
theorem burst_in (A : Option Addr) (n c : Nat) (l : List Nat) (at' : Int) (mask : Nat) (w : World) (h : Reads w w.heap.size 1 A n (l.map byt)) (hb : ∀ x ∈ l, x < 256) (hn : n ≤ 140737488351232) (h0 : 0 ≤ at') (hn0 : 0 < n) (hm : mask < 4294967296)
    (hkey : ∀ p : Nat, p < 8 * n → crcs l = crcs (turns mask p 32 l) → l = turns mask p 32 l) :
    Calls Try.prog 4 #[.slice A n c, .int .i64 at', .int .u32 mask] w fun e w' => e = .returned (.bool true) ∧ Below w.heap.size w w' := by
  have kc := fun (w : World) (C : Array Value) (n c : Nat) => Lib.run_convert_bytes_const (P := Try.prog) w 23 5 C n c Try.underlying23 Try.underlying5
  have hd : decide (at' < 0) = false := by simpa using h0
  have h1 : ((n : Int) == 0) = false := by simp; omega
  have h2 : ¬ 8 * (n : Int) = 0 := by omega
  obtain ⟨p, hp⟩ : ∃ p : Nat, at' % (8 * (n : Int)) = p := ⟨(at' % (8 * (n : Int))).toNat, by have := Int.emod_nonneg at' (b := 8 * (n : Int)) (by omega); omega⟩
  have hp8 : p < 8 * n := by have := Int.emod_lt_of_pos at' (b := 8 * (n : Int)) (by omega); omega
  go_enter Try.func4, Try.ntmps4
  go_wp2_with (go_at_call 12; refine (copy_any _ _ _ _ _ _ h hn).mono ?_; rintro e w1 ⟨v, rfl, hown, hb1⟩)
  rw [hp]
  clear hp
  obtain ⟨g, cap, rfl, hg, hg2⟩ := ownsRow_form hown hn0
  go_loopw [8, 9] (fun i k wr => ∃ (j : Nat), j ≤ 32 ∧ i = .int .i64 j ∧ wr.ownsRow w.heap.size 5 1 (.slice (some ⟨g, 0, none⟩) n cap) n ((turns mask p j l).map byt) ∧ Below w.heap.size w wr) (fun i _ _ => 32 - (intOf i).toNat)
  case atStart => exact ⟨0, by omega, rfl, hown, hb1⟩
  case round =>
    obtain ⟨j, hj, rfl, hown', hbr⟩ := hrel
    have hbl := turns_lt mask p l hb j
    have hs : turns mask p (j + 1) l = turn mask p j (turns mask p j l) := rfl
    generalize hl' : turns mask p j l = l' at *
    have HL := Lib.hid hl'; have HS := Lib.hid hs; clear hl' hs
    by_cases hlt : j < 32
    · have e1 := and1' mask j hm
      rcases Nat.mod_two_eq_zero_or_one (mask / 2 ^ j) with e0 | e0
      · rw [e0] at e1
        go_wp2
        exact ⟨⟨j + 1, by omega, by go_num, by rw [HS.out, turn, if_neg (by omega)]; exact hown', hbr⟩, by simp [intOf]; omega⟩
      · rw [e0] at e1
        by_cases hk : (p + j) / 8 < n
        · have hl'n : l'.length = n := by have := hown'.1; simpa using this
          obtain ⟨b, hbb⟩ : ∃ b, l'[(p + j) / 8]? = some b := ⟨l'[(p + j) / 8]'(by omega), List.getElem?_eq_getElem (by omega)⟩
          have hb8 : b < 256 := hbl b (List.mem_of_getElem? hbb)
          have hcell : wr.cell? ⟨g, (p + j) / 8, none⟩ = some (byt b) := by
            rw [hown'.cellAt _ (by omega)]
            simp [hbb]
          have hfr : wr.frozen? ⟨g, (p + j) / 8, none⟩ = false := hown'.frozenAt _
          have hst := hown'.stored ((p + j) / 8)
          have HST := Lib.hid hst; have HOW := Lib.hid hown'; have HBB := Lib.hid hbb; clear hst hown' hbb
          have hvv := turn_value hb8 (Nat.mod_lt (p + j) (by omega : 0 < 8))
          have HBL := Lib.hid hbl; clear hbl
          go_wp2
          refine ⟨⟨j + 1, by omega, by go_num, ?_, hbr.setCell (p := ⟨g, (p + j) / 8, none⟩) hg _⟩, by simp [intOf]; omega⟩
          rw [HS.out, turn, if_pos e0, map_modify HBB.out]
          exact (HST.out _).1
        · have hl'n : l'.length = n := by have := hown'.1; simpa using this
          go_wp2
          refine ⟨⟨j + 1, by omega, by go_num, ?_, hbr⟩, by simp [intOf]; omega⟩
          rw [HS.out, turn, if_pos e0, List.modify_eq_self (by omega)]
          exact hown'
    · obtain rfl : j = 32 := by omega
      have hR := (h.below hbr)
      have hC := Reads.of_own hown'
      have hk := hkey p hp8
      rw [HL.out] at hk
      clear HL HS
      have hn63 : n ≤ 9223372036854775807 := by omega
      have hx1 := crcs_lt l hb
      have hx2 := crcs_lt l' hbl
      have hq : ((((crcs l ^^^ 4294967295 : Nat) : Int) == ((crcs l' ^^^ 4294967295 : Nat) : Int)) == decide (l = l')) = true := by
        by_cases e : l = l'
        · rw [← e]; simp
        · have e2 : ¬ crcs l = crcs l' := fun h => e (hk h)
          have e3 : ¬ (crcs l ^^^ 4294967295) = (crcs l' ^^^ 4294967295) := fun h => e2 (xor_cancel h)
          have e4 : (((crcs l ^^^ 4294967295 : Nat) : Int) == ((crcs l' ^^^ 4294967295 : Nat) : Int)) = false := by
            rw [beq_eq_false_iff_ne]; omega
          rw [e4]; simp [e]
      clear hk hkey hx1 hx2
      go_wp2_with fail
      refine (same_any _ _ _ _ _ _ _ _ _ _ _ hR hC hn63 hn63).mono ?_; rintro e w2 ⟨rfl, m, rfl⟩
      have hp1 := parts_one (w := wr.drewN m) (c := c) (hR.drewN m) hbr.size hb hn63
      have hp2 := parts_one (w := (wr.drewN m).alloc (.cells #[.slice A n c] 23)) (c := cap) ((hC.drewN m).alloc (Nat.le_refl _) _) (by simp) hbl hn63
      have hsz : ((wr.drewN m).alloc (.cells #[.slice A n c] 23)).heap.size = wr.heap.size + 1 := by simp
      rw [hsz] at hp2
      have kc2 := kc (((wr.drewN m).alloc (.cells #[.slice A n c] 23)).alloc (.cells #[.slice (some ⟨g, 0, none⟩) n cap] 23)) #[.int .u8 49, .int .u8 50, .int .u8 51, .int .u8 52, .int .u8 53, .int .u8 54, .int .u8 55, .int .u8 56, .int .u8 57] 9 9
      have hdc := digits_crc (((wr.drewN m).alloc (.cells #[.slice A n c] 23)).alloc (.cells #[.slice (some ⟨g, 0, none⟩) n cap] 23))
      rw [World.size_alloc, hsz] at kc2 hdc
      clear hsz
      have HDC := Lib.hid hdc; clear hdc
      go_wp2_with fail
      refine (pcrc_one _ _ _ _ _ hp1).mono ?_; rintro e w2 ⟨rfl, rfl⟩
      go_wp2_with fail
      refine (pcrc_one _ _ _ _ _ hp2).mono ?_; rintro e w2 ⟨rfl, rfl⟩
      go_wp2_with fail
      refine HDC.out.mono ?_; rintro e w2 ⟨rfl, rfl⟩
      go_wp2_with fail
      go_ret
      refine ⟨rfl, ?_⟩
      have hbs := hbr.size
      exact (((((below_drewN hbr m).alloc hbs _).alloc (by simp; omega) _).alloc (by simp; omega) _).alloc (by simp; omega) _)
end Go.Proofs.Ytiajmngjhbckjaa
