/- The contracts of octet.Crc and spindleref01.Crc. -/
import Derived.Test.YtiajmngjhbckjaaDoorRows
import Derived.Test.YtiajmngjhbckjaaDoorWords
import Derived.Test.YtiajmngjhbckjaaDoorOpen
import Derived.WalkKit
import Derived.LoopTactic
import Derived.Outline
namespace Go.Proofs.YtiajmngjhbckjaaDoor
open Go.RowKit
/-- One bit of the sum. -/
def cbit (s : Nat) : Nat := if s % 2 = 1 then (s / 2) ^^^ 2197175160 else s / 2
def cbits : Nat → Nat → Nat
  | 0, s => s
  | k + 1, s => cbit (cbits k s)
def cbyte (s b : Nat) : Nat := cbits 8 (s ^^^ b)
def crcs (l : List Nat) : Nat := l.foldl cbyte 4294967295
theorem cbit_lt {s : Nat} (h : s < 4294967296) : cbit s < 4294967296 := by
  unfold cbit
  split
  · exact Nat.xor_lt_two_pow (n := 32) (by omega) (by omega)
  · omega
theorem cbits_lt {s : Nat} (h : s < 4294967296) : ∀ k, cbits k s < 4294967296
  | 0 => h
  | k + 1 => cbit_lt (cbits_lt h k)
theorem cbyte_lt {s b : Nat} (h : s < 4294967296) (hb : b < 256) : cbyte s b < 4294967296 :=
  cbits_lt (Nat.xor_lt_two_pow (n := 32) (by omega) (by omega)) 8
theorem crcs_snoc (l : List Nat) (b : Nat) : crcs (l ++ [b]) = cbyte (crcs l) b := by simp [crcs]
theorem crcs_lt (l : List Nat) (hb : ∀ x ∈ l, x < 256) : crcs l < 4294967296 := by
  suffices h : ∀ (l : List Nat) (s : Nat), s < 4294967296 → (∀ x ∈ l, x < 256) → l.foldl cbyte s < 4294967296 from h l _ (by omega) hb
  intro l
  induction l with
  | nil => intro s hs _; exact hs
  | cons x l ih => intro s hs hb; exact ih _ (cbyte_lt hs (hb x (by simp))) fun y hy => hb y (by simp [hy])
theorem take_snoc' {α : Type} (l : List α) (k : Nat) (b : α) (h : l[k]? = some b) : l.take (k + 1) = l.take k ++ [b] := by
  rw [List.take_succ_eq_append_getElem (List.getElem?_eq_some_iff.1 h).1, (List.getElem?_eq_some_iff.1 h).2]
theorem and1 (y : Nat) (hy : y < 4294967296) : bits .and .u32 (y : Int) 1 = ((y % 2 : Nat) : Int) := by
  have := u32_and_nat y 1 hy (by omega)
  rw [nat_mask1] at this
  exact this
theorem xorP (y : Nat) (hy : y < 4294967296) : bits .xor .u32 ((y : Int) / 2) 2197175160 = (((y / 2) ^^^ 2197175160 : Nat) : Int) := u32_xor_nat (y / 2) 2197175160 (by omega) (by omega)
theorem xorF (y : Nat) (hy : y < 4294967296) : bits .xor .u32 (y : Int) 4294967295 = ((y ^^^ 4294967295 : Nat) : Int) := u32_xor_nat y 4294967295 (by omega) (by omega)
theorem xorM (y : Nat) (hy : y < 4294967296) : bits .xor .u32 IntKind.u32.max (y : Int) = ((y ^^^ 4294967295 : Nat) : Int) := by
  rw [Nat.xor_comm]; exact u32_xor_nat 4294967295 y (by omega) hy
theorem cbit_yes {y : Nat} (hy : y < 4294967296) (h : (bits .and .u32 (y : Int) 1 == 1) = true) : bits .xor .u32 ((y : Int) / 2) 2197175160 = ((cbit y : Nat) : Int) := by
  rw [and1 y hy] at h
  have h2 : y % 2 = 1 := by have := eq_of_beq h; omega
  rw [xorP y hy, cbit, if_pos h2]
theorem cbit_no {y : Nat} (hy : y < 4294967296) (h : (bits .and .u32 (y : Int) 1 == 1) = false) : (y : Int) / 2 = ((cbit y : Nat) : Int) := by
  rw [and1 y hy] at h
  have h2 : ¬ y % 2 = 1 := by intro e; rw [e] at h; simp at h
  rw [cbit, if_neg h2]; omega
theorem cbit_neg {y : Nat} (hy : y < 4294967296) : bits .xor .u32 ((y : Int) / 2) (bits .and .u32 2197175160 (-bits .and .u32 (y : Int) 1 % 4294967296)) = ((cbit y : Nat) : Int) := by
  rw [and1 y hy]
  by_cases h : y % 2 = 1
  · rw [h, show (-((1 : Nat) : Int) % 4294967296) = 4294967295 from by decide, show bits .and .u32 2197175160 4294967295 = 2197175160 from by decide +kernel, xorP y hy, cbit, if_pos h]
  · have h0 : y % 2 = 0 := by omega
    rw [h0, show (-((0 : Nat) : Int) % 4294967296) = 0 from by decide, show bits .and .u32 2197175160 0 = 0 from by decide +kernel, cbit, if_neg h]
    have := u32_xor_nat (y / 2) 0 (by omega) (by omega)
    rw [Nat.xor_zero] at this
    exact this
theorem pcrc (A : Option Addr) (n c : Nat) (ls : List (List Nat)) (B : Nat) (w : World) (h : Parts w B A n ls) (hn : n ≤ 9223372036854775807) :
    Calls Tryd.prog 54 #[.slice A n c] w fun e w' => e = .returned (.int .u32 ((crcs ls.flatten ^^^ 4294967295 : Nat) : Int)) ∧ w = w' := by
  obtain ⟨hln, xs, hR, hP⟩ := h
  have hball : ∀ l ∈ ls, ∀ x ∈ l, x < 256 := fun l hl => by
    obtain ⟨i, hi⟩ := List.getElem?_of_mem hl
    exact (hP i l hi).1
  go_enter Tryd.func54, Tryd.ntmps54
  go_wp2
  go_loop [3, 11] (fun s i => ∃ (k : Nat), k ≤ n ∧ i = .int .i64 k ∧ s = .int .u32 (crcs (ls.take k).flatten : Nat)) (fun _ i => n - (intOf i).toNat)
  case atStart => exact ⟨0, by omega, rfl, rfl⟩
  case round =>
    obtain ⟨k, hk, rfl, rfl⟩ := hrel
    have hx32 := crcs_lt (ls.take k).flatten (fun x hx => by
      obtain ⟨l, hl, hxl⟩ := List.mem_flatten.1 hx
      exact hball l (List.mem_of_mem_take hl) x hxl)
    by_cases hlt : k < n
    · obtain ⟨ad, u, rfl, _, hx, hcell⟩ := hR.at_ hlt
      obtain ⟨l, hl⟩ : ∃ l, ls[k]? = some l := ⟨ls[k]'(by omega), List.getElem?_eq_getElem (by omega)⟩
      obtain ⟨hb, Ai, ni, ci, hxi, hRi, hni⟩ := hP k l hl
      obtain rfl : u = .slice Ai ni ci := by rw [hx] at hxi; exact Option.some.inj hxi
      have hs : crcs (ls.take (k + 1)).flatten = l.foldl cbyte (crcs (ls.take k).flatten) := by
        rw [take_snoc' ls k l hl]; simp [crcs]
      have hli : l.length = ni := by have := hRi.1; simpa using this
      have HS := Lib.hid hs; have HB := Lib.hid hball; have HP := Lib.hid hP; have HL := Lib.hid hl; clear hs hball hP hl hx hxi hR
      generalize hq : crcs (ls.take k).flatten = q at *
      have HQ := Lib.hid hq; clear hq
      have hqq : ∀ j, (l.take j).foldl cbyte q < 4294967296 := by
        intro j
        suffices h : ∀ (l : List Nat) (s : Nat), s < 4294967296 → (∀ x ∈ l, x < 256) → l.foldl cbyte s < 4294967296 from h _ _ hx32 (fun x hx => hb x (List.mem_of_mem_take hx))
        intro l
        induction l with
        | nil => intro s hs _; exact hs
        | cons x l ih => intro s hs hb; exact ih _ (cbyte_lt hs (hb x (by simp))) fun y hy => hb y (by simp [hy])
      have HQQ := Lib.hid hqq; clear hqq
      go_wp2
      go_loop [3, 17] (fun s i => ∃ (j : Nat), j ≤ ni ∧ i = .int .i64 j ∧ s = .int .u32 ((l.take j).foldl cbyte q : Nat)) (fun _ i => ni - (intOf i).toNat)
      case atStart => exact ⟨0, by omega, rfl, rfl⟩
      case round =>
        obtain ⟨j, hj, rfl, rfl⟩ := hrel
        have hx32 := HQQ.out j
        by_cases hltj : j < ni
        · obtain ⟨ad', u, rfl, _, hx, hcell'⟩ := hRi.at_ hltj
          obtain ⟨b, hbx, rfl⟩ : ∃ b, l[j]? = some b ∧ byt b = u := by simpa using hx
          have hb8 : b < 256 := hb b (List.mem_of_getElem? hbx)
          have hs : (l.take (j + 1)).foldl cbyte q = cbyte ((l.take j).foldl cbyte q) b := by rw [take_snoc' l j b hbx]; simp
          have HS2 := Lib.hid hs; clear hs hbx hx
          have HB2 := Lib.hid hb; have HRi := Lib.hid hRi; clear hb hRi
          generalize hr : (l.take j).foldl cbyte q = r at *
          have HR := Lib.hid hr; clear hr
          have e1 := u32_xor_nat r b hx32 (by omega)
          have ey : r ^^^ b < 4294967296 := Nat.xor_lt_two_pow (n := 32) (by omega) (by omega)
          go_wp2
          go_loop [3, 25] (fun s i => ∃ (m : Nat), m ≤ 8 ∧ i = .int .i64 m ∧ s = .int .u32 (cbits m (r ^^^ b) : Nat)) (fun _ i => 8 - (intOf i).toNat)
          case atStart => exact ⟨0, by omega, rfl, rfl⟩
          case round =>
            obtain ⟨m, hm, rfl, rfl⟩ := hrel
            by_cases hlt8 : m < 8
            · have hy := cbits_lt ey m
              have hs1 : cbits (m + 1) (r ^^^ b) = cbit (cbits m (r ^^^ b)) := rfl
              generalize hz : cbits m (r ^^^ b) = y at *
              have HZ := Lib.hid hz; have HS1 := Lib.hid hs1; clear hz hs1
              go_wp2
              exact ⟨⟨m + 1, by omega, by go_num, by rw [HS1.out, cbit_neg hy]⟩, by simp [intOf]; omega⟩
            · obtain rfl : m = 8 := by omega
              go_wp2
              go_roundw
              case rel => exact ⟨j + 1, by omega, by go_num, by rw [HS2.out]; rfl⟩
              case measure => simp [intOf]; omega
        · obtain rfl : j = ni := by omega
          have hs2 : l.take j = l := List.take_of_length_le (by omega)
          go_wp2
          go_roundw
          case rel => exact ⟨k + 1, by omega, by go_num, by rw [HS.out, hs2]⟩
          case measure => simp [intOf]; omega
    · obtain rfl : k = n := by omega
      rw [List.take_of_length_le (by omega)] at *
      go_wp2
      go_ret
      exact ⟨by rw [xorM _ hx32]; rfl, rfl⟩
end Go.Proofs.YtiajmngjhbckjaaDoor
