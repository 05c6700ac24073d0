/- The contracts of octet.Hex and spindleref01.Hex, digit, half. -/
import Derived.Test.YtiajmngjhbckjaaBuilder
import Derived.Test.YtiajmngjhbckjaaShelf
namespace Go.Proofs.Ytiajmngjhbckjaa
open Go.RowKit
def hexd (n : Nat) : Nat := if n < 10 then 48 + n else 87 + n
def hexL (l : List Nat) : List Nat := l.flatMap fun b => [hexd (b / 16), hexd (b % 16)]
theorem digit_any (v : Nat) (w : World) (hv : v < 16) : Calls Try.prog 25 #[.int .u8 v] w fun e w' => e = .returned (.int .u8 (hexd v : Nat)) ∧ w' = w := by
  by_cases h : v < 10
  · have e : hexd v = 48 + v := if_pos h
    rw [e]
    go_enter Try.func25, Try.ntmps25
    go_wp2
    go_ret
    exact ⟨by congr 2, rfl⟩
  · have e : hexd v = 87 + v := if_neg h
    rw [e]
    go_enter Try.func25, Try.ntmps25
    go_wp2
    go_ret
    exact ⟨by rw [show ((87 + v : Nat) : Int) = 97 + (v : Int) - 10 from by omega]; rfl, rfl⟩
theorem hexBA_at (i : Nat) (h : i < ({ data := #[48, 49, 50, 51, 52, 53, 54, 55, 56, 57, 97, 98, 99, 100, 101, 102] } : ByteArray).size) :
    (({ data := #[48, 49, 50, 51, 52, 53, 54, 55, 56, 57, 97, 98, 99, 100, 101, 102] } : ByteArray)[i]'h).toNat = hexd i := by
  have : ∀ i : Fin 16, (({ data := #[48, 49, 50, 51, 52, 53, 54, 55, 56, 57, 97, 98, 99, 100, 101, 102] } : ByteArray)[i.val]'(i.isLt)).toNat = hexd i := by decide +kernel
  exact this ⟨i, h⟩
theorem hexL_snoc (l : List Nat) (b : Nat) : hexL (l ++ [b]) = hexL l ++ [hexd (b / 16), hexd (b % 16)] := by simp [hexL]
theorem hexL_length (l : List Nat) : (hexL l).length = 2 * l.length := by
  induction l with
  | nil => rfl
  | cons b l ih => simp only [hexL, List.flatMap_cons, List.length_append, List.length_cons, List.length_nil] at ih ⊢; omega
theorem hexd_lt {i : Nat} (h : i < 16) : hexd i < 256 := by unfold hexd; split <;> omega
theorem hexL_lt (l : List Nat) (hb : ∀ x ∈ l, x < 256) : ∀ x ∈ hexL l, x < 256 := by
  intro x hx
  obtain ⟨b, hbl, hx⟩ := List.mem_flatMap.1 hx
  have := hb b hbl
  simp at hx
  rcases hx with rfl | rfl <;> exact hexd_lt (by omega)
theorem byteCells_byt {l : List Nat} (h : ∀ x ∈ l, x < 256) : Lib.byteCells (l.map Nat.toUInt8) = l.map byt := by
  unfold Lib.byteCells
  rw [List.map_map]
  refine List.map_congr_left fun x hx => ?_
  have := h x hx
  simp [Nat.toUInt8, byt, Nat.mod_eq_of_lt this]
theorem and15 {b : Nat} (hb : b < 256) : bits .and .u8 (b : Int) 15 = ((b % 16 : Nat) : Int) := by
  have := u8_and_nat b 15 hb (by omega)
  rw [nat_mask4] at this
  exact this
theorem hex_any (A : Option Addr) (n c : Nat) (l : List Nat) (B : Nat) (w : World) (h : Reads w B 1 A n (l.map byt)) (hB : B ≤ w.heap.size) (hb : ∀ x ∈ l, x < 256) (hn : n ≤ 1048576) :
    Calls Try.prog 14 #[.slice A n c] w fun e w' => e = .returned (.string ⟨((hexL l).map Nat.toUInt8).toArray⟩) ∧ Below w.heap.size w w' := by
  have hln : l.length = n := by have := h.1; simpa using this
  go_enter Try.func14, Try.ntmps14
  go_wp2
  go_loopw [8] (fun i wr => ∃ (k : Nat), k ≤ n ∧ i = .int .i64 k ∧ Lib.IsBuilder 47 5 w.heap.size w.heap.size ((hexL (l.take k)).map byt) wr ∧ Below w.heap.size w wr) (fun i _ => n - (intOf i).toNat)
  case atStart =>
    refine ⟨0, by omega, rfl, .inl ⟨Nat.le_refl _, .slice none 0 0, ?_, ⟨rfl, .inl ⟨rfl, rfl⟩⟩, by simp [Value.ownBlock]⟩, (Below.refl _ _).alloc (Nat.le_refl _) _⟩
    exact heap_alloc_new w _
  case round =>
    obtain ⟨k, hk, rfl, hbl, hbw⟩ := hrel
    have hbs := hbw.size
    by_cases hlt : k < n
    · obtain ⟨ad, u, rfl, had, hx, hcell⟩ := (h.below (hbw.mono hB)).at_ hlt
      obtain ⟨b, hbx, rfl⟩ : ∃ b, l[k]? = some b ∧ byt b = u := by simpa using hx
      have hb8 : b < 256 := hb b (List.mem_of_getElem? hbx)
      have hlen : ((hexL (l.take k)).map byt).length ≤ 2097152 := by rw [List.length_map, hexL_length, List.length_take]; omega
      have hs := hexL_snoc (l.take k) b
      rw [← take_snoc' l k b hbx] at hs
      have HS := Lib.hid hs; clear hs hx hbx
      have e15 := and15 hb8
      go_wp2_with fail
      rw [hexBA_at]
      refine (Builder_WriteByte w.heap.size w.heap.size _ _ wr hbl (by omega) hbs).mono ?_
      rintro e w1 ⟨rfl, hb1, hbw1⟩
      have hbs1 := hbw1.size
      go_wp2_with fail
      rw [hexBA_at]
      refine (Builder_WriteByte w.heap.size w.heap.size _ _ w1 (.inr hb1) (by simp at hlen ⊢; omega) (by omega)).mono ?_
      rintro e w2 ⟨rfl, hb2, hbw2⟩
      go_wp2_with fail
      refine ⟨⟨k + 1, by omega, by go_num, .inr ?_, hbw.trans (hbw1.trans hbw2)⟩, by simp [intOf]; omega⟩
      rw [HS.out]
      simpa using hb2
    · obtain rfl : k = n := by omega
      rw [List.take_of_length_le (by omega)] at hbl
      have hcl := byteCells_byt (hexL_lt l hb)
      rw [← hcl] at hbl
      go_wp2_with fail
      refine (Try.Builder_String_any w.heap.size w.heap.size _ wr hbl hbs).mono ?_
      rintro e w1 ⟨rfl, hbw1⟩
      go_wp2_with fail
      go_ret
      exact ⟨rfl, hbw.trans hbw1⟩
end Go.Proofs.Ytiajmngjhbckjaa
