/- The contracts of octet.Unhex and spindleref01.Unhex, half. -/
import Derived.Test.YtiajmngjhbckjaaRhex
import Derived.Deep.QuietTactic
import Derived.BigQuiet
namespace Go.Proofs.Ytiajmngjhbckjaa
open Go.RowKit
/-- A half byte's digit; -1: none. -/
def nib (c : Nat) : Int := if 48 ≤ c ∧ c ≤ 57 then (c : Int) - 48 else if 97 ≤ c ∧ c ≤ 102 then (c : Int) - 87 else -1
def unhx : List Nat → Option (List Nat)
  | [] => some []
  | [_] => none
  | a :: b :: l => if nib a < 0 ∨ nib b < 0 then none else (unhx l).map ((16 * nib a + nib b).toNat :: ·)
theorem nib_lt (c : Nat) : -1 ≤ nib c ∧ nib c < 16 := by unfold nib; split; omega; split <;> omega
theorem nib_cases (c : Nat) : nib c = -1 ∨ 0 ≤ nib c := by unfold nib; split; omega; split <;> omega
theorem unhx_odd : ∀ (l : List Nat), l.length % 2 = 1 → unhx l = none
  | [], h => by simp at h
  | [_], _ => rfl
  | a :: b :: l, h => by
    have := unhx_odd l (by simp at h; omega)
    simp [unhx, this]
theorem unhx_lt : ∀ (l o : List Nat), unhx l = some o → ∀ x ∈ o, x < 256
  | [], o, h => by obtain rfl := Option.some.inj h; simp
  | [_], o, h => by cases h
  | a :: b :: l, o, h => by
    unfold unhx at h
    split at h
    · cases h
    · obtain ⟨o', h1, rfl⟩ := Option.map_eq_some_iff.1 h
      intro x hx
      have := nib_lt a; have := nib_lt b
      rcases List.mem_cons.1 hx with rfl | hx
      · omega
      · exact unhx_lt l o' h1 x hx
theorem unhx_length : ∀ (l o : List Nat), unhx l = some o → 2 * o.length = l.length
  | [], o, h => by obtain rfl := Option.some.inj h; rfl
  | [_], o, h => by cases h
  | a :: b :: l, o, h => by
    unfold unhx at h
    split at h
    · cases h
    · obtain ⟨o', h1, rfl⟩ := Option.map_eq_some_iff.1 h
      have := unhx_length l o' h1
      simp only [List.length_cons]; omega
theorem nib_hexd {n : Nat} (h : n < 16) : nib (hexd n) = n := by
  have : ∀ i : Fin 16, nib (hexd i.val) = (i.val : Int) := by decide
  exact this ⟨n, h⟩
theorem unhx_hexL : ∀ (l : List Nat), (∀ x ∈ l, x < 256) → unhx (hexL l) = some l
  | [], _ => rfl
  | b :: l, h => by
    have hb := h b (by simp)
    have ih := unhx_hexL l (fun x hx => h x (by simp [hx]))
    have h1 := nib_hexd (n := b / 16) (by omega)
    have h2 := nib_hexd (n := b % 16) (by omega)
    have e : hexL (b :: l) = hexd (b / 16) :: hexd (b % 16) :: hexL l := by simp [hexL]
    rw [e, unhx, h1, h2, ih, if_neg (by omega)]
    simp; omega
theorem indexByte_nib (c : Nat) (h : c < 256) : Lib.indexByte [48, 49, 50, 51, 52, 53, 54, 55, 56, 57, 97, 98, 99, 100, 101, 102] c.toUInt8 = nib c := by
  have : ∀ i : Fin 256, Lib.indexByte [48, 49, 50, 51, 52, 53, 54, 55, 56, 57, 97, 98, 99, 100, 101, 102] i.val.toUInt8 = nib i.val := by decide +kernel
  exact this ⟨c, h⟩
/-- A string's bytes as numbers. -/
def nums (s : ByteArray) : List Nat := s.data.toList.map UInt8.toNat
theorem nums_length (s : ByteArray) : (nums s).length = s.size := (List.length_map _).trans (Array.length_toList)
theorem nums_lt (s : ByteArray) : ∀ x ∈ nums s, x < 256 := by
  intro x hx
  obtain ⟨b, _, rfl⟩ := List.mem_map.1 hx
  exact b.toNat_lt
theorem nums_at (s : ByteArray) (i : Nat) (h : i < s.size) : (nums s)[i]? = some (s[i]'h).toNat := by
  have h' : i < s.data.size := h
  have e : s.data.toList[i]? = some (s.data[i]'h') := (Array.getElem?_toList).trans (Array.getElem?_eq_getElem h')
  simp only [nums, List.getElem?_map, e, Option.map_some]; rfl
theorem nums_strOf {l : List Nat} (h : ∀ x ∈ l, x < 256) : nums (strOf l) = l := by
  unfold nums strOf
  rw [List.toList_toArray, List.map_map]
  conv => rhs; rw [← List.map_id l]
  refine List.map_congr_left fun x hx => ?_
  have := h x hx
  simp [Nat.toUInt8, Nat.mod_eq_of_lt this]
theorem drop2 {l : List Nat} {i a b : Nat} (ha : l[i]? = some a) (hb : l[i + 1]? = some b) : l.drop i = a :: b :: l.drop (i + 2) := by
  obtain ⟨h1, rfl⟩ := List.getElem?_eq_some_iff.1 ha
  obtain ⟨h2, rfl⟩ := List.getElem?_eq_some_iff.1 hb
  rw [List.drop_eq_getElem_cons h1, List.drop_eq_getElem_cons h2]
theorem half_any (c : Nat) (w : World) (h : c < 256) : Calls Try.prog 27 #[.int .u8 c] w fun e w' => e = .returned (.int .i64 (nib c)) ∧ w' = w := by
  by_cases h1 : 48 ≤ c ∧ c ≤ 57
  · rw [show nib c = (c : Int) - 48 from if_pos h1]
    obtain ⟨h1, h2⟩ := h1
    go_enter Try.func27, Try.ntmps27
    go_wp2
    go_ret
    exact ⟨rfl, rfl⟩
  · by_cases h2 : 97 ≤ c ∧ c ≤ 102
    · rw [show nib c = (c : Int) - 97 + 10 from (if_neg h1).trans ((if_pos h2).trans (by omega))]
      obtain ⟨h2, h3⟩ := h2
      have h1' : ¬ (c ≤ 57) := by omega
      go_enter Try.func27, Try.ntmps27
      go_wp2
      go_ret
      exact ⟨rfl, rfl⟩
    · rw [show nib c = -1 from (if_neg h1).trans (if_neg h2)]
      go_enter Try.func27, Try.ntmps27
      go_wp2
      all_goals first | (exfalso; omega) | skip
      all_goals go_ret
      all_goals exact ⟨rfl, rfl⟩
end Go.Proofs.Ytiajmngjhbckjaa
