/- What Check answers at the questions of RuleNamed. -/
import Derived.Test.YtnnedmkidbokoaaDoorBounds
namespace Go.Proofs.YtnnedmkidbokoaaDoor
open Go.RowKit
theorem small_flags {f F : Nat} (hf : f < 65536) (hF : F < 32) (h : f &&& (65535 - F) = 0) : f < 32 := by
  have h2 : f &&& 65504 = 0 := by
    have e : (65535 - F) &&& 65504 = 65504 := by
      have : ∀ F, F < 32 → (65535 - F) &&& 65504 = 65504 := by decide +kernel
      exact this F hF
    rw [← e, ← Nat.and_assoc, h]; simp
  have h3 := congrArg (· / 2 ^ 5) h2
  simp only [Nat.and_div_two_pow] at h3
  have h4 : f / 2 ^ 5 &&& 65504 / 2 ^ 5 = f / 2 ^ 5 % 2048 := nat_mask11 _
  rw [h4] at h3
  omega
theorem fl_nat : ∀ t : Nat, t < 8 → ∃ F : Nat, F < 32 ∧ fl (t : Int) = (F : Int) := by decide +kernel
/-- What is right of the flags. -/
def okFlags (f t : Nat) : Bool := bad1 true 0 f t == false && statB true t 1 == false && (!(t == 1) || !hasB f 4) && (!(hasB f 16) || t == 6)
theorem ok_flags : ∀ t : Nat, t < 8 → ∀ f : Nat, f < 32 → bits .andNot .u16 (f : Int) (fl t) = 0 → okFlags f t = true := by decide +kernel
theorem sizeI_nat {k : Nat} (h1 : 1 ≤ k) (h2 : k ≤ 1000) : sizeI (k : Int) = k * 512 := by
  rw [sizeI, if_pos (by omega), IntKind.wrap_u64, IntKind.wrap_u64]; omega
def fastF (f : Int) : Bool := hasB f 16 && hasB f 2
def chgF (t : Int) : Bool := t == 1 || t == 4 || t == 6
theorem be_nat : ∀ t : Nat, t < 8 → be (t : Int) = if (t : Int) = 1 ∨ (t : Int) = 6 then 28 else if (t : Int) = 2 ∨ (t : Int) = 3 then 0 else 22 := by decide +kernel
/-- The first and the second question; the third. -/
theorem named_any {k f t : Nat} {ro : Bool} {off len : Int} (hk1 : 1 ≤ k) (hk2 : k ≤ 1000) (hok : okFlags f t = true) (ho : 0 ≤ off) (hl : 0 ≤ len) (hl2 : len ≤ 2000) :
    chk k ro true false 1 1048576 f t off len 1 =
      if (t : Int) = 2 then 0 else if (t : Int) = 3 then (if movedB off len = true then 22 else 0) else if (chgF t && ro) = true then 1 else if len = 0 then 22 else
      if (k : Int) * 512 < off ∨ (k : Int) * 512 - off < len then be t else if fastF f = true ∨ (hasB f 16 = true ∧ (off % 512 ≠ 0 ∨ len % 512 ≠ 0)) then 95 else 0 := by
  simp only [okFlags, Bool.and_eq_true, beq_iff_eq, Bool.or_eq_true, Bool.not_eq_true'] at hok
  obtain ⟨⟨⟨b1, b2⟩, _⟩, _⟩ := hok
  have e1 : chk k ro true false 1 1048576 f t off len 1 = chk0 k ro true 0 1 1048576 f t off len 1 := rfl
  rw [e1, chk0, b1, if_neg (by simp)]
  by_cases h2 : (t : Int) = 2
  · rw [if_pos (by simp [h2]), if_pos h2]
  rw [if_neg (by simpa using h2), if_neg h2]
  by_cases h3 : (t : Int) = 3
  · rw [if_pos (by simp [h3]), if_pos h3]
  rw [if_neg (by simpa using h3), if_neg h3]
  have ep : permB t ro = (chgF t && ro) := rfl
  rw [ep]
  by_cases hp : (chgF t && ro) = true
  · rw [if_pos hp, if_pos hp]
  rw [if_neg hp, if_neg hp, b2, if_neg (by simp)]
  by_cases hl0 : len = 0
  · rw [if_pos (by simp [hl0]), if_pos hl0]
  rw [if_neg (by simpa using hl0), if_neg hl0]
  have e3 : payB t 1048576 len = false := by simp [payB]; intro; omega
  have e4 : dfB f len = false := by simp [dfB]; intro; omega
  rw [e3, e4, if_neg (by simp), if_neg (by simp), sizeI_nat hk1 hk2]
  by_cases hout : (k : Int) * 512 < off ∨ (k : Int) * 512 - off < len
  · rw [if_pos hout, if_pos]
    simp only [outB, Bool.or_eq_true, decide_eq_true_eq]
    rcases hout with h | h
    · exact .inl h
    · by_cases hb : (k : Int) * 512 < off
      · exact .inl hb
      · right; rw [IntKind.wrap_u64]; omega
  · have e5 : outB off len (k * 512) = false := by
      simp only [outB, Bool.or_eq_false_iff, decide_eq_false_iff_not]
      refine ⟨by omega, ?_⟩
      rw [IntKind.wrap_u64]; omega
    rw [e5, if_neg (by simp), if_neg hout]
    have e6 : minB 1 off len = false := by simp [minB]
    rw [e6, if_neg (by simp)]
    have e7 : fastB f off len = true ↔ (fastF f = true ∨ (hasB f 16 = true ∧ (off % 512 ≠ 0 ∨ len % 512 ≠ 0))) := by
      simp only [fastB, fastF, Bool.and_eq_true, Bool.or_eq_true, bne_iff_ne]
      constructor
      · rintro ⟨a, (b | b) | b⟩
        · exact .inl ⟨a, b⟩
        · exact .inr ⟨a, .inl b⟩
        · exact .inr ⟨a, .inr b⟩
      · rintro (⟨a, b⟩ | ⟨a, b | b⟩)
        · exact ⟨a, .inl (.inl b)⟩
        · exact ⟨a, .inl (.inr b)⟩
        · exact ⟨a, .inr b⟩
    simp only [e7]
end Go.Proofs.YtnnedmkidbokoaaDoor
