/- Quotation marks taken away, a step; of no program. By this session. -/
import Derived.Test.YtiajmngjhbckjaaRunePure
namespace Go.Proofs.Ytiajmngjhbckjaa
open Go.Lib
theorem list1 (l : List UInt8) (h : l ≠ []) : l = l.getD 0 0 :: l.drop 1 := one_head l h
theorem list2 (l : List UInt8) (h : 2 ≤ l.length) : l = l.getD 0 0 :: l.getD 1 0 :: l.drop 2 := by
  match l, h with
  | _ :: _ :: _, _ => rfl
theorem list4 (l : List UInt8) (h : 4 ≤ l.length) : l = l.getD 0 0 :: l.getD 1 0 :: l.getD 2 0 :: l.getD 3 0 :: l.drop 4 := by
  match l, h with
  | _ :: _ :: _ :: _ :: _, _ => rfl
theorem num_iff (l : List UInt8) (k n : Nat) (hn : n < 256) : l.getD k 0 = n.toUInt8 ↔ (l.getD k 0).toNat = n := byte_num _ n hn
theorem unP_other (l : List UInt8) (h : l ≠ []) (hc : (l.getD 0 0).toNat ≠ 92) : unP l = (unP (l.drop 1)).map (l.getD 0 0 :: ·) := by
  have hc' : l.getD 0 0 ≠ 92 := fun e => hc (by rw [e]; rfl)
  conv => lhs; rw [list1 l h]
  exact unP_plain _ _ hc'
theorem unR_other (l : List UInt8) (h : l ≠ []) (hc : (l.getD 0 0).toNat ≠ 92) : unR l = (unR (l.drop 1)).map (l.getD 0 0 :: ·) := by
  have hc' : l.getD 0 0 ≠ 92 := fun e => hc (by rw [e]; rfl)
  conv => lhs; rw [list1 l h]
  exact unR_plain _ _ hc'
theorem un_alone (l : List UInt8) (h : l ≠ []) (hc : (l.getD 0 0).toNat = 92) (h2 : l.length < 2) : unP l = none ∧ unR l = none := by
  have hc' : l.getD 0 0 = 92 := (num_iff l 0 92 (by omega)).2 hc
  have hl : l.drop 1 = [] := List.drop_of_length_le (by omega)
  rw [list1 l h, hc', hl]
  exact ⟨rfl, rfl⟩
theorem unP_back (l : List UInt8) (h : 2 ≤ l.length) (hc : (l.getD 0 0).toNat = 92) :
    unP l = if (l.getD 1 0).toNat = 34 ∨ (l.getD 1 0).toNat = 92 then (unP (l.drop 2)).map (l.getD 1 0 :: ·) else if (l.getD 1 0).toNat = 110 then (unP (l.drop 2)).map (10 :: ·)
      else if (l.getD 1 0).toNat = 120 then (if l.length < 4 then none else if nb8 (l.getD 2 0) < 0 ∨ nb8 (l.getD 3 0) < 0 then none else (unP (l.drop 4)).map ((16 * nb8 (l.getD 2 0) + nb8 (l.getD 3 0)).toNat.toUInt8 :: ·)) else none := by
  have hc' : l.getD 0 0 = 92 := (num_iff l 0 92 (by omega)).2 hc
  have h34 : l.getD 1 0 = 34 ↔ (l.getD 1 0).toNat = 34 := num_iff l 1 34 (by omega)
  have h92 : l.getD 1 0 = 92 ↔ (l.getD 1 0).toNat = 92 := num_iff l 1 92 (by omega)
  have h110 : l.getD 1 0 = 110 ↔ (l.getD 1 0).toNat = 110 := num_iff l 1 110 (by omega)
  have h120 : l.getD 1 0 = 120 ↔ (l.getD 1 0).toNat = 120 := num_iff l 1 120 (by omega)
  simp only [← h34, ← h92, ← h110, ← h120]
  have e : unP l = unP (92 :: l.getD 1 0 :: l.drop 2) := by conv => lhs; rw [list2 l h, hc']
  rw [e, unP.eq_def]; dsimp only
  rw [if_pos rfl]
  by_cases h4 : l.length < 4
  · rw [if_pos h4]
    have : ∀ x y t', l.drop 2 ≠ x :: y :: t' := by
      intro x y t' e
      have := congrArg List.length e
      simp at this; omega
    congr 3
    cases hd : l.drop 2 with
    | nil => rfl
    | cons x t => cases t with
      | nil => rfl
      | cons y t => exact absurd hd (this x y t)
  · rw [if_neg h4]
    have e4 : l.drop 2 = l.getD 2 0 :: l.getD 3 0 :: l.drop 4 := by
      have := list4 l (by omega)
      conv => lhs; rw [this]
      rfl
    rw [e4]
theorem unR_back (l : List UInt8) (h : 2 ≤ l.length) (hc : (l.getD 0 0).toNat = 92) :
    unR l = if (l.getD 1 0).toNat = 110 then (unR (l.drop 2)).map (10 :: ·)
      else if (l.getD 1 0).toNat = 120 then (if l.length < 4 then (unR (l.drop 2)).map (120 :: ·) else if nb8 (l.getD 2 0) < 0 ∨ nb8 (l.getD 3 0) < 0 then (unR (l.drop 2)).map (120 :: ·) else (unR (l.drop 4)).map ((16 * nb8 (l.getD 2 0) + nb8 (l.getD 3 0)).toNat.toUInt8 :: ·))
      else (unR (l.drop 2)).map (l.getD 1 0 :: ·) := by
  have hc' : l.getD 0 0 = 92 := (num_iff l 0 92 (by omega)).2 hc
  have h110 : l.getD 1 0 = 110 ↔ (l.getD 1 0).toNat = 110 := num_iff l 1 110 (by omega)
  have h120 : l.getD 1 0 = 120 ↔ (l.getD 1 0).toNat = 120 := num_iff l 1 120 (by omega)
  simp only [← h110, ← h120]
  have e : unR l = unR (92 :: l.getD 1 0 :: l.drop 2) := by conv => lhs; rw [list2 l h, hc']
  rw [e, unR.eq_def]; dsimp only
  rw [if_pos rfl]
  by_cases h4 : l.length < 4
  · rw [if_pos h4]
    have : ∀ x y t', l.drop 2 ≠ x :: y :: t' := by
      intro x y t' e
      have := congrArg List.length e
      simp at this; omega
    congr 2
    cases hd : l.drop 2 with
    | nil => rfl
    | cons x t => cases t with
      | nil => rfl
      | cons y t => exact absurd hd (this x y t)
  · rw [if_neg h4]
    have e4 : l.drop 2 = l.getD 2 0 :: l.getD 3 0 :: l.drop 4 := by
      have := list4 l (by omega)
      conv => lhs; rw [this]
      rfl
    rw [e4]
end Go.Proofs.Ytiajmngjhbckjaa
