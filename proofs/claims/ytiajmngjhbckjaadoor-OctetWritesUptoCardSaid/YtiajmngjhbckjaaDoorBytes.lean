/- Numbers in bytes, the highest first; of no program. By this session. -/
import Derived.Test.YtiajmngjhbckjaaDoorOpen
namespace Go.Proofs.YtiajmngjhbckjaaDoor
/-- The lowest n bytes of a number, the highest first. -/
def bigB (v n : Nat) : List Nat := (List.range n).map fun j => v / 256 ^ (n - 1 - j) % 256
theorem bigB_length (v n : Nat) : (bigB v n).length = n := by simp [bigB]
theorem bigB_at (v : Nat) {n j : Nat} (h : j < n) : (bigB v n)[j]? = some (v / 256 ^ (n - 1 - j) % 256) := by
  unfold bigB
  rw [List.getElem?_map, List.getElem?_range h]; rfl
theorem bigB_lt (v n : Nat) : ∀ x ∈ bigB v n, x < 256 := by
  intro x hx
  obtain ⟨j, _, rfl⟩ := List.mem_map.1 hx
  exact Nat.mod_lt _ (by omega)
/-- The number that bytes say. -/
def valB (l : List Nat) : Nat := l.foldl (fun v b => v * 256 + b) 0
theorem valB_snoc (l : List Nat) (b : Nat) : valB (l ++ [b]) = valB l * 256 + b := by simp [valB]
theorem foldl_lt : ∀ (l : List Nat) (v k : Nat), (∀ x ∈ l, x < 256) → v < 256 ^ k → l.foldl (fun v b => v * 256 + b) v < 256 ^ (k + l.length)
  | [], _, _, _, h => h
  | b :: l, v, k, hb, h => by
    rw [List.foldl_cons, List.length_cons, show k + (l.length + 1) = (k + 1) + l.length by omega]
    refine foldl_lt l _ (k + 1) (fun x hx => hb x (List.mem_cons_of_mem _ hx)) ?_
    have h1 : (v + 1) * 256 ≤ 256 ^ k * 256 := Nat.mul_le_mul_right _ h
    have h2 := hb b List.mem_cons_self
    rw [Nat.pow_succ]
    omega
theorem valB_lt (l : List Nat) (h : ∀ x ∈ l, x < 256) : valB l < 256 ^ l.length := by
  have := foldl_lt l 0 0 h (by simp)
  rwa [Nat.zero_add] at this
theorem bigB_take (v : Nat) {n j : Nat} (h : j < n) : (bigB v n).take (j + 1) = (bigB v n).take j ++ [v / 256 ^ (n - 1 - j) % 256] := by
  rw [List.take_add_one, bigB_at v h]; rfl
/-- What the first j of n bytes say. -/
theorem valB_take (v n : Nat) : ∀ j, j ≤ n → v < 256 ^ n → valB ((bigB v n).take j) = v / 256 ^ (n - j)
  | 0, _, hv => by
    rw [List.take_zero, Nat.sub_zero, Nat.div_eq_of_lt hv]; rfl
  | j + 1, h, hv => by
    rw [bigB_take v (by omega), valB_snoc, valB_take v n j (by omega) hv]
    have e1 : n - j = (n - (j + 1)) + 1 := by omega
    have e2 : n - 1 - j = n - (j + 1) := by omega
    rw [e1, e2, Nat.pow_succ, ← Nat.div_div_eq_div_mul]
    omega
theorem valB_big (v n : Nat) (hv : v < 256 ^ n) : valB (bigB v n) = v := by
  have := valB_take v n n (Nat.le_refl _) hv
  rw [List.take_of_length_le (by rw [bigB_length]; exact Nat.le_refl _), Nat.sub_self, Nat.pow_zero, Nat.div_one] at this
  exact this
theorem bigB_mod (v n : Nat) : bigB (v % 256 ^ n) n = bigB v n := by
  unfold bigB
  refine List.map_congr_left fun j hj => ?_
  have hj' : j < n := List.mem_range.1 hj
  have e : 256 ^ n = 256 ^ (n - 1 - j) * (256 * 256 ^ j) := by
    rw [← Nat.mul_assoc, ← Nat.pow_succ, ← Nat.pow_add]
    congr 1; omega
  rw [e, Nat.mod_mul_right_div_self, Nat.mod_mul_right_mod]
end Go.Proofs.YtiajmngjhbckjaaDoor
