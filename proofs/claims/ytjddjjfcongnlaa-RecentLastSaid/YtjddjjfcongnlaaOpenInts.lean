/- A slice of whole numbers, opened; of no program. By this session. -/
import Derived.Test.YtjddjjfcongnlaaOpen
namespace Go.Proofs.Ytjddjjfcongnlaa
open Go.ChangeShapes Go.WideShapes Go.ChangeAt Go.RowKit
section
variable {H : Type} {enc : TypeId × Value → H} {P : Program} {W : World}
theorem open_i64s {r : Reach} {b0 : Nat} {spare : Nat → Bool} {held : Bool} {base : Nat} {t e : TypeId} {v : Value} {d : DataW H} {p : List MemPlace} (ht : P.underlying t = some (.slice e)) (he : P.underlying e = some (.int .i64)) (hc : P.cellsOf e = 1)
    (hv : Value.okWide P W r b0 t v) (h : DataW.Trod enc P W base spare held t v d p) :
    ∃ (A : Option Addr) (n c : Nat) (l : List Int), v = .slice A n c ∧ Reads W W.heap.size 1 A n (l.map fun k => Value.int .i64 k) ∧ (∀ k ∈ l, -9223372036854775808 ≤ k ∧ k ≤ 9223372036854775807) ∧ n ≤ c ∧ c ≤ maxLen ∧ l.length = n := by
  obtain ⟨a0, len, cap, rfl⟩ := okWide_slice ht hv
  obtain ⟨fuel, hf⟩ := h
  rcases open_ints ht he hc hf with ⟨hcs, hx⟩ | ⟨a, len', cap', zs, hcs, _, hl, hm, hz, hx, hcell, hwf⟩
  · simp [Value.cells] at hcs
    obtain ⟨rfl, rfl, rfl⟩ := hcs
    exact ⟨none, 0, 0, [], rfl, Reads.none_, by simp, Nat.le_refl _, by simp [maxLen], rfl⟩
  · simp [Value.cells] at hcs
    obtain ⟨rfl, rfl, rfl⟩ := hcs
    have hzl : len ≤ zs.length := by rw [hz]; split <;> omega
    refine ⟨some a, len, cap, zs.take len, rfl, ⟨by simp; omega, fun hn => ⟨a, rfl, ?_, fun j u hu => ?_⟩⟩, ?_, hl, hm, by simp; omega⟩
    · have := lt_of_cell (hcell 0 (by omega))
      simpa [block_of_add] using this
    · rw [List.getElem?_map] at hu
      obtain ⟨z, hz1, rfl⟩ := Option.map_eq_some_iff.1 hu
      have hz2 : zs[j]? = some z := by
        rw [List.getElem?_take] at hz1; split at hz1
        · exact hz1
        · cases hz1
      have hj2 := (List.getElem?_eq_some_iff.1 hz2).1
      rw [hcell j hj2]
      simp only [List.getD, hz2, Option.getD_some]
    · intro k hk
      exact bounds_i64 (hwf k (List.mem_of_mem_take hk))
end
end Go.Proofs.Ytjddjjfcongnlaa
