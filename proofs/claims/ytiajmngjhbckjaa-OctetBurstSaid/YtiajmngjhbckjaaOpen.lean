/- Arguments opened: slices of bytes as lists; of no program. By this session. -/
import Derived.Test.YtiajmngjhbckjaaWords
import Derived.ProofKit
import Derived.OpenShut
import Derived.SizedLaws
import Derived.ChangeSlices
namespace Go.Proofs.Ytiajmngjhbckjaa
open Go.ChangeShapes Go.WideShapes Go.ChangeAt Go.RowKit
section
variable {H : Type} {enc : TypeId × Value → H} {P : Program} {W : World}
theorem lt_of_cell {a : Addr} {v : Value} (h : W.cell? a = some v) : a.block < W.heap.size := by
  rcases Nat.lt_or_ge a.block W.heap.size with h' | h'
  · exact h'
  · simp [World.cell?, Array.getElem?_eq_none h'] at h
/-- The cells of a slice of bytes, one by one. -/
theorem bytes_of_trod {spare : Nat → Bool} {held : Bool} {base fuel : Nat} {t e : TypeId} {cs : List Value} {x : DataW H × List MemPlace} (ht : P.underlying t = some (.slice e)) (he : P.underlying e = some (.int .u8)) (hc : P.cellsOf e = 1)
    (h : DataW.trod enc P W base spare held fuel t cs = some x) :
    ∃ (A : Option Addr) (n c : Nat) (l : List Nat), cs = [.slice A n c] ∧ Reads W W.heap.size 1 A n (l.map byt) ∧ (∀ b ∈ l, b < 256) ∧ n ≤ c ∧ c ≤ maxLen ∧ l.length = n ∧ (A = none → c = 0) := by
  rcases open_ints ht he hc h with ⟨rfl, _⟩ | ⟨a, len, cap, zs, rfl, _, hl, hm, hz, hx, hcell, hwf⟩
  · exact ⟨none, 0, 0, [], rfl, Reads.none_, by simp, Nat.le_refl _, by simp [maxLen], rfl, fun _ => rfl⟩
  · have hzl : len ≤ zs.length := by rw [hz]; split <;> omega
    have hb : ∀ z ∈ zs, 0 ≤ z ∧ z ≤ 255 := fun z hz => bounds_u8 (hwf z hz)
    refine ⟨some a, len, cap, (zs.take len).map Int.toNat, rfl, ⟨by simp; omega, fun hn => ⟨a, rfl, ?_, fun j u hu => ?_⟩⟩, ?_, hl, hm, by simp; omega, fun h => by cases h⟩
    · have := lt_of_cell (hcell 0 (by omega))
      simpa [block_of_add] using this
    · rw [List.map_map, List.getElem?_map] at hu
      obtain ⟨z, hz1, rfl⟩ := Option.map_eq_some_iff.1 hu
      have hj := (List.getElem?_eq_some_iff.1 hz1).1
      have hz2 : zs[j]? = some z := by
        rw [List.getElem?_take] at hz1; split at hz1
        · exact hz1
        · cases hz1
      have hj2 := (List.getElem?_eq_some_iff.1 hz2).1
      rw [hcell j hj2]
      have h0 := hb z (List.mem_of_getElem? hz2)
      simp only [List.getD, hz2, Option.getD_some, Function.comp, byt]
      rw [Int.toNat_of_nonneg h0.1]
    · intro b hb2
      obtain ⟨z, hz1, rfl⟩ := List.mem_map.1 hb2
      have := hb z (List.mem_of_mem_take hz1)
      omega
theorem open_bytes {r : Reach} {b0 : Nat} {spare : Nat → Bool} {held : Bool} {base : Nat} {t e : TypeId} {v : Value} {d : DataW H} {p : List MemPlace} (ht : P.underlying t = some (.slice e)) (he : P.underlying e = some (.int .u8)) (hc : P.cellsOf e = 1)
    (hv : Value.okWide P W r b0 t v) (h : DataW.Trod enc P W base spare held t v d p) :
    ∃ (A : Option Addr) (n c : Nat) (l : List Nat), v = .slice A n c ∧ Reads W W.heap.size 1 A n (l.map byt) ∧ (∀ b ∈ l, b < 256) ∧ n ≤ c ∧ c ≤ maxLen ∧ l.length = n ∧ (A = none → c = 0) := by
  obtain ⟨a0, len, cap, rfl⟩ := okWide_slice ht hv
  obtain ⟨fuel, hf⟩ := h
  obtain ⟨A, n, c, l, e1, h⟩ := bytes_of_trod ht he hc hf
  simp [Value.cells] at e1
  obtain ⟨rfl, rfl, rfl⟩ := e1
  exact ⟨_, _, _, l, rfl, h⟩
/-- A slice of whole numbers is no longer than its weight allows. -/
theorem sized_ints' {base : Nat} {held : Bool} {t e : TypeId} {k : IntKind} {a : Option Addr} {len cap : Nat} {d : DataW H} {ps : List MemPlace} {ts : List TypeId} {ds : List (DataW H)} {j : Nat}
    (hsz : (DataW.weightsEach P ts ds).all (· ≤ reachBytes) = true) (ht : ts[j]? = some t) (hd : ds[j]? = some d) (hu : P.underlying t = some (.slice e)) (he : P.underlying e = some (.int k)) (hc : P.cellsOf e = 1) {B : Nat} (hB : P.bytesOf e = B)
    (h : DataW.Trod enc P W base (fun _ => true) held t (.slice a len cap) d ps) : cap * B ≤ 140737488351232 := by
  obtain ⟨fuel, hf⟩ := h
  rcases open_ints hu he hc hf with ⟨hcs, _⟩ | ⟨x, l, c, zs, hcs, _, hl, _, hz, hx, _, _⟩
  · simp [Value.cells] at hcs
    obtain ⟨rfl, rfl, rfl⟩ := hcs
    simp
  · simp [Value.cells] at hcs
    obtain ⟨rfl, rfl, rfl⟩ := hcs
    obtain ⟨hx, _⟩ := Prod.mk.inj hx
    subst hx
    have z := sized_slice hsz ht hd hu
    rw [hB] at z
    have h1 : (lits (H := H) k (zs.take len)).length + (lits (H := H) k (zs.drop len)).length = zs.length := by
      simp [lits]
      omega
    rw [h1, hz, if_pos rfl] at z
    exact z
end
end Go.Proofs.Ytiajmngjhbckjaa
