/- A list of bytes opened with its datum; of no program. By this session. -/
import Derived.Test.YtiajmngjhbckjaaOpen
namespace Go.Proofs.Ytiajmngjhbckjaa
open Go.ChangeShapes Go.WideShapes Go.ChangeAt Go.RowKit
theorem open_bytes_d {H : Type} {enc : TypeId × Value → H} {P : Program} {W : World} {r : Reach} {b0 : Nat} {spare : Nat → Bool} {held : Bool} {base : Nat} {t e : TypeId} {v : Value} {d : DataW H} {p : List MemPlace} (ht : P.underlying t = some (.slice e)) (he : P.underlying e = some (.int .u8)) (hc : P.cellsOf e = 1)
    (hv : Value.okWide P W r b0 t v) (h : DataW.Trod enc P W base spare held t v d p) :
    ∃ (A : Option Addr) (n c : Nat) (l : List Nat), v = .slice A n c ∧ Reads W W.heap.size 1 A n (l.map byt) ∧ (∀ b ∈ l, b < 256) ∧ n ≤ c ∧ c ≤ maxLen ∧ l.length = n ∧ ByteDatum l d := by
  obtain ⟨a0, len, cap, rfl⟩ := okWide_slice ht hv
  obtain ⟨fuel, hf⟩ := h
  obtain ⟨A, n, c, l, e1, h⟩ := bytes_of_trod ht he hc hf
  simp [Value.cells] at e1
  obtain ⟨rfl, rfl, rfl⟩ := e1
  exact ⟨_, _, _, l, rfl, h.1, h.2.1, h.2.2.1, h.2.2.2.1, h.2.2.2.2.1, by
    rcases h.2.2.2.2.2.2 with ⟨h1, h2⟩ | ⟨sp, h1⟩
    · exact .inl ⟨h1, h2⟩
    · exact .inr ⟨sp, h1⟩⟩
end Go.Proofs.Ytiajmngjhbckjaa
