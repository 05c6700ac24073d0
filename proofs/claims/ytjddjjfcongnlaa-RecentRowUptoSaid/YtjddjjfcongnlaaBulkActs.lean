/- The bulk of a slice of structs; of no program. By this session. -/
import Derived.Test.YtjddjjfcongnlaaBulk
import Derived.Test.YtjddjjfcongnlaaActs
namespace Go.Proofs.Ytjddjjfcongnlaa
open Go.ChangeShapes Go.WideShapes Go.ChangeAt Go.RowKit Go.Deep
theorem bulk_acts {H : Type} {enc : TypeId × Value → H} {P : Program} {W : World} {base : Nat} {held : Bool} {t e : TypeId} {a : Option Addr} {len cap : Nat} {d : DataW H} {ps : List MemPlace}
    (hu : P.underlying t = some (.slice e)) (h : DataW.Trod enc P W base (fun _ => true) held t (.slice a len cap) d ps) : len ≤ Rows.uptoBulk d := by
  obtain ⟨fuel, hf⟩ := h
  rcases open_slice hu hf with ⟨hcs, _⟩ | ⟨x, l, c, m, n, D, Pl, hcs, _, hl, _, hm, hx, _⟩
  · simp [Value.cells] at hcs
    obtain ⟨rfl, rfl, rfl⟩ := hcs
    exact Nat.zero_le _
  · simp [Value.cells] at hcs
    obtain ⟨rfl, rfl, rfl⟩ := hcs
    obtain ⟨hx, _⟩ := Prod.mk.inj hx
    subst hx
    have := bulks.slice_le (List.map D (List.range len)) (List.map (fun j => D (len + j)) (List.range (m - len)))
    rw [List.length_map, List.length_range] at this
    omega
end Go.Proofs.Ytjddjjfcongnlaa
