/- The bulk of lists of bytes; of no program. By this session. -/
import Derived.Test.YtiajmngjhbckjaaDoorBulk
import Derived.Test.YtiajmngjhbckjaaDoorOpen
namespace Go.Proofs.YtiajmngjhbckjaaDoor
theorem bulk_byteDatum {H : Type} {l : List Nat} {d : DataW H} (h : ByteDatum l d) : l.length ≤ Rows.uptoBulk d := by
  rcases h with ⟨rfl, rfl⟩ | ⟨sp, rfl⟩
  · simp
  · have := bulks.slice_le (l.map fun b : Nat => (.lit (.int .u8 b) : DataW H)) sp
    simp at this
    omega
theorem bulk_flatten {H : Type} : ∀ (ls : List (List Nat)) (es : List (DataW H)), (∀ (i : Nat) (l : List Nat), ls[i]? = some l → ∃ y, es[i]? = some y ∧ ByteDatum l y) → ls.flatten.length ≤ Rows.uptoBulkAll es
  | [], _, _ => by simp
  | l :: ls, [], h => by obtain ⟨y, hy, _⟩ := h 0 l rfl; simp at hy
  | l :: ls, e :: es, h => by
    obtain ⟨y, hy, hd⟩ := h 0 l rfl
    obtain rfl : e = y := by simpa using hy
    have h1 := bulk_byteDatum hd
    have h2 := bulk_flatten ls es fun i l' hl => h (i + 1) l' (by simpa using hl)
    rw [List.flatten_cons, List.length_append]
    simp only [Rows.uptoBulkAll]
    omega
end Go.Proofs.YtiajmngjhbckjaaDoor
