/- A slice of structs of two whole numbers, opened; of no program. By this session. -/
import Derived.Test.YtjddjjfcongnlaaOpen
import Derived.Deep.Slices
import Derived.Deep.Fields
import Derived.ChangeSame
namespace Go.Proofs.Ytjddjjfcongnlaa
open Go.ChangeShapes Go.WideShapes Go.ChangeAt Go.RowKit Go.Deep
/-- A row of pairs of numbers, of two cells each. -/
def Acts (w : World) (A : Option Addr) (l : List (Int × Int)) : Prop :=
  ∀ i x, l[i]? = some x → ∃ a, A = some a ∧ a.block < w.heap.size ∧ w.cell? (a.add (i * 2)) = some (.int .i64 x.1) ∧ w.cell? (a.add (i * 2 + 1)) = some (.int .i64 x.2)
theorem Acts.below {w w' : World} {A : Option Addr} {l : List (Int × Int)} (h : Acts w A l) (hb : Below w.heap.size w w') : Acts w' A l := by
  intro i x hx
  obtain ⟨a, rfl, ha, h1, h2⟩ := h i x hx
  exact ⟨a, rfl, Nat.lt_of_lt_of_le ha hb.size, (hb.cell (p := a.add (i * 2)) (by rw [block_of_add]; exact ha)).trans h1, (hb.cell (p := a.add (i * 2 + 1)) (by rw [block_of_add]; exact ha)).trans h2⟩
section
variable {H : Type} {enc : TypeId × Value → H} {P : Program} {W : World}
theorem open_acts {r : Reach} {b0 base : Nat} {spare : Nat → Bool} {held : Bool} {t e e0 : TypeId} {f0 f1 : Field} {v : Value} {d : DataW H} {p : List MemPlace} (ht : P.underlying t = some (.slice e)) (he : P.underlying e = some (.struct #[f0, f1]))
    (hC : P.cellsOf e = 2) (hC0 : P.cellsOf e0 = 1) (h0 : f0.type = e0) (h1 : f1.type = e0) (o0 : f0.offset = 0) (o1 : f1.offset = 1) (hi : P.underlying e0 = some (.int .i64))
    (hv : Value.okWide P W r b0 t v) (h : DataW.Trod enc P W base spare held t v d p) :
    ∃ (A : Option Addr) (n c : Nat) (l : List (Int × Int)), v = .slice A n c ∧ l.length = n ∧ Acts W A l ∧ (∀ x ∈ l, (-9223372036854775808 ≤ x.1 ∧ x.1 ≤ 9223372036854775807) ∧ (-9223372036854775808 ≤ x.2 ∧ x.2 ≤ 9223372036854775807)) ∧ n ≤ c ∧ c ≤ maxLen := by
  obtain ⟨a0, len, cap, rfl⟩ := okWide_slice ht hv
  obtain ⟨fuel, hf⟩ := h
  rcases open_slice ht hf with ⟨hcs, hx⟩ | ⟨a, len', cap', m, n, D, Pl, hcs, _, hl, hm, hmm, hx, hel⟩
  · simp [Value.cells] at hcs
    obtain ⟨rfl, rfl, rfl⟩ := hcs
    exact ⟨none, 0, 0, [], rfl, rfl, fun i x hx => by simp at hx, by simp, Nat.le_refl _, by simp [maxLen]⟩
  · simp [Value.cells] at hcs
    obtain ⟨rfl, rfl, rfl⟩ := hcs
    have hlm : len ≤ m := by rw [hmm]; split <;> omega
    have key : ∀ i, i < len → ∃ x : Int × Int, (W.cell? (a.add (i * 2)) = some (.int .i64 x.1) ∧ W.cell? (a.add (i * 2 + 1)) = some (.int .i64 x.2)) ∧ (-9223372036854775808 ≤ x.1 ∧ x.1 ≤ 9223372036854775807) ∧ (-9223372036854775808 ≤ x.2 ∧ x.2 ≤ 9223372036854775807) := by
      intro i hi'
      obtain ⟨cs', hc, ht'⟩ := hel i (by omega)
      rw [hC] at hc
      obtain ⟨ys, n', _, _, _, hyl, hfs⟩ := DataW.trod_struct he ht'
      have hyl' : ys.length = 2 := hyl
      obtain ⟨hsz, hcl, hat⟩ := World.cells?_some hc
      obtain ⟨c0, c1, rfl⟩ : ∃ c0 c1, cs' = [c0, c1] := by
        match cs', hcl with
        | [x, y], _ => exact ⟨x, y, rfl⟩
      have ht0 := hfs 0 f0 rfl
      have ht1 := hfs 1 f1 rfl
      rw [h0, hC0, o0] at ht0
      rw [h1, hC0, o1] at ht1
      have hy0 : ∃ y, ys[0]? = some y := ⟨_, List.getElem?_eq_getElem (show 0 < ys.length by omega)⟩
      have hy1 : ∃ y, ys[1]? = some y := ⟨_, List.getElem?_eq_getElem (show 1 < ys.length by omega)⟩
      obtain ⟨y0, hy0⟩ := hy0
      obtain ⟨y1, hy1⟩ := hy1
      obtain ⟨z0, e0', _, w0⟩ := DataW.trod_int hi (ht0.trans hy0)
      obtain ⟨z1, e1', _, w1⟩ := DataW.trod_int hi (ht1.trans hy1)
      obtain rfl : c0 = .int .i64 z0 := by simpa using e0'
      obtain rfl : c1 = .int .i64 z1 := by simpa using e1'
      refine ⟨(z0, z1), ⟨?_, ?_⟩, bounds_i64 w0, bounds_i64 w1⟩
      · have := hat 0 (by simp)
        rw [Go.Deep.add_add] at this; exact this
      · have := hat 1 (by simp)
        rw [← Go.Deep.add_add, this]; rfl
    have hg : ∀ i (hi : i < len), _ := fun i hi => Classical.choose_spec (key i hi)
    refine ⟨some a, len, cap, (List.finRange len).map (fun i => Classical.choose (key i.1 i.2)), rfl, by simp, fun i x hx => ?_, fun x hx => ?_, hl, hm⟩
    · rw [List.getElem?_map] at hx
      obtain ⟨j, hj, rfl⟩ := Option.map_eq_some_iff.1 hx
      obtain ⟨hil, hji⟩ := List.getElem?_eq_some_iff.1 hj
      have hji' : j.1 = i := by rw [← hji]; simp
      have hs := hg j.1 j.2
      have hc := hs.1
      subst hji'
      have hb := lt_of_cell hc.1
      exact ⟨a, rfl, by simpa [block_of_add] using hb, hc.1, hc.2⟩
    · obtain ⟨j, hj, rfl⟩ := List.mem_map.1 hx
      exact (hg j.1 j.2).2
theorem sized_acts {base : Nat} {held : Bool} {t e : TypeId} {a : Option Addr} {len cap : Nat} {d : DataW H} {ps : List MemPlace} {ts : List TypeId} {ds : List (DataW H)} {j : Nat}
    (hsz : (DataW.weightsEach P ts ds).all (· ≤ reachBytes) = true) (ht : ts[j]? = some t) (hd : ds[j]? = some d) (hu : P.underlying t = some (.slice e)) (hB : P.bytesOf e = 16)
    (h : DataW.Trod enc P W base (fun _ => true) held t (.slice a len cap) d ps) : cap * 16 ≤ 140737488351232 := by
  obtain ⟨fuel, hf⟩ := h
  rcases open_slice hu hf with ⟨hcs, _⟩ | ⟨x, l, c, m, n, D, Pl, hcs, _, hl, _, hm, hx, _⟩
  · simp [Value.cells] at hcs
    obtain ⟨rfl, rfl, rfl⟩ := hcs
    simp
  · simp [Value.cells] at hcs
    obtain ⟨rfl, rfl, rfl⟩ := hcs
    obtain ⟨hx, _⟩ := Prod.mk.inj hx
    subst hx
    have z := sized_slice hsz ht hd hu
    rw [hB] at z
    simp only [List.length_map, List.length_range] at z
    rw [if_pos rfl] at hm
    have : len + (m - len) = cap := by omega
    rw [this] at z
    exact z
end
end Go.Proofs.Ytjddjjfcongnlaa
