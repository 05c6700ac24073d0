/- Arguments opened: slices of bytes as lists; of no program. By this session. -/
import Derived.Test.YtiajmngjhbckjaaDoorWords
import Derived.ProofKit
import Derived.OpenShut
import Derived.SizedLaws
import Derived.ChangeSlices
import Derived.Deep.Slices
namespace Go.Proofs.YtiajmngjhbckjaaDoor
open Go.ChangeShapes Go.WideShapes Go.ChangeAt Go.RowKit
section
variable {H : Type} {enc : TypeId × Value → H} {P : Program} {W : World}
theorem lt_of_cell {a : Addr} {v : Value} (h : W.cell? a = some v) : a.block < W.heap.size := by
  rcases Nat.lt_or_ge a.block W.heap.size with h' | h'
  · exact h'
  · simp [World.cell?, Array.getElem?_eq_none h'] at h
/-- The cells of a slice of bytes, one by one. -/
theorem bytes_of_trod {spare : Nat → Bool} {held : Bool} {base fuel : Nat} {t e : TypeId} {cs : List Value} {x : DataW H × List MemPlace} (ht : P.underlying t = some (.slice e)) (he : P.underlying e = some (.int .u8)) (hc : P.cellsOf e = 1)
    (h : DataW.trod enc P W base spare held fuel t cs = some x) :
    ∃ (A : Option Addr) (n c : Nat) (l : List Nat), cs = [.slice A n c] ∧ Reads W W.heap.size 1 A n (l.map byt) ∧ (∀ b ∈ l, b < 256) ∧ n ≤ c ∧ c ≤ maxLen ∧ l.length = n ∧ (A = none → c = 0) ∧
      ((x.1 = .nil ∧ l = []) ∨ ∃ sp, x.1 = .slice (l.map fun b : Nat => .lit (.int .u8 b)) sp) := by
  rcases open_ints ht he hc h with ⟨rfl, hx⟩ | ⟨a, len, cap, zs, rfl, _, hl, hm, hz, hx, hcell, hwf⟩
  · exact ⟨none, 0, 0, [], rfl, Reads.none_, by simp, Nat.le_refl _, by simp [maxLen], rfl, fun _ => rfl, .inl ⟨by rw [hx], rfl⟩⟩
  · have hzl : len ≤ zs.length := by rw [hz]; split <;> omega
    have hb : ∀ z ∈ zs, 0 ≤ z ∧ z ≤ 255 := fun z hz => bounds_u8 (hwf z hz)
    refine ⟨some a, len, cap, (zs.take len).map Int.toNat, rfl, ⟨by simp; omega, fun hn => ⟨a, rfl, ?_, fun j u hu => ?_⟩⟩, ?_, hl, hm, by simp; omega, fun h => by (cases h), .inr ⟨lits .u8 (zs.drop len), ?_⟩⟩
    · have := lt_of_cell (hcell 0 (by omega))
      simpa [block_of_add] using this
    · rw [List.map_map, List.getElem?_map] at hu
      obtain ⟨z, hz1, rfl⟩ := Option.map_eq_some_iff.1 hu
      have hj := (List.getElem?_eq_some_iff.1 hz1).1
      have hz2 : zs[j]? = some z := by
        rw [List.getElem?_take] at hz1; split at hz1
        · exact hz1
        · cases hz1
      have hj2 := (List.getElem?_eq_some_iff.1 hz2).1
      rw [hcell j hj2]
      have h0 := hb z (List.mem_of_getElem? hz2)
      simp only [List.getD, hz2, Option.getD_some, Function.comp, byt]
      rw [Int.toNat_of_nonneg h0.1]
    · intro b hb2
      obtain ⟨z, hz1, rfl⟩ := List.mem_map.1 hb2
      have := hb z (List.mem_of_mem_take hz1)
      omega
    · rw [hx]
      simp only [lits, List.map_map]
      congr 1
      refine List.map_congr_left fun z hz1 => ?_
      have := hb z (List.mem_of_mem_take hz1)
      simp only [Function.comp]
      rw [Int.toNat_of_nonneg this.1]
theorem open_bytes {r : Reach} {b0 : Nat} {spare : Nat → Bool} {held : Bool} {base : Nat} {t e : TypeId} {v : Value} {d : DataW H} {p : List MemPlace} (ht : P.underlying t = some (.slice e)) (he : P.underlying e = some (.int .u8)) (hc : P.cellsOf e = 1)
    (hv : Value.okWide P W r b0 t v) (h : DataW.Trod enc P W base spare held t v d p) :
    ∃ (A : Option Addr) (n c : Nat) (l : List Nat), v = .slice A n c ∧ Reads W W.heap.size 1 A n (l.map byt) ∧ (∀ b ∈ l, b < 256) ∧ n ≤ c ∧ c ≤ maxLen ∧ l.length = n ∧ (A = none → c = 0) := by
  obtain ⟨a0, len, cap, rfl⟩ := okWide_slice ht hv
  obtain ⟨fuel, hf⟩ := h
  obtain ⟨A, n, c, l, e1, h⟩ := bytes_of_trod ht he hc hf
  simp [Value.cells] at e1
  obtain ⟨rfl, rfl, rfl⟩ := e1
  exact ⟨_, _, _, l, rfl, h.1, h.2.1, h.2.2.1, h.2.2.2.1, h.2.2.2.2.1, h.2.2.2.2.2.1⟩
/-- A list of lists of bytes, as a slice of slices. -/
def Parts (w : World) (B : Nat) (A : Option Addr) (n : Nat) (ls : List (List Nat)) : Prop :=
  ls.length = n ∧ ∃ xs, Reads w B 1 A n xs ∧ ∀ (i : Nat) (l : List Nat), ls[i]? = some l → (∀ x ∈ l, x < 256) ∧ ∃ (Ai : Option Addr) (ni ci : Nat), xs[i]? = some (Value.slice Ai ni ci) ∧ Reads w B 1 Ai ni (l.map byt) ∧ ni ≤ 9223372036854775807
/-- How a list of bytes reads. -/
def ByteDatum (l : List Nat) (d : DataW H) : Prop := (d = .nil ∧ l = []) ∨ ∃ sp, d = .slice (l.map fun b : Nat => .lit (.int .u8 b)) sp
theorem choose_list {α : Type} {P : Nat → α → Prop} : ∀ n, (∀ i, i < n → ∃ x, P i x) → ∃ l : List α, l.length = n ∧ ∀ (i : Nat) (x : α), l[i]? = some x → P i x
  | 0, _ => ⟨[], rfl, fun i x h => by simp at h⟩
  | n + 1, h => by
    obtain ⟨l, hl, hp⟩ := choose_list n fun i hi => h i (by omega)
    obtain ⟨x, hx⟩ := h n (by omega)
    refine ⟨l ++ [x], by simp [hl], fun i y hy => ?_⟩
    rw [List.getElem?_append] at hy
    split at hy
    · exact hp i y hy
    · rename_i hi
      have : i = n := by
        rcases Nat.lt_or_ge i (n + 1) with h1 | h1
        · omega
        · rw [List.getElem?_eq_none (by simp; omega)] at hy; cases hy
      subst this
      simp [hl] at hy
      subst hy
      exact hx
theorem open_parts {r : Reach} {b0 : Nat} {spare : Nat → Bool} {held : Bool} {base : Nat} {t t1 e : TypeId} {v : Value} {d : DataW H} {p : List MemPlace} (ht : P.underlying t = some (.slice t1)) (ht1 : P.underlying t1 = some (.slice e)) (he : P.underlying e = some (.int .u8)) (hc : P.cellsOf e = 1) (hc1 : P.cellsOf t1 = 1)
    (hv : Value.okWide P W r b0 t v) (h : DataW.Trod enc P W base spare held t v d p) :
    ∃ (A : Option Addr) (n c : Nat) (ls : List (List Nat)), v = .slice A n c ∧ Parts W W.heap.size A n ls ∧ n ≤ c ∧ c ≤ maxLen ∧
      ((d = .nil ∧ ls = []) ∨ ∃ es sp, d = .slice es sp ∧ es.length = n ∧ ∀ (i : Nat) (l : List Nat), ls[i]? = some l → ∃ y, es[i]? = some y ∧ ByteDatum l y) := by
  obtain ⟨a0, len0, cap0, rfl⟩ := okWide_slice ht hv
  obtain ⟨fuel, hf⟩ := h
  rcases Deep.open_slice ht hf with ⟨hcs, hx⟩ | ⟨a, len, cap, m, n, D, Pl, hcs, _, hl, hm, hmm, hx, hi⟩
  · simp [Value.cells] at hcs
    obtain ⟨rfl, rfl, rfl⟩ := hcs
    exact ⟨none, 0, 0, [], rfl, ⟨rfl, [], Reads.none_, fun i l hl => by simp at hl⟩, Nat.le_refl _, by simp [maxLen], .inl ⟨(Prod.mk.inj hx).1, rfl⟩⟩
  · simp [Value.cells] at hcs
    obtain ⟨rfl, rfl, rfl⟩ := hcs
    have hmn : len0 ≤ m := by rw [hmm]; split <;> omega
    have each : ∀ i, i < len0 → ∃ (l : List Nat), ∃ (Ai : Option Addr) (ni ci : Nat), W.cell? (a.add i) = some (Value.slice Ai ni ci) ∧ Reads W W.heap.size 1 Ai ni (l.map byt) ∧ (∀ b ∈ l, b < 256) ∧ ni ≤ 9223372036854775807 ∧ ByteDatum l (D i) := by
      intro i hlt
      obtain ⟨cs', hc', ht'⟩ := hi i (by omega)
      rw [hc1, Nat.mul_one] at hc'
      obtain ⟨_, hlen, hat⟩ := World.cells?_some hc'
      obtain ⟨Ai, ni, ci, l, rfl, hr, hb, h1, h2, _, _, hD⟩ := bytes_of_trod ht1 he hc ht'
      refine ⟨l, Ai, ni, ci, ?_, hr, hb, by unfold maxLen at h2; omega, hD⟩
      have := hat 0 (by omega)
      rw [Deep.add_add, Nat.add_zero] at this
      simpa using this
    obtain ⟨ls, hls, hP⟩ := choose_list len0 each
    have hxs : ∀ i, i < len0 → ∃ v : Value, W.cell? (a.add i) = some v := fun i hlt => by
      obtain ⟨l, Ai, ni, ci, hcell, _⟩ := each i hlt
      exact ⟨_, hcell⟩
    obtain ⟨xs, hxl, hxP⟩ := choose_list len0 hxs
    refine ⟨some a, len0, cap0, ls, rfl, ⟨hls, xs, ⟨by omega, fun hn => ⟨a, rfl, ?_, fun j u hu => hxP j u hu⟩⟩, fun i l hil => ?_⟩, hl, hm, .inr ⟨_, _, (Prod.mk.inj hx).1, by simp, fun i l hil => ?_⟩⟩
    · obtain ⟨v, hv⟩ := hxs 0 (by omega)
      have := lt_of_cell hv
      simpa [block_of_add] using this
    · obtain ⟨Ai, ni, ci, hcell, hr, hb, hni, _⟩ := hP i l hil
      have hlt := (List.getElem?_eq_some_iff.1 hil).1
      refine ⟨hb, Ai, ni, ci, ?_, hr, hni⟩
      have hxi : xs[i]? = some (xs[i]'(by omega)) := List.getElem?_eq_getElem (by omega)
      rw [hxi, ← hxP i _ hxi]
      exact hcell
    · obtain ⟨Ai, ni, ci, _, _, _, _, hD⟩ := hP i l hil
      have hlt := (List.getElem?_eq_some_iff.1 hil).1
      refine ⟨D i, ?_, hD⟩
      simp [List.getElem?_map, List.getElem?_range (show i < len0 by omega)]
/-- A slice of whole numbers is no longer than its weight allows. -/
theorem sized_ints' {base : Nat} {held : Bool} {t e : TypeId} {k : IntKind} {a : Option Addr} {len cap : Nat} {d : DataW H} {ps : List MemPlace} {ts : List TypeId} {ds : List (DataW H)} {j : Nat}
    (hsz : (DataW.weightsEach P ts ds).all (· ≤ reachBytes) = true) (ht : ts[j]? = some t) (hd : ds[j]? = some d) (hu : P.underlying t = some (.slice e)) (he : P.underlying e = some (.int k)) (hc : P.cellsOf e = 1) {B : Nat} (hB : P.bytesOf e = B)
    (h : DataW.Trod enc P W base (fun _ => true) held t (.slice a len cap) d ps) : cap * B ≤ 140737488351232 := by
  obtain ⟨fuel, hf⟩ := h
  rcases open_ints hu he hc hf with ⟨hcs, _⟩ | ⟨x, l, c, zs, hcs, _, hl, _, hz, hx, _, _⟩
  · simp [Value.cells] at hcs
    obtain ⟨rfl, rfl, rfl⟩ := hcs
    simp
  · simp [Value.cells] at hcs
    obtain ⟨rfl, rfl, rfl⟩ := hcs
    obtain ⟨hx, _⟩ := Prod.mk.inj hx
    subst hx
    have z := sized_slice hsz ht hd hu
    rw [hB] at z
    have h1 : (lits (H := H) k (zs.take len)).length + (lits (H := H) k (zs.drop len)).length = zs.length := by
      simp [lits]
      omega
    rw [h1, hz, if_pos rfl] at z
    exact z
end
end Go.Proofs.YtiajmngjhbckjaaDoor
