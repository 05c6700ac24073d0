/- The document's order: what it is; at, Pins, Has. -/
import Derived.Test.YtjddjjfcongnlaaSame
namespace Go.Proofs.Ytjddjjfcongnlaa
open Go.RowKit Go.Maps
/-- The cells of a row of items. -/
def itc (L : List (Int × Nat)) : List Value := L.flatMap fun x => [.int .i64 x.1, .int .i64 (x.2 : Nat)]
theorem itc_cons (x : Int × Nat) (L : List (Int × Nat)) : itc (x :: L) = .int .i64 x.1 :: .int .i64 (x.2 : Nat) :: itc L := rfl
theorem itc_append (L M : List (Int × Nat)) : itc (L ++ M) = itc L ++ itc M := List.flatMap_append
theorem itc_length : ∀ L : List (Int × Nat), (itc L).length = L.length * 2
  | [] => rfl
  | x :: L => by rw [itc_cons, List.length_cons, List.length_cons, itc_length L, List.length_cons]; omega
theorem itc_at : ∀ (L : List (Int × Nat)) (i : Nat) (x : Int × Nat), L[i]? = some x → (itc L)[i * 2]? = some (.int .i64 x.1) ∧ (itc L)[i * 2 + 1]? = some (.int .i64 (x.2 : Nat))
  | [], i, x, h => by simp at h
  | y :: L, 0, x, h => by
    obtain rfl : y = x := by simpa using h
    rw [itc_cons]
    exact ⟨rfl, rfl⟩
  | y :: L, i + 1, x, h => by
    have := itc_at L i x (by simpa using h)
    rw [itc_cons, show (i + 1) * 2 = i * 2 + 1 + 1 by omega]
    exact this
structure IsDoc (w : World) (B d : Nat) (made : Bool) (L : List (Int × Nat)) (v : Value) : Prop where
  blk : Blk w d 42 #[.bool made, v]
  row : w.ownsRow B 83 2 v L.length (itc L)
  base : B ≤ d
/-- The blocks of the document's order. -/
def FD (d : Nat) (v : Value) : List Nat := d :: v.ownBlock.toList
theorem IsDoc.form {w : World} {B d : Nat} {made : Bool} {L : List (Int × Nat)} {v : Value} (h : IsDoc w B d made L v) : ∃ A c, v = .slice A L.length c := own_sliceInt h.row
/-- The item at i. -/
theorem IsDoc.at_ {w : World} {B d : Nat} {made : Bool} {L : List (Int × Nat)} {A : Option Addr} {n c : Nat} (h : IsDoc w B d made L (.slice A n c)) {i : Nat} (hi : i < L.length) :
    ∃ g x, A = some ⟨g, 0, none⟩ ∧ L[i]? = some x ∧ B ≤ g ∧ g < w.heap.size ∧ w.cell? ⟨g, i * 2, none⟩ = some (.int .i64 x.1) ∧ w.cell? ⟨g, i * 2 + 1, none⟩ = some (.int .i64 (x.2 : Nat)) ∧
      w.frozen? ⟨g, i * 2 + 1, none⟩ = false := by
  obtain ⟨x, hx⟩ : ∃ x, L[i]? = some x := ⟨_, List.getElem?_eq_getElem hi⟩
  obtain ⟨g, cap, hv, hBg, hlt⟩ := h.row.form (by omega)
  obtain ⟨a1, a2⟩ := itc_at L i x hx
  injection hv with hA
  have hc := h.row.cells (g := g) (by rw [hA]; rfl)
  have b1 := hc _ _ a1
  have b2 := hc _ _ a2
  rw [Addr.add_lit, Nat.zero_add] at b1 b2
  refine ⟨g, x, hA, hx, hBg, hlt, b1, b2, ?_⟩
  rcases h.row.2 with ⟨e, h0⟩ | ⟨g', cap', cur, e, _, hh, _⟩
  · omega
  · injection e with e
    rw [hA] at e
    injection e with e
    injection e with e
    subst e
    simp [World.frozen?, hh]
/-- Where a key stands; -1: nowhere. -/
def dAt (L : List (Int × Nat)) (k : Int) : Int := match L.findIdx? (fun x => decide (x.1 = k)) with | some i => i | none => -1
theorem dAt_none {L : List (Int × Nat)} {k : Int} (h : ∀ x ∈ L, x.1 ≠ k) : dAt L k = -1 := by
  unfold dAt
  have : L.findIdx? (fun x => decide (x.1 = k)) = none := by
    rw [List.findIdx?_eq_none_iff]
    intro x hx
    simpa using h x hx
  rw [this]
theorem dAt_some {L : List (Int × Nat)} {k : Int} {i : Nat} {x : Int × Nat} (hx : L[i]? = some x) (hk : x.1 = k) (h : ∀ j y, j < i → L[j]? = some y → y.1 ≠ k) : dAt L k = i := by
  unfold dAt
  have : L.findIdx? (fun x => decide (x.1 = k)) = some i := by
    rw [List.findIdx?_eq_some_iff_getElem]
    obtain ⟨hl, e⟩ := List.getElem?_eq_some_iff.1 hx
    refine ⟨hl, by rw [e]; simpa using hk, fun j hj => ?_⟩
    have := h j _ hj (List.getElem?_eq_getElem (by omega))
    simpa using this
  rw [this]
set_option maxRecDepth 20000 in
set_option maxHeartbeats 2000000 in
theorem dat_any {w : World} {B d : Nat} {made : Bool} {L : List (Int × Nat)} {v : Value} (h : IsDoc w B d made L v) (k : Int) (hl : L.length ≤ 4611686018427387904) :
    Calls Try.prog 64 #[.pointer (some ⟨d, 0, none⟩), .int .i64 k] w fun e w' => e = .returned (.int .i64 (dAt L k)) ∧ w = w' := by
  obtain ⟨A, c, rfl⟩ := h.form
  have c1 := h.blk.cell 1
  simp only [List.getElem?_toArray, List.getElem?_cons_zero, List.getElem?_cons_succ] at c1
  have HH := Lib.hid h; clear h
  obtain ⟨R, hR⟩ : ∃ R, dAt L k = R := ⟨_, rfl⟩
  rw [hR]
  have HR := Lib.hid hR; clear hR
  go_enter Try.func64, Try.ntmps64
  go_wp2
  go_loop [5] (fun iv => ∃ i : Nat, i ≤ L.length ∧ iv = .int .i64 i ∧ ∀ j y, j < i → L[j]? = some y → y.1 ≠ k) (fun iv => L.length - (intOf iv).toNat)
  case atStart => exact ⟨0, by omega, rfl, fun j y hj => by omega⟩
  case round =>
    obtain ⟨i, hi, rfl, hno⟩ := hrel
    have HNO := Lib.hid hno; clear hno
    by_cases hlt : i < L.length
    · obtain ⟨g, x, rfl, hx, _, _, hk, _, _⟩ := HH.out.at_ hlt
      obtain ⟨x1, x2⟩ := x
      have HX := Lib.hid hx; clear hx
      have hlt' : (i : Int) < (L.length : Int) := by omega
      have hi0 : (0 : Int) ≤ (i : Int) := by omega
      by_cases hxk : x1 = k
      · have hRi : R = (i : Int) := by rw [← HR.out]; exact dAt_some HX.out hxk HNO.out
        subst hRi hxk
        go_wp2
        go_ret
        exact ⟨rfl, rfl⟩
      · have hb : (x1 == k) = false := by simpa using hxk
        go_wp2
        refine ⟨⟨i + 1, by omega, by go_num, fun j y hj hy => ?_⟩, by simp [intOf]; omega⟩
        by_cases hji : j = i
        · subst hji
          rw [HX.out] at hy
          obtain rfl := Option.some.inj hy
          exact hxk
        · exact HNO.out j y (by omega) hy
    · obtain rfl : i = L.length := by omega
      have hRi : R = -1 := by
        rw [← HR.out]
        refine dAt_none fun x hx => ?_
        obtain ⟨j, hj⟩ := List.getElem?_of_mem hx
        exact HNO.out j x (List.getElem?_eq_some_iff.1 hj).1 hj
      subst hRi
      go_wp2
      go_ret
      exact ⟨rfl, rfl⟩
end Go.Proofs.Ytjddjjfcongnlaa
