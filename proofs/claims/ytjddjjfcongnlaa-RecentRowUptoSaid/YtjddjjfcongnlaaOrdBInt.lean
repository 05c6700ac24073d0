/- An order of keys (Int): what it is, and find, Has, Pins, Len. -/
import Derived.Test.YtjddjjfcongnlaaOrdAInt
import Derived.Test.YtjddjjfcongnlaaPlaceMap
import Derived.WalkArith
import Derived.StringKeys
namespace Go.Proofs.Ytjddjjfcongnlaa
open Go.RowKit Go.Maps
def ekInt (k : Int) : Value := (.int .i64 k)
def lkInt (k : Int) : Lit := (.int .i64 k)
def okInt (k : Int) : Prop := (-9223372036854775808 ≤ k ∧ k ≤ 9223372036854775807)
structure OrdInt (w : World) (B o mb : Nat) (N : Nat) (D : DataW Unit) (st : St Int) (ps : List Nat) : Prop where
  rep : RepInt w o mb ps st
  chain : Chain st ps
  map : w.ownsMap Try.prog 3 Rp mb N D
  at_ : ∀ k, okInt k → D.atKey (lkInt k) .nil = dv (placeOf st ps k)
  has_ : ∀ k, okInt k → Maps.has D (lkInt k) = (placeOf st ps k).isSome
  size : Maps.size D = ps.length
  keys : KeyInj st ps
  okk : ∀ p ∈ ps, okInt (st.key p)
  pin : ∀ p ∈ ps, st.pins p ≤ 2147483647
  base : B ≤ o ∧ B ≤ mb ∧ ∀ p ∈ ps, B ≤ p
theorem keyedInt : Keyed Try.prog 3 := int_keyed Try.underlying3
theorem keyInt {k : Int} (h : okInt k) : keyOf Try.prog 3 (ekInt k) = some (lkInt k) := by
  unfold okInt at h
  exact keyOf_int_mk Try.underlying3 (WalkArith.wf_i64 h)
theorem zeroInt (w : World) : (zeroValue 66).run Try.prog w = .ok (.pointer none) w := by kernel_rfl
theorem OrdInt.look {w : World} {B o mb N : Nat} {D : DataW Unit} {st : St Int} {ps : List Nat} (h : OrdInt w B o mb N D st ps) {k : Int} (hk : okInt k) :
    (Instr.lookup 65 (.map (some mb)) (ekInt k) false).run Try.prog w = .ok (pv (placeOf st ps k)) w := by
  obtain ⟨v, q, hrun, hv⟩ := h.map.lookup keyedInt Try.underlying65 (zeroInt w) (zd := .nil) (zp := []) rfl (keyInt hk)
  rw [h.at_ k hk] at hv
  rw [hrun, Rp_inv hv]
theorem findInt {w : World} {B o mb N : Nat} {D : DataW Unit} {st : St Int} {ps : List Nat} (h : OrdInt w B o mb N D st ps) {k : Int} (hk : okInt k) :
    Calls Try.prog 51 #[.pointer (some ⟨o, 0, none⟩), ekInt k] w fun e w' => e = .returned (pv (placeOf st ps k)) ∧ w' = w := by
  have o0 := Blk.cell h.rep.ord 0
  simp only [List.getElem?_toArray, List.getElem?_cons_zero] at o0
  have hl := h.look hk
  generalize placeOf st ps k = x at *
  generalize ekInt k = key at *
  go_enter Try.func51, Try.ntmps51
  go_wp2
  go_ret
  exact ⟨rfl, rfl⟩
theorem OrdInt.place {w : World} {B o mb N : Nat} {D : DataW Unit} {st : St Int} {ps : List Nat} (h : OrdInt w B o mb N D st ps) {k : Int} {p : Nat} (hp : placeOf st ps k = some p) : Blk w p 73 #[pv (st.older p), pv (st.newer p), .int .i64 (st.key p), .int .i64 (st.pins p : Nat)] :=
  h.rep.pl p (placeOf_some hp).1
/-- How many pins a key has. -/
def pinsOfInt (st : St Int) (ps : List Nat) (k : Int) : Nat := match placeOf st ps k with | some p => st.pins p | none => 0
theorem pinsInt {w : World} {B o mb N : Nat} {D : DataW Unit} {st : St Int} {ps : List Nat} (h : OrdInt w B o mb N D st ps) {k : Int} (hk : okInt k) :
    Calls Try.prog 15 #[.pointer (some ⟨o, 0, none⟩), ekInt k] w fun e w' => e = .returned (.int .i64 (pinsOfInt st ps k : Nat)) ∧ w' = w := by
  have hf := findInt h hk
  unfold pinsOfInt
  cases hp : placeOf st ps k with
  | none =>
    rw [hp] at hf
    generalize ekInt k = key at *
    simp only [pv] at hf
    go_enter Try.func15, Try.ntmps15
    go_wp2_with (go_at_call 51; refine hf.mono ?_; rintro e w1 ⟨rfl, rfl⟩)
    go_ret
    exact ⟨rfl, rfl⟩
  | some p =>
    rw [hp] at hf
    have pc := Blk.cell (h.place hp) 3
    simp only [List.getElem?_toArray, List.getElem?_cons_zero, List.getElem?_cons_succ] at pc
    generalize ekInt k = key at *
    simp only [pv] at hf
    go_enter Try.func15, Try.ntmps15
    go_wp2_with (go_at_call 51; refine hf.mono ?_; rintro e w1 ⟨rfl, rfl⟩)
    go_ret
    exact ⟨rfl, rfl⟩
theorem lenInt {w : World} {B o mb N : Nat} {D : DataW Unit} {st : St Int} {ps : List Nat} (h : OrdInt w B o mb N D st ps) :
    Calls Try.prog 20 #[.pointer (some ⟨o, 0, none⟩)] w fun e w' => e = .returned (.int .i64 (ps.length : Nat)) ∧ w' = w := by
  have o0 := Blk.cell h.rep.ord 0
  simp only [List.getElem?_toArray, List.getElem?_cons_zero] at o0
  have hl := h.map.len Try.underlying65 3
  rw [h.size] at hl
  go_enter Try.func20, Try.ntmps20
  go_wp2
  go_ret
  exact ⟨rfl, rfl⟩
end Go.Proofs.Ytjddjjfcongnlaa
