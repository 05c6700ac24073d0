/- An order of keys (Str): what it is, and find, Has, Pins, Len. -/
import Derived.Test.YtjddjjfcongnlaaOrdAStr
import Derived.Test.YtjddjjfcongnlaaPlaceMap
import Derived.WalkArith
import Derived.StringKeys
namespace Go.Proofs.Ytjddjjfcongnlaa
open Go.RowKit Go.Maps
def ekStr (k : ByteArray) : Value := (.string k)
def lkStr (k : ByteArray) : Lit := (.string k.data.toList)
def okStr (k : ByteArray) : Prop := (k.size ≤ maxLen)
structure OrdStr (w : World) (B o mb : Nat) (N : Nat) (D : DataW Unit) (st : St ByteArray) (ps : List Nat) : Prop where
  rep : RepStr w o mb ps st
  chain : Chain st ps
  map : w.ownsMap Try.prog 9 Rp mb N D
  at_ : ∀ k, okStr k → D.atKey (lkStr k) .nil = dv (placeOf st ps k)
  has_ : ∀ k, okStr k → Maps.has D (lkStr k) = (placeOf st ps k).isSome
  size : Maps.size D = ps.length
  keys : KeyInj st ps
  okk : ∀ p ∈ ps, okStr (st.key p)
  pin : ∀ p ∈ ps, st.pins p ≤ 2147483647
  base : B ≤ o ∧ B ≤ mb ∧ ∀ p ∈ ps, B ≤ p
theorem keyedStr : Keyed Try.prog 9 := string_keyed Try.underlying9
theorem keyStr {k : ByteArray} (h : okStr k) : keyOf Try.prog 9 (ekStr k) = some (lkStr k) := by
  unfold okStr at h
  exact Go.WideMaps.keyOf_string_mk Try.underlying9 h
theorem zeroStr (w : World) : (zeroValue 98).run Try.prog w = .ok (.pointer none) w := by kernel_rfl
theorem OrdStr.look {w : World} {B o mb N : Nat} {D : DataW Unit} {st : St ByteArray} {ps : List Nat} (h : OrdStr w B o mb N D st ps) {k : ByteArray} (hk : okStr k) :
    (Instr.lookup 97 (.map (some mb)) (ekStr k) false).run Try.prog w = .ok (pv (placeOf st ps k)) w := by
  obtain ⟨v, q, hrun, hv⟩ := h.map.lookup keyedStr Try.underlying97 (zeroStr w) (zd := .nil) (zp := []) rfl (keyStr hk)
  rw [h.at_ k hk] at hv
  rw [hrun, Rp_inv hv]
theorem findStr {w : World} {B o mb N : Nat} {D : DataW Unit} {st : St ByteArray} {ps : List Nat} (h : OrdStr w B o mb N D st ps) {k : ByteArray} (hk : okStr k) :
    Calls Try.prog 70 #[.pointer (some ⟨o, 0, none⟩), ekStr k] w fun e w' => e = .returned (pv (placeOf st ps k)) ∧ w' = w := by
  have o0 := Blk.cell h.rep.ord 0
  simp only [List.getElem?_toArray, List.getElem?_cons_zero] at o0
  have hl := h.look hk
  generalize placeOf st ps k = x at *
  generalize ekStr k = key at *
  go_enter Try.func70, Try.ntmps70
  go_wp2
  go_ret
  exact ⟨rfl, rfl⟩
theorem OrdStr.place {w : World} {B o mb N : Nat} {D : DataW Unit} {st : St ByteArray} {ps : List Nat} (h : OrdStr w B o mb N D st ps) {k : ByteArray} {p : Nat} (hp : placeOf st ps k = some p) : Blk w p 104 #[pv (st.older p), pv (st.newer p), .string (st.key p), .int .i64 (st.pins p : Nat)] :=
  h.rep.pl p (placeOf_some hp).1
/-- How many pins a key has. -/
def pinsOfStr (st : St ByteArray) (ps : List Nat) (k : ByteArray) : Nat := match placeOf st ps k with | some p => st.pins p | none => 0
theorem pinsStr {w : World} {B o mb N : Nat} {D : DataW Unit} {st : St ByteArray} {ps : List Nat} (h : OrdStr w B o mb N D st ps) {k : ByteArray} (hk : okStr k) :
    Calls Try.prog 58 #[.pointer (some ⟨o, 0, none⟩), ekStr k] w fun e w' => e = .returned (.int .i64 (pinsOfStr st ps k : Nat)) ∧ w' = w := by
  have hf := findStr h hk
  unfold pinsOfStr
  cases hp : placeOf st ps k with
  | none =>
    rw [hp] at hf
    generalize ekStr k = key at *
    simp only [pv] at hf
    go_enter Try.func58, Try.ntmps58
    go_wp2_with (go_at_call 70; refine hf.mono ?_; rintro e w1 ⟨rfl, rfl⟩)
    go_ret
    exact ⟨rfl, rfl⟩
  | some p =>
    rw [hp] at hf
    have pc := Blk.cell (h.place hp) 3
    simp only [List.getElem?_toArray, List.getElem?_cons_zero, List.getElem?_cons_succ] at pc
    generalize ekStr k = key at *
    simp only [pv] at hf
    go_enter Try.func58, Try.ntmps58
    go_wp2_with (go_at_call 70; refine hf.mono ?_; rintro e w1 ⟨rfl, rfl⟩)
    go_ret
    exact ⟨rfl, rfl⟩
theorem lenStr {w : World} {B o mb N : Nat} {D : DataW Unit} {st : St ByteArray} {ps : List Nat} (h : OrdStr w B o mb N D st ps) :
    Calls Try.prog 57 #[.pointer (some ⟨o, 0, none⟩)] w fun e w' => e = .returned (.int .i64 (ps.length : Nat)) ∧ w' = w := by
  have o0 := Blk.cell h.rep.ord 0
  simp only [List.getElem?_toArray, List.getElem?_cons_zero] at o0
  have hl := h.map.len Try.underlying97 3
  rw [h.size] at hl
  go_enter Try.func57, Try.ntmps57
  go_wp2
  go_ret
  exact ⟨rfl, rfl⟩
end Go.Proofs.Ytjddjjfcongnlaa
