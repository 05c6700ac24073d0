/- A map from keys to places, as a datum; of no program. By this session. -/
import Derived.Test.YtjddjjfcongnlaaHeap
import Derived.Maps.Own
import Derived.Maps.OwnSet
import Derived.Maps.Views
namespace Go.Proofs.Ytjddjjfcongnlaa
open Go.RowKit Go.Maps
/-- How a pointer to a place reads. -/
def Rp : Value → Option (DataW Unit × List MemPlace)
  | .pointer none => some (.nil, [])
  | .pointer (some ⟨b, 0, none⟩) => some (.lit (.int .i64 b), [])
  | _ => none
def dv : Option Nat → DataW Unit
  | none => .nil
  | some b => .lit (.int .i64 b)
theorem Rp_pv (x : Option Nat) : Rp (pv x) = some (dv x, []) := by cases x <;> rfl
theorem Rp_inv {v : Value} {x : Option Nat} {q : List MemPlace} (h : Rp v = some (dv x, q)) : v = pv x := by
  unfold Rp at h
  split at h
  · cases x with
    | none => rfl
    | some b => simp [dv] at h
  · rename_i b
    cases x with
    | none => simp [dv] at h
    | some b' =>
      simp [dv] at h
      obtain rfl : b = b' := by omega
      rfl
  · cases h
/-- The place of a key. -/
def placeOf {κ : Type} [DecidableEq κ] (st : St κ) (ps : List Nat) (k : κ) : Option Nat := ps.find? fun p => decide (st.key p = k)
section
variable {κ : Type} [DecidableEq κ] {st : St κ} {ps : List Nat} {k : κ} {p : Nat}
theorem placeOf_some (h : placeOf st ps k = some p) : p ∈ ps ∧ st.key p = k := by
  refine ⟨List.mem_of_find?_eq_some h, ?_⟩
  simpa using List.find?_some h
theorem placeOf_none (h : placeOf st ps k = none) : ∀ p ∈ ps, st.key p ≠ k := by
  intro p hp
  simpa using List.find?_eq_none.1 h p hp
/-- No key stands at two places. -/
def KeyInj {κ : Type} (st : St κ) (ps : List Nat) : Prop := ∀ p ∈ ps, ∀ q ∈ ps, st.key p = st.key q → p = q
theorem placeOf_mem (hk : KeyInj st ps) (hp : p ∈ ps) : placeOf st ps (st.key p) = some p := by
  cases h : placeOf st ps (st.key p) with
  | none => exact absurd rfl (placeOf_none h p hp)
  | some q =>
    obtain ⟨hq, e⟩ := placeOf_some h
    rw [hk q hq p hp e]
/-- The same places in another order hold the same keys. -/
theorem placeOf_congr {st' : St κ} {ps' : List Nat} (hk' : KeyInj st' ps') (hm : ∀ p, p ∈ ps ↔ p ∈ ps') (he : ∀ p ∈ ps, st'.key p = st.key p) : placeOf st' ps' k = placeOf st ps k := by
  cases h : placeOf st ps k with
  | some p =>
    obtain ⟨hp, e⟩ := placeOf_some h
    have := placeOf_mem hk' ((hm p).1 hp)
    rwa [he p hp, e] at this
  | none =>
    cases h' : placeOf st' ps' k with
    | none => rfl
    | some q =>
      obtain ⟨hq, e⟩ := placeOf_some h'
      have hq' := (hm q).2 hq
      exact absurd ((he q hq').symm.trans e) (placeOf_none h q hq')
end
end Go.Proofs.Ytjddjjfcongnlaa
