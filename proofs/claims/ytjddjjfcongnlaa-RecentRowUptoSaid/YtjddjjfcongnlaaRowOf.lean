/- The row of keys and pins that places hold, and what the calls make of it; of no program. By this session. -/
import Derived.Test.YtjddjjfcongnlaaPlaceMap
namespace Go.Proofs.Ytjddjjfcongnlaa
section
variable {κ : Type} [DecidableEq κ]
def rowOf (st : St κ) (ps : List Nat) : List (κ × Nat) := ps.map fun p => (st.key p, st.pins p)
def aHas (L : List (κ × Nat)) (k : κ) : Bool := L.any fun x => decide (x.1 = k)
def aPins (L : List (κ × Nat)) (k : κ) : Nat := match L.find? fun x => decide (x.1 = k) with | some x => x.2 | none => 0
def aTouch (L : List (κ × Nat)) (k : κ) : List (κ × Nat) := L.filter (fun x => !decide (x.1 = k)) ++ L.filter fun x => decide (x.1 = k)
def aDrop (L : List (κ × Nat)) (k : κ) : List (κ × Nat) := L.filter fun x => !decide (x.1 = k)
def aAdd (L : List (κ × Nat)) (k : κ) : List (κ × Nat) := if aHas L k then L else L ++ [(k, 0)]
def aPinOk (L : List (κ × Nat)) (k : κ) : Bool := aHas L k && decide (aPins L k < 2147483647)
def aUnpinOk (L : List (κ × Nat)) (k : κ) : Bool := aHas L k && decide (0 < aPins L k)
def aSet (L : List (κ × Nat)) (k : κ) (n : Nat) : List (κ × Nat) := L.map fun x => if x.1 = k then (x.1, n) else x
def aPin (L : List (κ × Nat)) (k : κ) : List (κ × Nat) := if aPinOk L k then aSet L k (aPins L k + 1) else L
def aUnpin (L : List (κ × Nat)) (k : κ) : List (κ × Nat) := if aUnpinOk L k then aSet L k (aPins L k - 1) else L
variable {st : St κ} {ps : List Nat} {k : κ} {p : Nat}
theorem find_row : (rowOf st ps).find? (fun x => decide (x.1 = k)) = (placeOf st ps k).map fun p => (st.key p, st.pins p) := by
  unfold rowOf placeOf
  rw [List.find?_map]
  rfl
theorem has_row : aHas (rowOf st ps) k = (placeOf st ps k).isSome := by
  have h : aHas (rowOf st ps) k = ((rowOf st ps).find? fun x => decide (x.1 = k)).isSome := by
    unfold aHas
    rw [Bool.eq_iff_iff]
    simp
  rw [h, find_row]
  simp
theorem pins_row : aPins (rowOf st ps) k = match placeOf st ps k with | some p => st.pins p | none => 0 := by
  unfold aPins
  rw [find_row]
  cases placeOf st ps k <;> rfl
theorem mem_place (hk : KeyInj st ps) {q : Nat} (hp : placeOf st ps k = some p) (hq : q ∈ ps) : st.key q = k ↔ q = p := by
  constructor
  · intro e
    have := placeOf_mem hk hq
    rw [e, hp] at this
    exact (Option.some.inj this).symm
  · rintro rfl
    exact (placeOf_some hp).2
theorem set_row (hk : KeyInj st ps) (hp : placeOf st ps k = some p) (n : Nat) : rowOf { st with pins := upd st.pins p n } ps = aSet (rowOf st ps) k n := by
  unfold rowOf aSet
  rw [List.map_map]
  refine List.map_congr_left fun q hq => ?_
  show (st.key q, upd st.pins p n q) = if st.key q = k then (st.key q, n) else (st.key q, st.pins q)
  by_cases e : q = p
  · subst e
    rw [upd_same, if_pos (placeOf_some hp).2]
  · rw [upd_other _ _ e, if_neg fun h => e ((mem_place hk hp hq).1 h)]
omit [DecidableEq κ] in
theorem row_congr {st' : St κ} (h1 : st'.key = st.key) (h2 : st'.pins = st.pins) : rowOf st' ps = rowOf st ps := by unfold rowOf; rw [h1, h2]
end
theorem filter_one (p : Nat) : ∀ l : List Nat, l.Nodup → p ∈ l → l.filter (fun q => q == p) = [p]
  | [], _, h => by cases h
  | a :: l, hn, h => by
    obtain ⟨hna, hn'⟩ := List.nodup_cons.1 hn
    by_cases e : a = p
    · subst e
      rw [List.filter_cons_of_pos (by simp), List.filter_eq_nil_iff.2]
      intro q hq
      simp
      rintro rfl
      exact hna hq
    · rw [List.filter_cons_of_neg (by simpa using e)]
      exact filter_one p l hn' ((List.mem_cons.1 h).resolve_left (Ne.symm e))
theorem eraseIdx_filter : ∀ (ps : List Nat) (j p : Nat), ps.Nodup → ps[j]? = some p → ps.eraseIdx j = ps.filter fun q => !decide (q = p)
  | [], j, p, _, hj => by simp at hj
  | a :: l, 0, p, hn, hj => by
    obtain rfl : a = p := by simpa using hj
    have hna : a ∉ l := (List.nodup_cons.1 hn).1
    rw [List.eraseIdx_cons_zero, List.filter_cons_of_neg (by simp)]
    exact (List.filter_eq_self.2 fun q hq => by simp; rintro rfl; exact hna hq).symm
  | a :: l, j + 1, p, hn, hj => by
    have hj' : l[j]? = some p := by simpa using hj
    have hap : a ≠ p := fun e => (List.nodup_cons.1 hn).1 (e ▸ List.mem_of_getElem? hj')
    rw [List.eraseIdx_cons_succ, List.filter_cons_of_pos (by simpa using hap), eraseIdx_filter l j p (List.nodup_cons.1 hn).2 hj']
section
variable {κ : Type} [DecidableEq κ] {st : St κ} {ps : List Nat} {k : κ} {p : Nat}
theorem drop_row {j : Nat} {st' : St κ} (hk : KeyInj st ps) (hn : ps.Nodup) (hp : placeOf st ps k = some p) (hj : ps[j]? = some p) (h1 : st'.key = st.key) (h2 : st'.pins = st.pins) : rowOf st' (ps.eraseIdx j) = aDrop (rowOf st ps) k := by
  rw [row_congr h1 h2, eraseIdx_filter ps j p hn hj]
  unfold rowOf aDrop
  rw [List.filter_map]
  congr 1
  refine List.filter_congr fun q hq => ?_
  show (!decide (q = p)) = !decide (st.key q = k)
  congr 1
  exact decide_eq_decide.2 (mem_place hk hp hq).symm
theorem only_row (hk : KeyInj st ps) (hn : ps.Nodup) (hp : placeOf st ps k = some p) : ((rowOf st ps).filter fun x => decide (x.1 = k)) = [(st.key p, st.pins p)] := by
  unfold rowOf
  rw [List.filter_map]
  have : (ps.filter ((fun x => decide (x.1 = k)) ∘ fun p => (st.key p, st.pins p))) = [p] := by
    have e : (ps.filter ((fun x => decide (x.1 = k)) ∘ fun p => (st.key p, st.pins p))) = ps.filter fun q => q == p := List.filter_congr fun q hq => by
      show decide (st.key q = k) = _
      rw [Bool.eq_iff_iff]
      simpa using mem_place hk hp hq
    rw [e, filter_one p ps hn (placeOf_some hp).1]
  rw [this]; rfl
theorem touch_row {j : Nat} {st' : St κ} (hk : KeyInj st ps) (hn : ps.Nodup) (hp : placeOf st ps k = some p) (hj : ps[j]? = some p) (h1 : st'.key = st.key) (h2 : st'.pins = st.pins) : rowOf st' (ps.eraseIdx j ++ [p]) = aTouch (rowOf st ps) k := by
  have h3 := drop_row hk hn hp hj h1 h2
  unfold aTouch
  rw [only_row hk hn hp]
  show (ps.eraseIdx j ++ [p]).map _ = _
  rw [List.map_append]
  show rowOf st' (ps.eraseIdx j) ++ [(st'.key p, st'.pins p)] = _
  rw [h3, h1, h2]
  rfl
end
theorem Chain.older_in {κ : Type} {st : St κ} {ps : List Nat} {p z : Nat} (h : Chain st ps) (hp : p ∈ ps) (hz : st.older p = some z) : z ∈ ps ∧ z ≠ p := by
  obtain ⟨i, hi⟩ := List.getElem?_of_mem hp
  rw [(h.at_ i p hi).1] at hz
  unfold prv at hz
  by_cases h0 : i = 0
  · rw [if_pos h0] at hz; cases hz
  · rw [if_neg h0] at hz
    refine ⟨List.mem_of_getElem? hz, fun e => ?_⟩
    subst e
    have := at_inj h.nodup hi hz
    omega
theorem Chain.newer_in {κ : Type} {st : St κ} {ps : List Nat} {p z : Nat} (h : Chain st ps) (hp : p ∈ ps) (hz : st.newer p = some z) : z ∈ ps ∧ z ≠ p := by
  obtain ⟨i, hi⟩ := List.getElem?_of_mem hp
  rw [(h.at_ i p hi).2] at hz
  refine ⟨List.mem_of_getElem? hz, fun e => ?_⟩
  subst e
  have := at_inj h.nodup hi hz
  omega
theorem Chain.last_in {κ : Type} {st : St κ} {ps : List Nat} {z : Nat} (h : Chain st ps) (hz : st.last = some z) : z ∈ ps := by
  rw [h.last] at hz
  unfold prv at hz
  split at hz
  · cases hz
  · exact List.mem_of_getElem? hz
theorem leaveSt_same {κ : Type} (st : St κ) (p : Nat) : (leaveSt st p).key = st.key ∧ (leaveSt st p).pins = st.pins := by
  obtain ⟨_, _, a3, a4, _, _⟩ := leave1_fields st p
  obtain ⟨_, _, b3, b4, _, _⟩ := leave2_fields (leave1 st p) p
  exact ⟨b3.trans a3, b4.trans a4⟩
theorem joinSt_same {κ : Type} (st : St κ) (p : Nat) : (joinSt st p).key = st.key ∧ (joinSt st p).pins = st.pins := by
  unfold joinSt join1
  split <;> exact ⟨rfl, rfl⟩
theorem not_mem_erase {ps : List Nat} {j p : Nat} (hn : ps.Nodup) (hj : ps[j]? = some p) : p ∉ ps.eraseIdx j := by
  rw [eraseIdx_filter ps j p hn hj]
  simp
theorem mem_touch {ps : List Nat} {j p : Nat} (hn : ps.Nodup) (hj : ps[j]? = some p) (q : Nat) : q ∈ ps ↔ q ∈ ps.eraseIdx j ++ [p] := by
  rw [eraseIdx_filter ps j p hn hj]
  have hp := List.mem_of_getElem? hj
  by_cases e : q = p
  · subst e; simp [hp]
  · simp [e]
section
variable {κ : Type} [DecidableEq κ]
/-- A new place laid. -/
def addSt (st : St κ) (p : Nat) (k : κ) : St κ := { st with older := upd st.older p none, newer := upd st.newer p none, key := upd st.key p k, pins := upd st.pins p 0 }
omit [DecidableEq κ] in
theorem Chain.added {st : St κ} {ps : List Nat} {p : Nat} {k : κ} (h : Chain st ps) (hp : p ∉ ps) : Chain (addSt st p k) ps :=
  ⟨h.first, h.last, h.nodup, fun i q hi => by
    have hq : q ≠ p := fun e => hp (e ▸ List.mem_of_getElem? hi)
    show upd st.older p none q = _ ∧ upd st.newer p none q = _
    rw [upd_other _ _ hq, upd_other _ _ hq]
    exact h.at_ i q hi⟩
theorem placeOf_add {st st' : St κ} {ps : List Nat} {p : Nat} {k : κ} (hp : p ∉ ps) (hn : placeOf st ps k = none) (hk : st'.key = upd st.key p k) (k' : κ) : placeOf st' (ps ++ [p]) k' = if k' = k then some p else placeOf st ps k' := by
  have e : ps.find? (fun q => decide (st'.key q = k')) = placeOf st ps k' := by
    have hall : ∀ q ∈ ps, st'.key q = st.key q := fun q hq => by
      have hq' : q ≠ p := fun e => hp (e ▸ hq)
      rw [hk, upd_other _ _ hq']
    clear hn hp
    unfold placeOf
    induction ps with
    | nil => rfl
    | cons a l ih =>
      rw [List.find?_cons, List.find?_cons, hall a List.mem_cons_self, ih fun q hq => hall q (List.mem_cons_of_mem _ hq)]
  unfold placeOf at *
  rw [List.find?_append, e]
  by_cases hkk : k' = k
  · subst hkk
    rw [hn, if_pos rfl]
    simp [hk, upd_same]
  · rw [if_neg hkk]
    have : ([p].find? fun q => decide (st'.key q = k')) = none := by simp [hk, upd_same, Ne.symm hkk]
    rw [this, Option.or_none]
theorem add_row {st st' : St κ} {ps : List Nat} {p : Nat} {k : κ} (hp : p ∉ ps) (hn : placeOf st ps k = none) (hk : st'.key = upd st.key p k) (hpin : st'.pins = upd st.pins p 0) : rowOf st' (ps ++ [p]) = aAdd (rowOf st ps) k := by
  unfold aAdd
  rw [has_row, hn]
  show (ps ++ [p]).map _ = rowOf st ps ++ [(k, 0)]
  rw [List.map_append]
  unfold rowOf
  congr 1
  · refine List.map_congr_left fun q hq => ?_
    have hq' : q ≠ p := fun e => hp (e ▸ hq)
    rw [hk, hpin, upd_other _ _ hq', upd_other _ _ hq']
  · simp [hk, hpin, upd_same]
theorem keyInj_add {st st' : St κ} {ps : List Nat} {p : Nat} {k : κ} (h : KeyInj st ps) (hp : p ∉ ps) (hn : placeOf st ps k = none) (hk : st'.key = upd st.key p k) : KeyInj st' (ps ++ [p]) := by
  have hno := placeOf_none hn
  intro a ha b hb e
  rw [hk] at e
  rcases List.mem_append.1 ha with ha' | ha' <;> rcases List.mem_append.1 hb with hb' | hb'
  · have h1 : a ≠ p := fun e => hp (e ▸ ha')
    have h2 : b ≠ p := fun e => hp (e ▸ hb')
    rw [upd_other _ _ h1, upd_other _ _ h2] at e
    exact h a ha' b hb' e
  · have h1 : a ≠ p := fun e => hp (e ▸ ha')
    obtain rfl := List.mem_singleton.1 hb'
    rw [upd_other _ _ h1, upd_same] at e
    exact absurd e (hno a ha')
  · have h2 : b ≠ p := fun e => hp (e ▸ hb')
    obtain rfl := List.mem_singleton.1 ha'
    rw [upd_other _ _ h2, upd_same] at e
    exact absurd e.symm (hno b hb')
  · rw [List.mem_singleton.1 ha', List.mem_singleton.1 hb']
end
end Go.Proofs.Ytjddjjfcongnlaa
