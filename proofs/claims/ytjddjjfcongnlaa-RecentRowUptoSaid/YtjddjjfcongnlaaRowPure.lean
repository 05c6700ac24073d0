/- RecentRow's plain law: what the calls make of a row. -/
import Derived.Test.YtjddjjfcongnlaaStep
namespace Go.Proofs.Ytjddjjfcongnlaa
section
variable {L D : List (Int × Nat)} {k : Int} {p : Nat}
theorem aHas_iff : aHas L k = true ↔ ∃ x ∈ L, x.1 = k := by unfold aHas; simp
theorem aHas_false : aHas L k = false ↔ ∀ x ∈ L, x.1 ≠ k := by
  unfold aHas
  rw [List.any_eq_false]
  simp
theorem drop_has : aHas (aDrop L k) k = false := aHas_false.2 fun x hx => by
  unfold aDrop at hx
  simpa using (List.mem_filter.1 hx).2
theorem drop_no (h : aHas D k = false) : aDrop D k = D := by
  unfold aDrop
  exact List.filter_eq_self.2 fun x hx => by simpa using aHas_false.1 h x hx
theorem pinsNo_row (h : aHas D k = false) : aPins D k = 0 := by
  unfold aPins
  have : D.find? (fun x => decide (x.1 = k)) = none := List.find?_eq_none.2 fun x hx => by simpa using aHas_false.1 h x hx
  rw [this]
theorem kok_only : ∀ {L : List (Int × Nat)}, KOk L → aHas L k = true → L.filter (fun x => decide (x.1 = k)) = [(k, aPins L k)]
  | [], _, h => by simp [aHas] at h
  | x :: L, hk, h => by
    unfold KOk at hk
    rw [List.map_cons, List.nodup_cons] at hk
    by_cases e : x.1 = k
    · have hn : L.filter (fun x => decide (x.1 = k)) = [] := List.filter_eq_nil_iff.2 fun y hy => by
        simp only [decide_eq_true_eq]
        intro e'
        exact hk.1 (by rw [e, ← e']; exact List.mem_map_of_mem hy)
      obtain ⟨x1, x2⟩ := x
      obtain rfl : x1 = k := e
      rw [List.filter_cons_of_pos (by simp), hn]
      unfold aPins
      rw [List.find?_cons_of_pos (by simp)]
    · have h' : aHas L k = true := by
        obtain ⟨y, hy, e'⟩ := aHas_iff.1 h
        rcases List.mem_cons.1 hy with rfl | hy
        · exact absurd e' e
        · exact aHas_iff.2 ⟨y, hy, e'⟩
      rw [List.filter_cons_of_neg (by simpa using e), kok_only hk.2 h']
      unfold aPins
      rw [List.find?_cons_of_neg (by simpa using e)]
/-- A touch, then an add. -/
theorem touch_add (hk : KOk L) : aAdd (aTouch L k) k = aDrop L k ++ [(k, aPins L k)] := by
  by_cases h : aHas L k = true
  · have h2 : aTouch L k = aDrop L k ++ [(k, aPins L k)] := by
      unfold aTouch; rw [kok_only hk h]; rfl
    rw [h2]
    unfold aAdd
    rw [if_pos (aHas_iff.2 ⟨(k, aPins L k), by simp, rfl⟩)]
  · have h' : aHas L k = false := by simpa using h
    have h2 : aTouch L k = L := by
      unfold aTouch
      rw [show L.filter (fun x => decide (x.1 = k)) = [] from List.filter_eq_nil_iff.2 fun y hy => by simpa using aHas_false.1 h' y hy, List.append_nil]
      exact drop_no h'
    rw [h2, drop_no h', pinsNo_row h']
    unfold aAdd
    rw [if_neg (by simp [h'])]
theorem touch_has : aHas (aTouch L k) k = aHas L k := by
  unfold aTouch aHas
  rw [List.any_append]
  by_cases h : aHas L k = true
  · obtain ⟨x, hx, e⟩ := aHas_iff.1 h
    rw [show L.any (fun x => decide (x.1 = k)) = true from h]
    have : (L.filter fun x => decide (x.1 = k)).any (fun x => decide (x.1 = k)) = true := by
      rw [List.any_eq_true]; exact ⟨x, List.mem_filter.2 ⟨hx, by simpa using e⟩, by simpa using e⟩
    rw [this]; simp
  · have h' : aHas L k = false := by simpa using h
    rw [show L.any (fun x => decide (x.1 = k)) = false from h']
    have h1 : aHas (aDrop L k) k = false := drop_has
    unfold aHas aDrop at h1
    rw [h1]
    rw [show L.filter (fun x => decide (x.1 = k)) = [] from List.filter_eq_nil_iff.2 fun y hy => by simpa using aHas_false.1 h' y hy]
    rfl
theorem end_has : aHas (D ++ [(k, p)]) k = true := aHas_iff.2 ⟨(k, p), by simp, rfl⟩
theorem end_pins (h : aHas D k = false) : aPins (D ++ [(k, p)]) k = p := by
  unfold aPins
  have : D.find? (fun x => decide (x.1 = k)) = none := List.find?_eq_none.2 fun x hx => by simpa using aHas_false.1 h x hx
  rw [List.find?_append, this]; simp
theorem touch_pins (hk : KOk L) : aPins (aTouch L k) k = aPins L k := by
  by_cases h : aHas L k = true
  · have h2 : aTouch L k = aDrop L k ++ [(k, aPins L k)] := by
      unfold aTouch; rw [kok_only hk h]; rfl
    rw [h2, end_pins drop_has]
  · have h' : aHas L k = false := by simpa using h
    rw [pinsNo_row h', pinsNo_row (by rw [touch_has]; exact h')]
theorem end_pinOk (h : aHas D k = false) (hp : p < 2147483647) : aPinOk (D ++ [(k, p)]) k = true := by
  unfold aPinOk; rw [end_has, end_pins h]; simpa using hp
theorem end_pin (h : aHas D k = false) (hp : p < 2147483647) : aPin (D ++ [(k, p)]) k = D ++ [(k, p + 1)] := by
  unfold aPin
  rw [if_pos (end_pinOk h hp), end_pins h]
  unfold aSet
  rw [List.map_append]
  congr 1
  · have : D.map (fun x => if x.1 = k then (x.1, p + 1) else x) = D.map id := List.map_congr_left fun x hx => by rw [if_neg (aHas_false.1 h x hx)]; rfl
    rw [this, List.map_id]
  · simp
theorem end_drop (h : aHas D k = false) : aDrop (D ++ [(k, p)]) k = D := by
  unfold aDrop
  rw [List.filter_append]
  have := drop_no h
  unfold aDrop at this
  rw [this]; simp
theorem no_unpinOk (h : aHas D k = false) : aUnpinOk D k = false := by unfold aUnpinOk; rw [h]; rfl
theorem no_unpin (h : aHas D k = false) : aUnpin D k = D := by unfold aUnpin; rw [no_unpinOk h]; rfl
theorem no_add (h : aHas D k = false) : aAdd D k = D ++ [(k, 0)] := by unfold aAdd; rw [if_neg (by simp [h])]
theorem keys_end : aKeysInt false (D ++ [(k, p)]) = aKeysInt false D ++ [k] := by unfold aKeysInt; simp
theorem keys_free_end : aKeysInt true (D ++ [(k, p + 1)]) = aKeysInt true D := by unfold aKeysInt; simp
theorem keys_all : aKeysInt false L = L.map (·.1) := by
  unfold aKeysInt
  congr 1
  exact List.filter_eq_self.2 (fun _ _ => rfl)
theorem keys_drop : aKeysInt false (aDrop L k) = (aKeysInt false L).filter fun x => !decide (x = k) := by
  rw [keys_all, keys_all]
  unfold aDrop
  rw [List.filter_map]; rfl
theorem KOk.drop (h : KOk L) : KOk (aDrop L k) := by
  unfold KOk aDrop at *
  exact h.sublist (List.Sublist.map _ List.filter_sublist)
theorem pins_end_ne {x : Int} (hx : x ≠ k) : aPins (D ++ [(k, p)]) x = aPins D x := by
  unfold aPins
  rw [List.find?_append]
  have : ([(k, p)] : List (Int × Nat)).find? (fun y => decide (y.1 = x)) = none := by simp [Ne.symm hx]
  rw [this, Option.or_none]
theorem pins_mem : ∀ {D : List (Int × Nat)}, KOk D → ∀ y ∈ D, aPins D y.1 = y.2
  | [], _, y, hy => by cases hy
  | x :: D, hk, y, hy => by
    unfold KOk at hk
    rw [List.map_cons, List.nodup_cons] at hk
    by_cases e : x.1 = y.1
    · unfold aPins
      rw [List.find?_cons_of_pos (by simpa using e)]
      rcases List.mem_cons.1 hy with rfl | hy
      · rfl
      · exact absurd (by rw [e]; exact List.mem_map_of_mem hy) hk.1
    · have hc : aPins (x :: D) y.1 = aPins D y.1 := by
        unfold aPins
        rw [List.find?_cons_of_neg (by simpa using e)]
      rw [hc]
      rcases List.mem_cons.1 hy with rfl | hy
      · exact absurd rfl e
      · exact pins_mem hk.2 y hy
/-- The loose ones are the free ones. -/
theorem loose_eq (h : KOk D) : (aKeysInt false D).filter (fun x => decide (aPins D x = 0)) = aKeysInt true D := by
  rw [keys_all, List.filter_map]
  unfold aKeysInt
  congr 1
  refine List.filter_congr fun y hy => ?_
  show decide (aPins D y.1 = 0) = (!true || decide (y.2 = 0))
  rw [pins_mem h y hy]; simp
theorem count_le (h : KOk L) : (aKeysInt false L).count k = if aHas L k = true then 1 else 0 := by
  rw [keys_all, List.count_eq_length_filter, List.filter_map, List.length_map]
  by_cases e : aHas L k = true
  · rw [if_pos e]
    have := kok_only h e
    have h2 : L.filter ((fun x => x == k) ∘ (·.1)) = L.filter (fun x => decide (x.1 = k)) := List.filter_congr fun y _ => by simp [Function.comp]; rfl
    rw [h2, this]; rfl
  · rw [if_neg e]
    have e' : aHas L k = false := by simpa using e
    rw [List.length_eq_zero_iff, List.filter_eq_nil_iff]
    intro y hy
    simpa using aHas_false.1 e' y hy
end
section
variable {L : List (Int × Nat)} {m : Nat}
def PLe (L : List (Int × Nat)) (m : Nat) : Prop := ∀ x ∈ L, x.2 ≤ m
theorem PLe.pins {k : Int} (h : PLe L m) : aPins L k ≤ m := by
  unfold aPins
  cases e : L.find? (fun x => decide (x.1 = k)) with
  | none => exact Nat.zero_le _
  | some x => exact h x (List.mem_of_find?_eq_some e)
theorem PLe.set {k : Int} {n : Nat} (h : PLe L m) (hn : n ≤ m + 1) : PLe (aSet L k n) (m + 1) := by
  intro x hx
  unfold aSet at hx
  obtain ⟨y, hy, rfl⟩ := List.mem_map.1 hx
  have := h y hy
  split
  · exact hn
  · omega
theorem PLe.more {m' : Nat} (h : PLe L m) (hm : m ≤ m') : PLe L m' := fun x hx => Nat.le_trans (h x hx) hm
theorem PLe.step {x : Int × Int} (h : PLe L m) : PLe (aStep L x) (m + 1) := by
  have hL : PLe L (m + 1) := h.more (Nat.le_succ _)
  unfold aStep
  split
  · unfold aAdd
    split
    · exact hL
    · intro y hy
      rcases List.mem_append.1 hy with hy | hy
      · exact hL y hy
      · rw [List.mem_singleton.1 hy]; exact Nat.zero_le _
  split
  · unfold aTouch
    intro y hy
    rcases List.mem_append.1 hy with hy | hy
    · exact hL y (List.mem_filter.1 hy).1
    · exact hL y (List.mem_filter.1 hy).1
  split
  · exact fun y hy => hL y (List.mem_filter.1 hy).1
  split
  · unfold aPin
    split
    · exact h.set (by have := h.pins (k := x.2); omega)
    · exact hL
  split
  · unfold aUnpin
    split
    · exact h.set (by have := h.pins (k := x.2); omega)
    · exact hL
  · exact hL
end
end Go.Proofs.Ytjddjjfcongnlaa
