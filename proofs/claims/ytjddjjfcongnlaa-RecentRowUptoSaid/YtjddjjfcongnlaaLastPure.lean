/- A cache of n places, forward and back; of no program. By this session. -/
import Derived.Test.YtjddjjfcongnlaaRowOf
namespace Go.Proofs.Ytjddjjfcongnlaa
/-- Going back: what is held so far, the uses that are left, newest first. -/
def hb (n : Nat) : List Int → List Int → List Int
  | l, [] => l
  | l, x :: r => if l.length < n then (if x ∈ l then hb n l r else hb n (x :: l) r) else l
/-- What going back lays ahead. -/
def hp (n : Nat) : Nat → (Int → Bool) → List Int → List Int
  | _, _, [] => []
  | m, q, x :: r => if m < n then (if q x then hp n m q r else hp n (m + 1) (fun y => q y || decide (y = x)) r ++ [x]) else []
theorem hb_hp (n : Nat) : ∀ (r l : List Int) (q : Int → Bool), (∀ y, q y = decide (y ∈ l)) → hb n l r = hp n l.length q r ++ l
  | [], l, q, _ => rfl
  | x :: r, l, q, hq => by
    unfold hb hp
    by_cases hm : l.length < n
    · rw [if_pos hm, if_pos hm]
      by_cases hx : x ∈ l
      · rw [if_pos hx, if_pos (by rw [hq]; simpa using hx)]
        exact hb_hp n r l q hq
      · rw [if_neg hx, if_neg (by rw [hq]; simpa using hx), hb_hp n r (x :: l) (fun y => q y || decide (y = x)) (by
          intro y
          rw [hq, Bool.eq_iff_iff]
          simp [or_comm])]
        simp
    · rw [if_neg hm, if_neg hm]; rfl
theorem hp_not (n : Nat) : ∀ (r : List Int) (m : Nat) (q : Int → Bool) (y : Int), y ∈ hp n m q r → q y = false
  | [], _, _, _, h => by simp [hp] at h
  | x :: r, m, q, y, h => by
    unfold hp at h
    split at h
    · split at h
      · exact hp_not n r m q y h
      · rename_i hx
        rcases List.mem_append.1 h with h | h
        · have := hp_not n r (m + 1) _ y h
          simp at this
          exact this.1
        · rw [List.mem_singleton.1 h]; simpa using hx
    · cases h
/-- One use. -/
def lru (n : Nat) (R : List Int) (x : Int) : List Int := if x ∈ R then R.erase x ++ [x] else (if n ≤ R.length then R.tail else R) ++ [x]
theorem hb_stop {n : Nat} {l : List Int} (h : ¬ l.length < n) (r : List Int) : hb n l r = l := by
  cases r with
  | nil => rfl
  | cons x r => unfold hb; rw [if_neg h]
theorem hb_last (n : Nat) (x : Int) : ∀ (r l : List Int), x ∉ l → l.length < n → hb n (l ++ [x]) r = (if x ∈ hb n l r then (hb n l r).erase x else if n ≤ (hb n l r).length then (hb n l r).tail else hb n l r) ++ [x]
  | [], l, hx, hl => by
    unfold hb
    rw [if_neg hx, if_neg (by omega)]
  | y :: r, l, hx, hl => by
    have hlen : (l ++ [x]).length = l.length + 1 := by simp
    by_cases hyl : y ∈ l
    · have e1 : hb n l (y :: r) = hb n l r := by rw [hb, if_pos hl, if_pos hyl]
      have e2 : hb n (l ++ [x]) (y :: r) = hb n (l ++ [x]) r := by
        by_cases hn : (l ++ [x]).length < n
        · rw [hb, if_pos hn, if_pos (by simp [hyl])]
        · rw [hb_stop hn, hb_stop hn]
      rw [e1, e2]
      exact hb_last n x r l hx hl
    · by_cases hyx : y = x
      · subst hyx
        have e1 : hb n l (y :: r) = hb n (y :: l) r := by rw [hb, if_pos hl, if_neg hyl]
        have e2 : hb n (l ++ [y]) (y :: r) = hb n (l ++ [y]) r := by
          by_cases hn : (l ++ [y]).length < n
          · rw [hb, if_pos hn, if_pos (by simp)]
          · rw [hb_stop hn, hb_stop hn]
        have hq : ∀ z, (fun z => decide (z ∈ y :: l)) z = decide (z ∈ l ++ [y]) := by
          intro z
          show decide (z ∈ y :: l) = _
          rw [Bool.eq_iff_iff]
          simp [or_comm]
        have a1 := hb_hp n r (y :: l) (fun z => decide (z ∈ y :: l)) (fun _ => rfl)
        have a2 := hb_hp n r (l ++ [y]) (fun z => decide (z ∈ y :: l)) hq
        have hlen2 : (y :: l).length = (l ++ [y]).length := by simp
        rw [← hlen2] at a2
        have hno : y ∉ hp n (y :: l).length (fun z => decide (z ∈ y :: l)) r := fun h => by
          have := hp_not n r _ _ y h
          simp at this
        rw [e1, e2, a1, a2, if_pos (by simp), List.erase_append_right _ hno]
        simp
      · have e1 : hb n l (y :: r) = hb n (y :: l) r := by rw [hb, if_pos hl, if_neg hyl]
        rw [e1]
        by_cases hn : (l ++ [x]).length < n
        · have e2 : hb n (l ++ [x]) (y :: r) = hb n ((y :: l) ++ [x]) r := by
            rw [hb, if_pos hn, if_neg (by simp [hyl, hyx])]; rfl
          rw [e2]
          exact hb_last n x r (y :: l) (by simp [hx, Ne.symm hyx]) (by simp; omega)
        · rw [hb_stop hn, hb_stop (by simp; omega : ¬ (y :: l).length < n)]
          rw [if_neg (by simp [hx, Ne.symm hyx]), if_pos (by simp; omega)]
          rfl
/-- What a cache of n places holds behind its uses. -/
theorem hb_step (n : Nat) (hn : 1 ≤ n) (x : Int) (r : List Int) : hb n [] (x :: r) = lru n (hb n [] r) x := by
  have e : hb n [] (x :: r) = hb n ([] ++ [x]) r := by rw [hb, if_pos (by simp; omega), if_neg (by simp)]; rfl
  rw [e, hb_last n x r [] (by simp) (by simp; omega)]
  unfold lru
  split <;> rfl
theorem hb_len (n : Nat) : ∀ (r l : List Int), l.length ≤ n → (hb n l r).length ≤ n ∧ (hb n l r).length ≤ l.length + r.length
  | [], l, h => ⟨h, by simp [hb]⟩
  | x :: r, l, h => by
    unfold hb
    split
    · split
      · have := hb_len n r l h; simp only [List.length_cons]; omega
      · have := hb_len n r (x :: l) (by simp; omega); simp only [List.length_cons] at this ⊢; omega
    · exact ⟨h, by omega⟩
theorem hb_nodup (n : Nat) : ∀ (r l : List Int), l.Nodup → (hb n l r).Nodup
  | [], l, h => h
  | x :: r, l, h => by
    unfold hb
    split
    · split
      · exact hb_nodup n r l h
      · rename_i hx
        exact hb_nodup n r (x :: l) (List.nodup_cons.2 ⟨hx, h⟩)
    · exact h
/-! ### the row of such a cache: no pin is set -/
def zr (R : List Int) : List (Int × Nat) := R.map fun k => (k, 0)
theorem zr_has (R : List Int) (x : Int) : aHas (zr R) x = decide (x ∈ R) := by
  unfold aHas zr
  rw [Bool.eq_iff_iff]
  simp
theorem zr_filter (R : List Int) (x : Int) : (zr R).filter (fun y => !decide (y.1 = x)) = zr (R.filter fun y => !decide (y = x)) := by
  unfold zr; rw [List.filter_map]; rfl
theorem erase_filter (R : List Int) (x : Int) (h : R.Nodup) : R.filter (fun y => !decide (y = x)) = R.erase x := by
  rw [h.erase_eq_filter]
  refine List.filter_congr fun y _ => ?_
  rw [Bool.eq_iff_iff]; simp
theorem filter_eq_one : ∀ (R : List Int) (x : Int), R.Nodup → x ∈ R → R.filter (fun y => decide (y = x)) = [x]
  | [], _, _, h => by cases h
  | a :: R, x, hn, h => by
    obtain ⟨hna, hn'⟩ := List.nodup_cons.1 hn
    by_cases e : a = x
    · subst e
      rw [List.filter_cons_of_pos (by simp), List.filter_eq_nil_iff.2]
      intro q hq
      simp
      rintro rfl
      exact hna hq
    · rw [List.filter_cons_of_neg (by simpa using e)]
      exact filter_eq_one R x hn' ((List.mem_cons.1 h).resolve_left (Ne.symm e))
theorem zr_drop (R : List Int) (x : Int) (h : R.Nodup) : aDrop (zr R) x = zr (R.erase x) := by
  unfold aDrop
  rw [zr_filter, erase_filter R x h]
theorem zr_touch (R : List Int) (x : Int) (h : R.Nodup) (hx : x ∈ R) : aTouch (zr R) x = zr (R.erase x ++ [x]) := by
  unfold aTouch
  rw [zr_filter, erase_filter R x h]
  have : (zr R).filter (fun y => decide (y.1 = x)) = zr (R.filter fun y => decide (y = x)) := by unfold zr; rw [List.filter_map]; rfl
  rw [this, filter_eq_one R x h hx]
  simp [zr]
theorem zr_add (R : List Int) (x : Int) (hx : x ∉ R) : aAdd (zr R) x = zr (R ++ [x]) := by
  unfold aAdd
  rw [zr_has, if_neg (by simpa using hx)]
  simp [zr]
theorem zr_length (R : List Int) : (zr R).length = R.length := by simp [zr]
end Go.Proofs.Ytjddjjfcongnlaa
