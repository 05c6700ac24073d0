/- The document's order: Pins, Has, Pin, Unpin. -/
import Derived.Test.YtjddjjfcongnlaaDoc
namespace Go.Proofs.Ytjddjjfcongnlaa
open Go.RowKit Go.Maps
/-- No key stands twice. -/
def KOk (L : List (Int × Nat)) : Prop := (L.map Prod.fst).Nodup
theorem kok_inj {L : List (Int × Nat)} (h : KOk L) {i j : Nat} {x y : Int × Nat} (hi : L[i]? = some x) (hj : L[j]? = some y) (e : x.1 = y.1) : i = j := by
  obtain ⟨h1, e1⟩ := List.getElem?_eq_some_iff.1 hi
  obtain ⟨h2, e2⟩ := List.getElem?_eq_some_iff.1 hj
  have := List.pairwise_iff_getElem.1 h
  have g : ∀ (a b : Nat) (ha : a < (L.map Prod.fst).length) (hb : b < (L.map Prod.fst).length), (L[a]'(by simpa using ha)).1 = (L[b]'(by simpa using hb)).1 → (L.map Prod.fst)[a] = (L.map Prod.fst)[b] := fun a b ha hb e => by rw [List.getElem_map, List.getElem_map, e]
  rcases Nat.lt_trichotomy i j with hlt | heq | hlt
  · exact absurd (g i j (by simpa using h1) (by simpa using h2) (by rw [e1, e2, e])) (this i j (by simpa using h1) (by simpa using h2) hlt)
  · exact heq
  · exact absurd (g j i (by simpa using h2) (by simpa using h1) (by rw [e1, e2, e])) (this j i (by simpa using h2) (by simpa using h1) hlt)
theorem filter_erase : ∀ (L : List (Int × Nat)) (k : Int) (i : Nat) (x : Int × Nat), KOk L → L[i]? = some x → x.1 = k → L.filter (fun y => !decide (y.1 = k)) = L.eraseIdx i ∧ L.filter (fun y => decide (y.1 = k)) = [x]
  | [], k, i, x, _, hx, _ => by simp at hx
  | y :: L, k, 0, x, hn, hx, hk => by
    obtain rfl : y = x := by simpa using hx
    have hno : ∀ z ∈ L, ¬ z.1 = k := by
      intro z hz e
      obtain ⟨j, hj⟩ := List.getElem?_of_mem hz
      have := kok_inj hn (i := 0) (j := j + 1) (x := y) (y := z) (by simp) (by simpa using hj) (hk.trans e.symm)
      omega
    constructor
    · rw [List.filter_cons_of_neg (by simpa using hk), List.eraseIdx_cons_zero, List.filter_eq_self.2 (fun z hz => by simpa using hno z hz)]
    · rw [List.filter_cons_of_pos (by simpa using hk), List.filter_eq_nil_iff.2 (fun z hz => by simpa using hno z hz)]
  | y :: L, k, i + 1, x, hn, hx, hk => by
    have hx' : L[i]? = some x := by simpa using hx
    have hyk : y.1 ≠ k := fun e => by
      have := kok_inj hn (i := 0) (j := i + 1) (x := y) (y := x) (by simp) hx (e.trans hk.symm)
      omega
    have hn' : KOk L := (List.nodup_cons.1 (by simpa [KOk] using hn)).2
    obtain ⟨h1, h2⟩ := filter_erase L k i x hn' hx' hk
    exact ⟨by rw [List.filter_cons_of_pos (by simpa using hyk), List.eraseIdx_cons_succ, h1], by rw [List.filter_cons_of_neg (by simpa using hyk), h2]⟩
theorem set_map : ∀ (L : List (Int × Nat)) (k : Int) (i n : Nat) (x : Int × Nat), KOk L → L[i]? = some x → x.1 = k → aSet L k n = L.set i (k, n)
  | [], k, i, n, x, _, hx, _ => by simp at hx
  | y :: L, k, 0, n, x, hn, hx, hk => by
    obtain rfl : y = x := by simpa using hx
    have hno : ∀ z ∈ L, ¬ z.1 = k := by
      intro z hz e
      obtain ⟨j, hj⟩ := List.getElem?_of_mem hz
      have := kok_inj hn (i := 0) (j := j + 1) (x := y) (y := z) (by simp) (by simpa using hj) (hk.trans e.symm)
      omega
    unfold aSet
    rw [List.map_cons, if_pos hk, List.set_cons_zero, hk]
    congr 1
    conv => rhs; rw [← List.map_id L]
    exact List.map_congr_left fun z hz => if_neg (hno z hz)
  | y :: L, k, i + 1, n, x, hn, hx, hk => by
    have hx' : L[i]? = some x := by simpa using hx
    have hyk : y.1 ≠ k := fun e => by
      have := kok_inj hn (i := 0) (j := i + 1) (x := y) (y := x) (by simp) hx (e.trans hk.symm)
      omega
    have hn' : KOk L := (List.nodup_cons.1 (by simpa [KOk] using hn)).2
    have := set_map L k i n x hn' hx' hk
    unfold aSet at this ⊢
    rw [List.map_cons, if_neg hyk, List.set_cons_succ, this]
theorem find_one : ∀ (L : List (Int × Nat)) (k : Int) (i : Nat) (x : Int × Nat), KOk L → L[i]? = some x → x.1 = k → L.find? (fun y => decide (y.1 = k)) = some x := by
  intro L k i x hn hx hk
  have := (filter_erase L k i x hn hx hk).2
  rw [← List.head?_filter, this]; rfl
/-- A key stands at one place, or nowhere. -/
theorem dcase {L : List (Int × Nat)} (hn : KOk L) (k : Int) : (aHas L k = false ∧ dAt L k = -1 ∧ ∀ x ∈ L, x.1 ≠ k) ∨
    ∃ i p, i < L.length ∧ L[i]? = some (k, p) ∧ dAt L k = (i : Int) ∧ aHas L k = true ∧ aPins L k = p ∧ aDrop L k = L.eraseIdx i ∧ aTouch L k = L.eraseIdx i ++ [(k, p)] ∧ ∀ n, aSet L k n = L.set i (k, n) := by
  by_cases h : ∃ x ∈ L, x.1 = k
  · obtain ⟨x, hx, hk⟩ := h
    obtain ⟨i, hi⟩ := List.getElem?_of_mem hx
    obtain ⟨k', p⟩ := x
    obtain rfl : k' = k := hk
    obtain ⟨f1, f2⟩ := filter_erase L k' i _ hn hi rfl
    refine .inr ⟨i, p, (List.getElem?_eq_some_iff.1 hi).1, hi, dAt_some hi rfl fun j y hj hy e => ?_, ?_, ?_, f1, ?_, fun n => set_map L k' i n _ hn hi rfl⟩
    · have := kok_inj hn hy hi e; omega
    · unfold aHas
      rw [List.any_eq_true]
      exact ⟨_, hx, by simp⟩
    · unfold aPins
      rw [find_one L k' i _ hn hi rfl]
    · unfold aTouch
      rw [f1, f2]
  · have hno : ∀ x ∈ L, x.1 ≠ k := fun x hx e => h ⟨x, hx, e⟩
    refine .inl ⟨?_, dAt_none hno, hno⟩
    unfold aHas
    rw [List.any_eq_false]
    intro x hx
    simpa using hno x hx
theorem pins_no {L : List (Int × Nat)} {k : Int} (h : ∀ x ∈ L, x.1 ≠ k) : aPins L k = 0 := by
  unfold aPins
  rw [List.find?_eq_none.2 (fun x hx => by simpa using h x hx)]
section
variable {w : World} {B d : Nat} {made : Bool} {L : List (Int × Nat)} {v : Value}
set_option maxRecDepth 20000 in
theorem dpins_any (h : IsDoc w B d made L v) (hn : KOk L) (k : Int) (hl : L.length ≤ 4611686018427387904) :
    Calls Try.prog 62 #[.pointer (some ⟨d, 0, none⟩), .int .i64 k] w fun e w' => e = .returned (.int .i64 (aPins L k : Nat)) ∧ w = w' := by
  have hd := dat_any h k hl
  obtain ⟨A, c, rfl⟩ := h.form
  have c1 := h.blk.cell 1
  simp only [List.getElem?_toArray, List.getElem?_cons_zero, List.getElem?_cons_succ] at c1
  rcases dcase hn k with ⟨_, h1, h2⟩ | ⟨i, p, hi, hx, h1, _, h2, _⟩
  · rw [pins_no h2]
    rw [h1] at hd
    clear h hn h1 h2 hl
    go_enter Try.func62, Try.ntmps62
    go_wp2_with (go_at_call 64; refine hd.mono ?_; rintro e w1 ⟨rfl, rfl⟩)
    go_ret
    exact ⟨rfl, rfl⟩
  · rw [h2]
    rw [h1] at hd
    obtain ⟨g, x, rfl, hx', _, _, _, hp, _⟩ := h.at_ hi
    rw [hx] at hx'
    obtain rfl := Option.some.inj hx'
    have hi0 : (0 : Int) ≤ (i : Int) := by omega
    have hi1 : (i : Int) < (L.length : Int) := by omega
    clear h hn h1 h2 hx hx'
    go_enter Try.func62, Try.ntmps62
    go_wp2_with (go_at_call 64; refine hd.mono ?_; rintro e w1 ⟨rfl, rfl⟩)
    go_ret
    exact ⟨rfl, rfl⟩
set_option maxRecDepth 20000 in
theorem dhas_any (h : IsDoc w B d made L v) (hn : KOk L) (k : Int) (hl : L.length ≤ 4611686018427387904) :
    Calls Try.prog 45 #[.pointer (some ⟨d, 0, none⟩), .int .i64 k] w fun e w' => e = .returned (.bool (aHas L k)) ∧ w = w' := by
  have hd := dat_any h k hl
  clear h
  rcases dcase hn k with ⟨h2, h1, _⟩ | ⟨i, p, hi, hx, h1, h2, _⟩
  · rw [h2]
    rw [h1] at hd
    clear hn h1 h2 hl
    go_enter Try.func45, Try.ntmps45
    go_wp2_with (go_at_call 64; refine hd.mono ?_; rintro e w1 ⟨rfl, rfl⟩)
    go_ret
    exact ⟨rfl, rfl⟩
  · rw [h2]
    rw [h1] at hd
    have hi0 : (0 : Int) ≤ (i : Int) := by omega
    clear hn h1 h2 hx hi
    go_enter Try.func45, Try.ntmps45
    go_wp2_with (go_at_call 64; refine hd.mono ?_; rintro e w1 ⟨rfl, rfl⟩)
    go_ret
    exact ⟨rfl, rfl⟩
end
end Go.Proofs.Ytjddjjfcongnlaa
