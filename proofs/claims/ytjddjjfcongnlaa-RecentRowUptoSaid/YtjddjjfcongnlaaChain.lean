/- A row of places, each knowing its neighbours: left and joined; of no program. By this session. -/
namespace Go.Proofs.Ytjddjjfcongnlaa
/-- What the blocks hold: the ends, each place's neighbours, key and pins. -/
structure St (κ : Type) where
  first : Option Nat
  last : Option Nat
  older : Nat → Option Nat
  newer : Nat → Option Nat
  key : Nat → κ
  pins : Nat → Nat
def upd {α : Type} (f : Nat → α) (p : Nat) (a : α) : Nat → α := fun q => if q = p then a else f q
theorem upd_same {α : Type} (f : Nat → α) (p : Nat) (a : α) : upd f p a p = a := if_pos rfl
theorem upd_other {α : Type} (f : Nat → α) {p q : Nat} (a : α) (h : q ≠ p) : upd f p a q = f q := if_neg h
def prv (ps : List Nat) (i : Nat) : Option Nat := if i = 0 then none else ps[i - 1]?
structure Chain {κ : Type} (st : St κ) (ps : List Nat) : Prop where
  first : st.first = ps[0]?
  last : st.last = prv ps ps.length
  nodup : ps.Nodup
  at_ : ∀ i p, ps[i]? = some p → st.older p = prv ps i ∧ st.newer p = ps[i + 1]?
/-- leave, first half: the older neighbour (or the first end) is told of the newer one. -/
def leave1 {κ : Type} (st : St κ) (p : Nat) : St κ :=
  match st.older p with
  | some q => { st with newer := upd st.newer q (st.newer p) }
  | none => { st with first := st.newer p }
def leave2 {κ : Type} (st : St κ) (p : Nat) : St κ :=
  match st.newer p with
  | some q => { st with older := upd st.older q (st.older p) }
  | none => { st with last := st.older p }
def leaveSt {κ : Type} (st : St κ) (p : Nat) : St κ := leave2 (leave1 st p) p
/-- join, first step: the place's own neighbours. -/
def join0 {κ : Type} (st : St κ) (p : Nat) : St κ := { st with older := upd st.older p st.last, newer := upd st.newer p none }
def join1 {κ : Type} (st : St κ) (p : Nat) : St κ :=
  match st.older p with
  | some q => { st with newer := upd st.newer q (some p) }
  | none => { st with first := some p }
def joinSt {κ : Type} (st : St κ) (p : Nat) : St κ := { join1 (join0 st p) p with last := some p }
theorem at_inj {ps : List Nat} (h : ps.Nodup) {i j p : Nat} (hi : ps[i]? = some p) (hj : ps[j]? = some p) : i = j := by
  obtain ⟨h1, e1⟩ := List.getElem?_eq_some_iff.1 hi
  obtain ⟨h2, e2⟩ := List.getElem?_eq_some_iff.1 hj
  rcases Nat.lt_trichotomy i j with hlt | heq | hlt
  · exact absurd (e1.trans e2.symm) (List.pairwise_iff_getElem.1 h i j h1 h2 hlt)
  · exact heq
  · exact absurd (e2.trans e1.symm) (List.pairwise_iff_getElem.1 h j i h2 h1 hlt)
theorem getElem?_eraseIdx' (l : List Nat) (j i : Nat) : (l.eraseIdx j)[i]? = if i < j then l[i]? else l[i + 1]? := List.getElem?_eraseIdx ..
theorem leave1_fields {κ : Type} (st : St κ) (p : Nat) : (leave1 st p).older = st.older ∧ (leave1 st p).last = st.last ∧ (leave1 st p).key = st.key ∧ (leave1 st p).pins = st.pins ∧
    (leave1 st p).first = (match st.older p with | some _ => st.first | none => st.newer p) ∧ (leave1 st p).newer = (match st.older p with | some q => upd st.newer q (st.newer p) | none => st.newer) := by
  unfold leave1
  cases st.older p <;> exact ⟨rfl, rfl, rfl, rfl, rfl, rfl⟩
theorem leave2_fields {κ : Type} (st : St κ) (p : Nat) : (leave2 st p).newer = st.newer ∧ (leave2 st p).first = st.first ∧ (leave2 st p).key = st.key ∧ (leave2 st p).pins = st.pins ∧
    (leave2 st p).last = (match st.newer p with | some _ => st.last | none => st.older p) ∧ (leave2 st p).older = (match st.newer p with | some q => upd st.older q (st.older p) | none => st.older) := by
  unfold leave2
  cases st.newer p <;> exact ⟨rfl, rfl, rfl, rfl, rfl, rfl⟩
/-- Left: the row without the place. -/
theorem Chain.leave {κ : Type} {st : St κ} {ps : List Nat} {j p : Nat} (h : Chain st ps) (hj : ps[j]? = some p) : Chain (leaveSt st p) (ps.eraseIdx j) := by
  obtain ⟨hjl, _⟩ := List.getElem?_eq_some_iff.1 hj
  obtain ⟨ho, hn⟩ := h.at_ j p hj
  obtain ⟨a1, a2, a3, a4, a5, a6⟩ := leave1_fields st p
  obtain ⟨b1, b2, b3, b4, b5, b6⟩ := leave2_fields (leave1 st p) p
  have hlen : (ps.eraseIdx j).length = ps.length - 1 := List.length_eraseIdx_of_lt hjl
  -- newer of p is not changed by the first half
  have hnp : (leave1 st p).newer p = st.newer p := by
    rw [a6, ho]
    unfold prv
    by_cases hj0 : j = 0
    · rw [if_pos hj0]
    · rw [if_neg hj0]
      obtain ⟨q, hq⟩ : ∃ q, ps[j - 1]? = some q := ⟨_, List.getElem?_eq_getElem (by omega)⟩
      rw [hq]
      refine upd_other _ _ fun e => ?_
      subst e
      have := at_inj h.nodup hj hq
      omega
  have hop : (leave1 st p).older p = prv ps j := by rw [a1, ho]
  rw [hnp, hn] at b5 b6
  rw [a1] at b6
  rw [a2, a1, ho] at b5
  rw [ho] at a5 a6 b6
  refine ⟨?_, ?_, h.nodup.sublist (List.eraseIdx_sublist ..), ?_⟩
  · show (leaveSt st p).first = _
    unfold leaveSt
    rw [b2, a5, getElem?_eraseIdx']
    unfold prv
    by_cases hj0 : j = 0
    · rw [if_pos hj0, if_neg (by omega)]
      subst hj0
      exact hn
    · rw [if_neg hj0, if_pos (by omega)]
      obtain ⟨q, hq⟩ : ∃ q, ps[j - 1]? = some q := ⟨_, List.getElem?_eq_getElem (by omega)⟩
      rw [hq]
      exact h.first
  · show (leaveSt st p).last = _
    unfold leaveSt
    rw [b5, hlen]
    by_cases hje : j + 1 < ps.length
    · obtain ⟨q, hq⟩ : ∃ q, ps[j + 1]? = some q := ⟨_, List.getElem?_eq_getElem hje⟩
      rw [hq]
      show st.last = _
      rw [h.last]
      unfold prv
      rw [if_neg (by omega), if_neg (by omega), getElem?_eraseIdx', if_neg (by omega)]
      congr 1; omega
    · have hjn : j + 1 = ps.length := by omega
      rw [List.getElem?_eq_none (by omega : ps.length ≤ j + 1)]
      show prv ps j = _
      unfold prv
      by_cases hj0 : j = 0
      · rw [if_pos hj0, if_pos (by omega)]
      · rw [if_neg hj0, if_neg (by omega), getElem?_eraseIdx', if_pos (by omega)]
        congr 1; omega
  · intro i q hi
    rw [getElem?_eraseIdx'] at hi
    show (leaveSt st p).older q = _ ∧ (leaveSt st p).newer q = _
    unfold leaveSt
    rw [b6, b1, a6]
    -- where q stood
    obtain ⟨i', hi', hcase⟩ : ∃ i', ps[i']? = some q ∧ ((i < j ∧ i' = i) ∨ (¬ i < j ∧ i' = i + 1)) := by
      by_cases hlt : i < j
      · rw [if_pos hlt] at hi; exact ⟨i, hi, .inl ⟨hlt, rfl⟩⟩
      · rw [if_neg hlt] at hi; exact ⟨i + 1, hi, .inr ⟨hlt, rfl⟩⟩
    obtain ⟨hoq, hnq⟩ := h.at_ i' q hi'
    obtain ⟨hil, _⟩ := List.getElem?_eq_some_iff.1 hi'
    constructor
    · -- older
      by_cases hje : j + 1 < ps.length
      · obtain ⟨r, hr⟩ : ∃ r, ps[j + 1]? = some r := ⟨_, List.getElem?_eq_getElem hje⟩
        rw [hr]
        show upd st.older r (prv ps j) q = _
        by_cases hqr : q = r
        · subst hqr
          have := at_inj h.nodup hi' hr
          rw [upd_same]
          unfold prv
          have hij : i = j := by omega
          subst hij
          by_cases hj0 : i = 0
          · rw [if_pos hj0, if_pos hj0]
          · rw [if_neg hj0, if_neg hj0, getElem?_eraseIdx', if_pos (by omega)]
        · rw [upd_other _ _ hqr, hoq]
          have hne : i' ≠ j + 1 := fun e => by subst e; rw [hr] at hi'; exact hqr (Option.some.inj hi').symm
          unfold prv
          rcases hcase with ⟨hlt, rfl⟩ | ⟨hlt, rfl⟩
          · by_cases hi0 : i' = 0
            · rw [if_pos hi0, if_pos hi0]
            · rw [if_neg hi0, if_neg hi0, getElem?_eraseIdx', if_pos (by omega)]
          · rw [if_neg (by omega), if_neg (by omega), getElem?_eraseIdx', if_neg (by omega)]
            congr 1; omega
      · rw [List.getElem?_eq_none (by omega : ps.length ≤ j + 1)]
        show st.older q = _
        rw [hoq]
        rcases hcase with ⟨hlt, rfl⟩ | ⟨hlt, rfl⟩
        · unfold prv
          by_cases hi0 : i' = 0
          · rw [if_pos hi0, if_pos hi0]
          · rw [if_neg hi0, if_neg hi0, getElem?_eraseIdx', if_pos (by omega)]
        · omega
    · -- newer
      unfold prv
      by_cases hj0 : j = 0
      · rw [if_pos hj0]
        show st.newer q = _
        rw [hnq, getElem?_eraseIdx', if_neg (by omega)]
        congr 1; omega
      · rw [if_neg hj0]
        obtain ⟨r, hr⟩ : ∃ r, ps[j - 1]? = some r := ⟨_, List.getElem?_eq_getElem (by omega)⟩
        rw [hr]
        show upd st.newer r (st.newer p) q = _
        by_cases hqr : q = r
        · subst hqr
          have := at_inj h.nodup hi' hr
          rw [upd_same, hn, getElem?_eraseIdx', if_neg (by omega)]
          congr 1; omega
        · rw [upd_other _ _ hqr, hnq, getElem?_eraseIdx']
          have hne : i' ≠ j - 1 := fun e => by subst e; rw [hr] at hi'; exact hqr (Option.some.inj hi').symm
          rcases hcase with ⟨hlt, rfl⟩ | ⟨hlt, rfl⟩
          · rw [if_pos (by omega)]
          · rw [if_neg (by omega)]
/-- Joined: the place behind all. -/
theorem Chain.join {κ : Type} {st : St κ} {ps : List Nat} {p : Nat} (h : Chain st ps) (hp : p ∉ ps) : Chain (joinSt st p) (ps ++ [p]) := by
  have hnd : (ps ++ [p]).Nodup := List.nodup_append.2 ⟨h.nodup, (by simp), fun a ha b hb e => hp (by rw [List.mem_singleton.1 hb] at e; exact e ▸ ha)⟩
  have hol : (join0 st p).older p = st.last := upd_same ..
  by_cases hps : ps = []
  · subst hps
    have hl : st.last = none := h.last
    rw [hl] at hol
    refine ⟨?_, ?_, hnd, ?_⟩
    · simp [joinSt, join1, hol]
    · simp [joinSt, prv]
    · intro i q hi
      have hi0 : i = 0 := by
        obtain ⟨h1, _⟩ := List.getElem?_eq_some_iff.1 hi
        simp at h1; exact h1
      subst hi0
      simp at hi
      subst hi
      simp only [joinSt, join1, hol, List.nil_append]
      exact ⟨rfl, upd_same ..⟩
  · have hpos : 0 < ps.length := List.length_pos_iff.2 hps
    obtain ⟨z, hz⟩ : ∃ z, ps[ps.length - 1]? = some z := ⟨_, List.getElem?_eq_getElem (by omega)⟩
    have hl : st.last = some z := by rw [h.last]; unfold prv; rw [if_neg (by omega), hz]
    rw [hl] at hol
    have hzp : z ≠ p := fun e => hp (e ▸ List.mem_of_getElem? hz)
    have hj : joinSt st p = { join0 st p with newer := upd (join0 st p).newer z (some p), last := some p } := by simp [joinSt, join1, hol]
    rw [hj]
    refine ⟨?_, ?_, hnd, ?_⟩
    · show st.first = _
      rw [h.first, List.getElem?_append_left hpos]
    · show some p = _
      unfold prv
      rw [List.length_append, List.length_singleton, if_neg (by omega), Nat.add_sub_cancel, List.getElem?_concat_length]
    · intro i q hi
      show upd st.older p st.last q = _ ∧ upd (upd st.newer p none) z (some p) q = _
      by_cases hilt : i < ps.length
      · rw [List.getElem?_append_left hilt] at hi
        have hqp : q ≠ p := fun e => hp (e ▸ List.mem_of_getElem? hi)
        obtain ⟨hoq, hnq⟩ := h.at_ i q hi
        constructor
        · rw [upd_other _ _ hqp, hoq]
          unfold prv
          by_cases hi0 : i = 0
          · rw [if_pos hi0, if_pos hi0]
          · rw [if_neg hi0, if_neg hi0, List.getElem?_append_left (by omega)]
        · by_cases hqz : q = z
          · subst hqz
            have := at_inj h.nodup hi hz
            rw [upd_same, show i + 1 = ps.length by omega, List.getElem?_concat_length]
          · have hne : i ≠ ps.length - 1 := fun e => by subst e; rw [hz] at hi; exact hqz (Option.some.inj hi).symm
            rw [upd_other _ _ hqz, upd_other _ _ hqp, hnq, List.getElem?_append_left (by omega)]
      · have hie : i = ps.length := by
          obtain ⟨h1, _⟩ := List.getElem?_eq_some_iff.1 hi
          simp at h1; omega
        subst hie
        rw [List.getElem?_concat_length] at hi
        obtain rfl := Option.some.inj hi
        constructor
        · rw [upd_same, hl]
          unfold prv
          rw [if_neg (by omega), List.getElem?_append_left (by omega), hz]
        · rw [upd_other _ _ (Ne.symm hzp), upd_same, List.getElem?_eq_none (by simp)]
end Go.Proofs.Ytjddjjfcongnlaa
