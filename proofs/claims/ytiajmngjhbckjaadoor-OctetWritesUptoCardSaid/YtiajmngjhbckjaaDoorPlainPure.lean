/- What is a text: the document's way and the library's; of no program. -/
import Derived.Lib.ValidLaws
import Derived.Shelf.Unicode.ValidAny
import Derived.Lib.LaidU8T
namespace Go.Proofs.YtiajmngjhbckjaaDoor
open Go.Lib
/-- The byte at i; 0: none. -/
def byteAt (s : ByteArray) (i : Nat) : Nat := (s.data.toList.getD i 0).toNat
/-- Of a lead byte: how many, and between what the next lies. -/
def cls (c : Nat) : Nat × Nat × Nat :=
  if 194 ≤ c ∧ c ≤ 223 then (2, 128, 191) else if 224 ≤ c ∧ c ≤ 239 then (3, if c = 224 then 160 else 128, if c = 237 then 159 else 191)
  else if 240 ≤ c ∧ c ≤ 244 then (4, if c = 240 then 144 else 128, if c = 244 then 143 else 191) else (0, 128, 191)
def okR (s : ByteArray) (i lo hi k : Nat) : Prop := if k = 1 then lo ≤ byteAt s (i + 1) ∧ byteAt s (i + 1) ≤ hi else 128 ≤ byteAt s (i + k) ∧ byteAt s (i + k) ≤ 191
instance (s : ByteArray) (i lo hi k : Nat) : Decidable (okR s i lo hi k) := by unfold okR; infer_instance
def runeAt (s : ByteArray) (i : Nat) : Nat :=
  if s.size ≤ i then 0 else if byteAt s i < 128 then 1
  else if (cls (byteAt s i)).1 = 0 ∨ s.size - i < (cls (byteAt s i)).1 then 0
  else if ∀ k, k < (cls (byteAt s i)).1 → k = 0 ∨ okR s i (cls (byteAt s i)).2.1 (cls (byteAt s i)).2.2 k then (cls (byteAt s i)).1 else 0
/-- Is it a text? -/
def plainL (l : List UInt8) : Bool := validD l && !l.contains 0
theorem byteAt_get (s : ByteArray) (i : Nat) (h : i < s.size) : (s[i]'h).toNat = byteAt s i := by
  have h' : i < s.data.toList.length := by rw [Array.length_toList]; exact h
  unfold byteAt
  rw [List.getD_eq_getElem?_getD, List.getElem?_eq_getElem h']
  simp; rfl
theorem byteAt_lt (s : ByteArray) (i : Nat) : byteAt s i < 256 := (s.data.toList.getD i 0).toNat_lt
theorem getD_drop (s : ByteArray) (i k : Nat) : ((s.data.toList.drop i).getD k 0).toNat = byteAt s (i + k) := by
  unfold byteAt
  rw [List.getD_eq_getElem?_getD, List.getD_eq_getElem?_getD, List.getElem?_drop]
theorem cls_first (c : Nat) (h : c < 256) (h0 : 128 ≤ c) : ((cls c).1 = 0 ∧ firstT c % 8 = 1) ∨ ((cls c).1 = firstT c % 8 ∧ (cls c).2.1 = accLo (firstT c / 16) ∧ (cls c).2.2 = accHi (firstT c / 16) ∧ ((cls c).1 = 2 ∨ (cls c).1 = 3 ∨ (cls c).1 = 4)) := by
  have : ∀ c : Fin 256, 128 ≤ c.val → ((cls c.val).1 = 0 ∧ firstT c.val % 8 = 1) ∨ ((cls c.val).1 = firstT c.val % 8 ∧ (cls c.val).2.1 = accLo (firstT c.val / 16) ∧ (cls c.val).2.2 = accHi (firstT c.val / 16) ∧ ((cls c.val).1 = 2 ∨ (cls c.val).1 = 3 ∨ (cls c.val).1 = 4)) := by decide +kernel
  exact this ⟨c, h⟩ h0
theorem cls_lo (c : Nat) (h : c < 256) : 128 ≤ (cls c).2.1 ∧ (cls c).2.1 < 256 ∧ (cls c).2.2 < 256 := by
  have : ∀ c : Fin 256, 128 ≤ (cls c.val).2.1 ∧ (cls c.val).2.1 < 256 ∧ (cls c.val).2.2 < 256 := by decide +kernel
  exact this ⟨c, h⟩
theorem cls_n (c : Nat) (h : c < 256) : (cls c).1 ≤ 4 := by
  have : ∀ c : Fin 256, (cls c.val).1 ≤ 4 := by decide +kernel
  exact this ⟨c, h⟩
theorem size_toList (s : ByteArray) : s.data.toList.length = s.size := Array.length_toList
/-- The step of the document's way. -/
theorem runeAt_step (s : ByteArray) (i : Nat) (h : i < s.size) : runeAt s i ≤ 4 ∧ (runeAt s i = 0 → validD (s.data.toList.drop i) = false) ∧
    (runeAt s i ≠ 0 → i + runeAt s i ≤ s.size ∧ validD (s.data.toList.drop i) = validD (s.data.toList.drop (i + runeAt s i)) ∧ ∀ k, 1 ≤ k → k < runeAt s i → 128 ≤ byteAt s (i + k)) := by
  have hl := size_toList s
  have hdl : (s.data.toList.drop i).length = s.size - i := by rw [List.length_drop, hl]
  have hne : s.data.toList.drop i ≠ [] := by intro e; rw [e] at hdl; simp at hdl; omega
  have hg := getD_drop s i
  have h256 := byteAt_lt s i
  unfold runeAt
  rw [if_neg (by omega)]
  by_cases hc : byteAt s i < 128
  · rw [if_pos hc]
    refine ⟨by omega, by omega, fun _ => ⟨by omega, ?_, fun k _ _ => by omega⟩⟩
    have h' : i < s.data.toList.length := by omega
    rw [List.drop_eq_getElem_cons h', validD_cons]
    have := hg 0
    rw [List.drop_eq_getElem_cons h'] at this
    simp at this
    rw [Array.getElem_toList, this]; exact hc
  · rw [if_neg hc]
    have h0 := hg 0; have h1 := hg 1; have h2 := hg 2; have h3 := hg 3
    rw [Nat.add_zero] at h0
    have hv := validD_lead (s.data.toList.drop i) hne (by rw [h0]; omega)
    rw [h0, h1, h2, h3, hdl] at hv
    have hlo := (cls_lo (byteAt s i) h256).1
    rcases cls_first _ h256 (by omega) with ⟨e1, e2⟩ | ⟨e1, e2, e3, e4⟩
    · rw [if_pos (.inl e1)]
      rw [e2] at hv
      refine ⟨by omega, fun _ => by rw [hv]; simp [checkN], fun hh => absurd rfl hh⟩
    · rw [← e1, ← e2, ← e3] at hv
      generalize cls (byteAt s i) = C at *
      obtain ⟨n, lo, hi⟩ := C
      simp only at *
      by_cases hn : n = 0 ∨ s.size - i < n
      · rw [if_pos hn]
        refine ⟨by omega, fun _ => ?_, fun hh => absurd rfl hh⟩
        rw [hv]
        rcases e4 with rfl | rfl | rfl
        · simp [checkN, show s.size - i < 2 by omega]
        · simp [checkN, show s.size - i < 3 by omega]
        · simp [checkN, show s.size - i < 4 by omega]
      · rw [if_neg hn]
        by_cases hall : ∀ k, k < n → k = 0 ∨ okR s i lo hi k
        · rw [if_pos hall]
          have o1 : okR s i lo hi 1 := (hall 1 (by omega)).resolve_left (by omega)
          unfold okR at o1 hall
          rw [if_pos rfl] at o1
          refine ⟨by omega, by omega, fun _ => ⟨by omega, ?_, fun k hk1 hkn => ?_⟩⟩
          · rw [hv]
            rcases e4 with rfl | rfl | rfl
            · simp [checkN, show ¬ s.size - i < 2 by omega, show ¬ byteAt s (i + 1) < lo by omega, show ¬ hi < byteAt s (i + 1) by omega, List.drop_drop]
            · have o2 := (hall 2 (by omega)).resolve_left (by omega)
              rw [if_neg (by omega)] at o2
              simp [checkN, show ¬ s.size - i < 3 by omega, show ¬ byteAt s (i + 1) < lo by omega, show ¬ hi < byteAt s (i + 1) by omega, show ¬ byteAt s (i + 2) < 128 by omega, show ¬ 191 < byteAt s (i + 2) by omega, List.drop_drop]
            · have o2 := (hall 2 (by omega)).resolve_left (by omega)
              have o3 := (hall 3 (by omega)).resolve_left (by omega)
              rw [if_neg (by omega)] at o2 o3
              simp [checkN, show ¬ s.size - i < 4 by omega, show ¬ byteAt s (i + 1) < lo by omega, show ¬ hi < byteAt s (i + 1) by omega, show ¬ byteAt s (i + 2) < 128 by omega, show ¬ 191 < byteAt s (i + 2) by omega, show ¬ byteAt s (i + 3) < 128 by omega, show ¬ 191 < byteAt s (i + 3) by omega, List.drop_drop]
          · have := (hall k hkn).resolve_left (by omega)
            by_cases hk : k = 1
            · subst hk; rw [if_pos rfl] at this; omega
            · rw [if_neg hk] at this; omega
        · rw [if_neg hall]
          refine ⟨by omega, fun _ => ?_, fun hh => absurd rfl hh⟩
          rw [hv]
          obtain ⟨k, hk⟩ := Classical.not_forall.1 hall
          obtain ⟨hkn, hk⟩ := Classical.not_imp.1 hk
          have hk0 : k ≠ 0 := fun e => hk (.inl e)
          have hno : ¬ okR s i lo hi k := fun e => hk (.inr e)
          unfold okR at hno
          by_cases hk1 : k = 1
          · subst hk1
            rw [if_pos rfl] at hno
            have hno' : byteAt s (i + 1) < lo ∨ hi < byteAt s (i + 1) := by omega
            rcases e4 with rfl | rfl | rfl <;> rcases hno' with h' | h' <;> simp [checkN, h']
          · rw [if_neg hk1] at hno
            have hno' : byteAt s (i + k) < 128 ∨ 191 < byteAt s (i + k) := by omega
            have hk23 : k = 2 ∨ k = 3 := by omega
            rcases hk23 with rfl | rfl <;> rcases e4 with rfl | rfl | rfl <;> first | (exfalso; omega) | (rcases hno' with h' | h' <;> simp [checkN, h'])
theorem contains_drop (s : ByteArray) (i n : Nat) (h : ∀ k, k < n → byteAt s (i + k) ≠ 0) : (s.data.toList.drop i).contains 0 = (s.data.toList.drop (i + n)).contains 0 := by
  have e : s.data.toList.drop i = (s.data.toList.drop i).take n ++ s.data.toList.drop (i + n) := by
    rw [← List.drop_drop]; exact (List.take_append_drop n _).symm
  have hno : (0 : UInt8) ∉ (s.data.toList.drop i).take n := by
    intro hm
    obtain ⟨k, hk⟩ := List.getElem?_of_mem hm
    have hkn : k < n := by
      have := (List.getElem?_eq_some_iff.1 hk).1
      rw [List.length_take] at this
      omega
    rw [List.getElem?_take_of_lt hkn] at hk
    refine h k hkn ?_
    rw [← getD_drop, List.getD_eq_getElem?_getD, hk]
    rfl
  rw [e, List.contains_append]
  have : ((s.data.toList.drop i).take n).contains 0 = false := by simpa using hno
  rw [this, Bool.false_or]
theorem plain_nil : plainL [] = true := by simp [plainL, validD_nil]
theorem plain_bad (s : ByteArray) (i : Nat) (h : i < s.size) (hr : runeAt s i = 0 ∨ byteAt s i = 0) : plainL (s.data.toList.drop i) = false := by
  rcases hr with hr | hr
  · simp [plainL, (runeAt_step s i h).2.1 hr]
  · have h' : i < s.data.toList.length := by rw [size_toList]; exact h
    have hz : (0 : UInt8) ∈ s.data.toList.drop i := by
      have := getD_drop s i 0
      rw [Nat.add_zero, hr, List.drop_eq_getElem_cons h'] at this
      rw [List.drop_eq_getElem_cons h']
      have e : s.data.toList[i] = 0 := by
        apply UInt8.toNat_inj.1
        simpa using this
      rw [e]; exact List.mem_cons_self
    simp only [plainL]
    have : (s.data.toList.drop i).contains 0 = true := by simpa using hz
    rw [this]; simp
theorem plain_step (s : ByteArray) (i : Nat) (h : i < s.size) (hr : runeAt s i ≠ 0) (hz : byteAt s i ≠ 0) : plainL (s.data.toList.drop i) = plainL (s.data.toList.drop (i + runeAt s i)) := by
  obtain ⟨_, h2, h3⟩ := (runeAt_step s i h).2.2 hr
  simp only [plainL]
  rw [h2, contains_drop s i (runeAt s i) fun k hk => ?_]
  by_cases hk0 : k = 0
  · subst hk0; exact hz
  · have := h3 k (by omega) hk; omega
end Go.Proofs.YtiajmngjhbckjaaDoor
