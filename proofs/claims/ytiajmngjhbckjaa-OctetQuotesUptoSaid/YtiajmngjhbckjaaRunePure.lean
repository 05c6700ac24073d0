/- The document's rune and the library's; of no program. By this session. -/
import Derived.Test.YtiajmngjhbckjaaQuotePure
import Derived.Test.YtiajmngjhbckjaaPlainPure
namespace Go.Proofs.Ytiajmngjhbckjaa
open Go.Lib
theorem cls_first' (c : Nat) (h : c < 256) (h0 : 128 ≤ c) : ((cls c).1 = 0 ∧ firstT c = 241) ∨ (firstT c < 240 ∧ (cls c).1 = firstT c % 8 ∧ (cls c).2.1 = accLo (firstT c / 16) ∧ (cls c).2.2 = accHi (firstT c / 16) ∧ ((cls c).1 = 2 ∨ (cls c).1 = 3 ∨ (cls c).1 = 4)) := by
  have : ∀ c : Fin 256, 128 ≤ c.val → ((cls c.val).1 = 0 ∧ firstT c.val = 241) ∨ (firstT c.val < 240 ∧ (cls c.val).1 = firstT c.val % 8 ∧ (cls c.val).2.1 = accLo (firstT c.val / 16) ∧ (cls c.val).2.2 = accHi (firstT c.val / 16) ∧ ((cls c.val).1 = 2 ∨ (cls c.val).1 = 3 ∨ (cls c.val).1 = 4)) := by decide +kernel
  exact this ⟨c, h⟩ h0
theorem runeAt_dec (s : ByteArray) (i : Nat) (h : i < s.size) : runeAt s i = if decodeL (s.data.toList.drop i) = (65533, 1) then 0 else (decodeL (s.data.toList.drop i)).2 := by
  have hl := size_toList s
  have hdl : (s.data.toList.drop i).length = s.size - i := by rw [List.length_drop, hl]
  have hg := getD_drop s i
  have h256 := byteAt_lt s i
  have q1 := byteAt_lt s (i + 1); have q2 := byteAt_lt s (i + 2); have q3 := byteAt_lt s (i + 3)
  have h0 := hg 0; have h1 := hg 1; have h2 := hg 2; have h3 := hg 3
  rw [Nat.add_zero] at h0
  rw [decodeL_N, h0, h1, h2, h3, hdl]
  unfold runeAt
  rw [if_neg (by omega)]
  by_cases hc : byteAt s i < 128
  · rw [if_pos hc, decodeN_ascii _ _ _ _ _ hc, if_neg (by intro e; have := (Prod.mk.inj e).1; omega)]
  · rw [if_neg hc]
    rcases cls_first' _ h256 (by omega) with ⟨e1, e2⟩ | ⟨e0, e1, e2, e3, e4⟩
    · rw [if_pos (.inl e1), bad_eq _ _ _ _ _ h256 e2, if_pos rfl]
    · rw [← slow_eq _ _ _ _ _ (by omega) q1 q2 q3 e0, ← e1, ← e2, ← e3]
      have hlo := (cls_lo (byteAt s i) h256).1
      generalize cls (byteAt s i) = C at *
      obtain ⟨n, lo, hi⟩ := C
      simp only at *
      have bad : slowN (s.size - i) (byteAt s i) (byteAt s (i + 1)) (byteAt s (i + 2)) (byteAt s (i + 3)) n lo hi = (65533, 1) → (if slowN (s.size - i) (byteAt s i) (byteAt s (i + 1)) (byteAt s (i + 2)) (byteAt s (i + 3)) n lo hi = (65533, 1) then 0 else (slowN (s.size - i) (byteAt s i) (byteAt s (i + 1)) (byteAt s (i + 2)) (byteAt s (i + 3)) n lo hi).2) = 0 := fun h => if_pos h
      have good : ∀ r, slowN (s.size - i) (byteAt s i) (byteAt s (i + 1)) (byteAt s (i + 2)) (byteAt s (i + 3)) n lo hi = (r, n) → (if slowN (s.size - i) (byteAt s i) (byteAt s (i + 1)) (byteAt s (i + 2)) (byteAt s (i + 3)) n lo hi = (65533, 1) then 0 else (slowN (s.size - i) (byteAt s i) (byteAt s (i + 1)) (byteAt s (i + 2)) (byteAt s (i + 3)) n lo hi).2) = n := by
        intro r h
        rw [h, if_neg (by intro e; have := (Prod.mk.inj e).2; rcases e4 with e4 | e4 | e4 <;> omega)]
      by_cases hn : n = 0 ∨ s.size - i < n
      · have hsn : s.size - i < n := by
          rcases hn with h | h
          · exfalso; clear hg; omega
          · exact h
        rw [if_pos hn]
        exact (bad (if_pos hsn)).symm
      · have hsn : ¬ s.size - i < n := fun h => hn (.inr h)
        rw [if_neg hn]
        by_cases hall : ∀ k, k < n → k = 0 ∨ okR s i lo hi k
        · rw [if_pos hall]
          have o1 : okR s i lo hi 1 := (hall 1 (by omega)).resolve_left (by omega)
          unfold okR at o1 hall
          rw [if_pos rfl] at o1
          rcases e4 with rfl | rfl | rfl
          · exact (good _ (by unfold slowN; rw [if_neg hsn, if_neg (by omega), if_pos (by omega)])).symm
          · have o2 := (hall 2 (by omega)).resolve_left (by omega)
            rw [if_neg (by omega)] at o2
            exact (good _ (by unfold slowN; rw [if_neg hsn, if_neg (by omega), if_neg (by omega), if_neg (by omega), if_pos (by omega)])).symm
          · have o2 := (hall 2 (by omega)).resolve_left (by omega)
            have o3 := (hall 3 (by omega)).resolve_left (by omega)
            rw [if_neg (by omega)] at o2 o3
            exact (good _ (by unfold slowN; rw [if_neg hsn, if_neg (by omega), if_neg (by omega), if_neg (by omega), if_neg (by omega), if_neg (by omega)])).symm
        · rw [if_neg hall]
          obtain ⟨k, hk⟩ := Classical.not_forall.1 hall
          obtain ⟨hkn, hk⟩ := Classical.not_imp.1 hk
          have hk0 : k ≠ 0 := fun e => hk (.inl e)
          have hno : ¬ okR s i lo hi k := fun e => hk (.inr e)
          unfold okR at hno
          refine (bad ?_).symm
          unfold slowN
          rw [if_neg hsn]
          by_cases ha : byteAt s (i + 1) < lo ∨ hi < byteAt s (i + 1)
          · rw [if_pos ha]
          · rw [if_neg ha]
            have hk1 : k ≠ 1 := by
              rintro rfl
              rw [if_pos rfl] at hno
              omega
            rw [if_neg hk1] at hno
            have hno' : byteAt s (i + k) < 128 ∨ 191 < byteAt s (i + k) := by omega
            rw [if_neg (by omega)]
            by_cases hb : byteAt s (i + 2) < 128 ∨ 191 < byteAt s (i + 2)
            · rw [if_pos hb]
            · rw [if_neg hb]
              have hk3 : k = 3 := by
                rcases e4 with rfl | rfl | rfl
                · exfalso; omega
                · have : k = 2 := by omega
                  subst this; exact absurd hno' hb
                · rcases Nat.lt_or_ge k 3 with h | h
                  · have : k = 2 := by omega
                    subst this; exact absurd hno' hb
                  · omega
              subst hk3
              rw [if_neg (by omega), if_pos hno']
/-- The prefix that tells U+FFFD from what is no rune. -/
theorem fffd_iff (l : List UInt8) (hne : l ≠ []) (h : (decodeL l).1 = 65533) : ((decodeL l).2 = 1 ↔ ¬ [239, 191, 189] <+: l) := by
  constructor
  · intro h1 hp
    obtain ⟨t, rfl⟩ := hp
    have : decodeL ([239, 191, 189] ++ t) = (65533, 3) := by
      rw [decodeL_N]
      simp [decodeN]
    rw [this] at h1
    exact absurd h1 (by decide)
  · intro hp
    rcases Nat.lt_or_ge 1 (decodeL l).2 with h1 | h1
    · have := encode_decode l hne (fun ⟨_, e⟩ => by omega)
      rw [h] at this
      have e : encodeRune ((65533 : Nat) : Int) = [239, 191, 189] := by decide +kernel
      rw [e] at this
      exact absurd (this ▸ List.take_prefix _ _) hp
    · have := decodeL_width l; omega
theorem byte_num (c : UInt8) (n : Nat) (h : n < 256) : c = n.toUInt8 ↔ c.toNat = n := by
  constructor
  · rintro rfl; simp [Nat.toUInt8, Nat.mod_eq_of_lt h]
  · intro e; subst e; simp
theorem enc_ascii (c : UInt8) (h : c.toNat < 128) : encodeRune ((c.toNat : Nat) : Int) = [c] := by
  unfold encodeRune
  rw [encodeRuneZ_one (by omega) (by omega)]
  simp
theorem dec_high (l : List UInt8) (h : 128 ≤ (l.getD 0 0).toNat) : 128 ≤ (decodeL l).1 := by
  rw [decodeL_N]
  rcases decodeN_shape l.length (l.getD 0 0).toNat (l.getD 1 0).toNat (l.getD 2 0).toNat (l.getD 3 0).toNat with ⟨c, e⟩ | ⟨c1, c2, c3, cv, e⟩ | ⟨c1, c2, c3, c4, cv, cs, e⟩ | ⟨c1, c2, c3, c4, c5, cv, cw, e⟩ | e
  · omega
  all_goals (rw [e]; dsimp only; omega)
/-- What the rune in front gives, by the rune. -/
theorem outQ_mark (l : List UInt8) (h : (decodeL l).1 = 34 ∨ (decodeL l).1 = 92) : outQ l = 92 :: encodeRune ((decodeL l).1 : Int) := by
  by_cases hc : (l.getD 0 0).toNat < 128
  · have hd := ascii_dec l hc
    rw [hd] at h ⊢
    dsimp only at h ⊢
    rw [enc_ascii _ hc]
    unfold outQ
    rw [if_pos (by rcases h with h | h; exact .inl ((byte_num _ 34 (by omega)).2 h); exact .inr ((byte_num _ 92 (by omega)).2 h))]
  · have := dec_high l (by omega)
    omega
theorem outQ_nl (l : List UInt8) (h : (decodeL l).1 = 10) : outQ l = [92, 110] := by
  by_cases hc : (l.getD 0 0).toNat < 128
  · have hd := ascii_dec l hc
    rw [hd] at h
    dsimp only at h
    have e := (byte_num _ 10 (by omega)).2 h
    unfold outQ
    rw [e]
    rfl
  · have := dec_high l (by omega)
    omega
theorem outQ_low (l : List UInt8) (h : (decodeL l).1 < 32 ∨ (decodeL l).1 = 127) (h10 : (decodeL l).1 ≠ 10) : outQ l = [92, 120, hx8 ((decodeL l).1 / 16), hx8 ((decodeL l).1 % 16)] := by
  by_cases hc : (l.getD 0 0).toNat < 128
  · have hd := ascii_dec l hc
    rw [hd] at h h10 ⊢
    dsimp only at h h10 ⊢
    unfold outQ
    rw [if_neg (by rintro (e | e) <;> rw [e] at h <;> revert h <;> decide), if_neg (fun e => h10 (by rw [e]; rfl)), if_pos (by omega)]
  · have := dec_high l (by omega)
    omega
theorem outQ_bad (l : List UInt8) (h : (decodeL l).1 = 65533) (h1 : (decodeL l).2 = 1) : outQ l = [92, 120, hx8 ((l.getD 0 0).toNat / 16), hx8 ((l.getD 0 0).toNat % 16)] := by
  have hd : decodeL l = (65533, 1) := Prod.ext h h1
  have hc : ¬ (l.getD 0 0).toNat < 128 := fun hc => by rw [ascii_dec l hc] at h; dsimp only at h; omega
  unfold outQ
  rw [if_neg (by rintro (e | e) <;> rw [e] at hc <;> revert hc <;> decide), if_neg (by intro e; rw [e] at hc; revert hc; decide), if_pos (.inr (.inr hd))]
theorem outQ_rune (l : List UInt8) (hne : l ≠ []) (hA : ¬ ((decodeL l).1 = 34 ∨ (decodeL l).1 = 92)) (hB : (decodeL l).1 ≠ 10) (hC : ¬ ((decodeL l).1 < 32 ∨ (decodeL l).1 = 127)) (hD : ¬ ((decodeL l).1 = 65533 ∧ (decodeL l).2 = 1)) :
    outQ l = encodeRune ((decodeL l).1 : Int) := by
  rw [encode_decode l hne hD]
  unfold outQ
  have hd : decodeL l ≠ (65533, 1) := fun e => hD (by rw [e]; exact ⟨rfl, rfl⟩)
  by_cases hc : (l.getD 0 0).toNat < 128
  · have e := ascii_dec l hc
    rw [e] at hA hB hC
    dsimp only at hA hB hC
    rw [if_neg (by rintro (e | e) <;> rw [e] at hA <;> revert hA <;> decide), if_neg (by intro e; rw [e] at hB; revert hB; decide), if_neg (by rintro (h | h | h); omega; omega; exact hd h)]
  · rw [if_neg (by rintro (e | e) <;> rw [e] at hc <;> revert hc <;> decide), if_neg (by intro e; rw [e] at hc; revert hc; decide), if_neg (by rintro (h | h | h); omega; omega; exact hd h)]
/-- The five ways of a round. -/
theorem outQ_cases (l : List UInt8) (hne : l ≠ []) :
    (((decodeL l).1 = 34 ∨ (decodeL l).1 = 92) ∧ outQ l = 92 :: encodeRune ((decodeL l).1 : Int)) ∨ ((decodeL l).1 = 10 ∧ outQ l = [92, 110]) ∨
    (((decodeL l).1 < 32 ∨ (decodeL l).1 = 127) ∧ (decodeL l).1 ≠ 10 ∧ outQ l = [92, 120, hx8 ((decodeL l).1 / 16), hx8 ((decodeL l).1 % 16)]) ∨
    ((decodeL l).1 = 65533 ∧ ¬ [239, 191, 189] <+: l ∧ outQ l = [92, 120, hx8 ((l.getD 0 0).toNat / 16), hx8 ((l.getD 0 0).toNat % 16)]) ∨
    (¬ ((decodeL l).1 = 34 ∨ (decodeL l).1 = 92) ∧ (decodeL l).1 ≠ 10 ∧ ¬ (decodeL l).1 < 32 ∧ (decodeL l).1 ≠ 127 ∧ ((decodeL l).1 ≠ 65533 ∨ [239, 191, 189] <+: l) ∧ outQ l = encodeRune ((decodeL l).1 : Int)) := by
  by_cases hA : (decodeL l).1 = 34 ∨ (decodeL l).1 = 92
  · exact .inl ⟨hA, outQ_mark l hA⟩
  by_cases hB : (decodeL l).1 = 10
  · exact .inr (.inl ⟨hB, outQ_nl l hB⟩)
  by_cases hC : (decodeL l).1 < 32 ∨ (decodeL l).1 = 127
  · exact .inr (.inr (.inl ⟨hC, hB, outQ_low l hC hB⟩))
  by_cases hD : (decodeL l).1 = 65533 ∧ (decodeL l).2 = 1
  · exact .inr (.inr (.inr (.inl ⟨hD.1, (fffd_iff l hne hD.1).1 hD.2, outQ_bad l hD.1 hD.2⟩)))
  · refine .inr (.inr (.inr (.inr ⟨hA, hB, fun h => hC (.inl h), fun h => hC (.inr h), ?_, outQ_rune l hne hA hB hC hD⟩)))
    by_cases h : (decodeL l).1 = 65533
    · refine .inr (Classical.byContradiction fun hn => hD ⟨h, (fffd_iff l hne h).2 hn⟩)
    · exact .inl h
theorem hasPrefix_iff (l p : List UInt8) : hasPrefix l p = true ↔ p <+: l := by
  unfold hasPrefix
  simp
/-- What the rune in front gives, by the document's width. -/
theorem outQ_doc (s : ByteArray) (i : Nat) (h : i < s.size) : ((decodeL (s.data.toList.drop i)).2 = if runeAt s i = 0 then 1 else runeAt s i) ∧
    outQ (s.data.toList.drop i) = (if byteAt s i = 34 ∨ byteAt s i = 92 then [92, (byteAt s i).toUInt8] else if byteAt s i = 10 then [92, 110]
      else if runeAt s i = 0 ∨ byteAt s i < 32 ∨ byteAt s i = 127 then [92, 120, hx8 (byteAt s i / 16), hx8 (byteAt s i % 16)] else (s.data.toList.drop i).take (runeAt s i)) := by
  have hg := getD_drop s i 0
  rw [Nat.add_zero] at hg
  have h8 := byteAt_lt s i
  have hr := runeAt_dec s i h
  have hw := decodeL_width (s.data.toList.drop i)
  have e0 : (s.data.toList.drop i).getD 0 0 = (byteAt s i).toUInt8 := (byte_num _ _ h8).2 hg
  have b : ∀ n, n < 256 → ((s.data.toList.drop i).getD 0 0 = n.toUInt8 ↔ byteAt s i = n) := fun n hn => by rw [byte_num _ n hn, hg]
  have b34 : (s.data.toList.drop i).getD 0 0 = 34 ↔ byteAt s i = 34 := b 34 (by omega)
  have b92 : (s.data.toList.drop i).getD 0 0 = 92 ↔ byteAt s i = 92 := b 92 (by omega)
  have b10 : (s.data.toList.drop i).getD 0 0 = 10 ↔ byteAt s i = 10 := b 10 (by omega)
  by_cases hd : decodeL (s.data.toList.drop i) = (65533, 1)
  · rw [if_pos hd] at hr
    refine ⟨by rw [hr, hd, if_pos rfl], ?_⟩
    unfold outQ
    simp only [b34, b92, b10, hg, hr]
    rw [e0]
    by_cases h1 : byteAt s i = 34 ∨ byteAt s i = 92
    · rw [if_pos h1, if_pos h1]
    rw [if_neg h1, if_neg h1]
    by_cases h2 : byteAt s i = 10
    · rw [if_pos h2, if_pos h2]
    rw [if_neg h2, if_neg h2, if_pos (.inr (.inr hd)), if_pos (.inl trivial)]
  · rw [if_neg hd] at hr
    refine ⟨by rw [hr, if_neg (by omega)], ?_⟩
    unfold outQ
    simp only [b34, b92, b10, hg, hr]
    rw [e0]
    by_cases h1 : byteAt s i = 34 ∨ byteAt s i = 92
    · rw [if_pos h1, if_pos h1]
    rw [if_neg h1, if_neg h1]
    by_cases h2 : byteAt s i = 10
    · rw [if_pos h2, if_pos h2]
    rw [if_neg h2, if_neg h2]
    by_cases h3 : byteAt s i < 32 ∨ byteAt s i = 127
    · rw [if_pos (h3.elim .inl fun h => .inr (.inl h)), if_pos (.inr h3)]
    · rw [if_neg (fun h => h3 (h.elim .inl fun h => h.elim .inr fun h => absurd h hd)), if_neg (fun h => h3 (h.elim (fun h => by omega) id))]
theorem quoteB_le (l : List UInt8) : (quoteB l).length ≤ 4 * l.length := (un_quote _ l (Nat.le_refl _)).2.2.2
theorem outQ_le (l : List UInt8) : (outQ l).length ≤ 4 * (decodeL l).2 := by
  have hw := decodeL_width l
  unfold outQ
  split
  · simp; omega
  split
  · simp; omega
  split
  · simp; omega
  · rw [List.length_take]; omega
end Go.Proofs.Ytiajmngjhbckjaa
