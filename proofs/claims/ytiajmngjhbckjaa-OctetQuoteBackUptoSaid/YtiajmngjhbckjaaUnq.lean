/- The contract of octet.Unquote. -/
import Derived.Test.YtiajmngjhbckjaaRunq
namespace Go.Proofs.Ytiajmngjhbckjaa
open Go.RowKit
theorem unP_length : ∀ (n : Nat) (l r : List UInt8), l.length ≤ n → unP l = some r → r.length ≤ l.length := by
  intro n
  induction n with
  | zero =>
    intro l r hl h
    obtain rfl : l = [] := List.eq_nil_of_length_eq_zero (by omega)
    obtain rfl := Option.some.inj h
    simp
  | succ n ih =>
    intro l r hl h
    by_cases hne : l = []
    · subst hne; obtain rfl := Option.some.inj h; simp
    have hl0 : 0 < l.length := List.length_pos_iff.2 hne
    have d1 : ∀ k, (l.drop k).length = l.length - k := fun k => by rw [List.length_drop]
    have one : ∀ k c, 1 ≤ k → (unP (l.drop k)).map (c :: ·) = some r → k ≤ l.length → r.length ≤ l.length := by
      intro k c hk h hkl
      obtain ⟨x, hx, rfl⟩ := Option.map_eq_some_iff.1 h
      have := ih _ _ (by rw [d1]; omega) hx
      rw [d1] at this
      rw [List.length_cons]; omega
    by_cases h92 : (l.getD 0 0).toNat = 92
    · by_cases h2 : l.length < 2
      · rw [(un_alone l hne h92 h2).1] at h; cases h
      · rw [unP_back l (by omega) h92] at h
        split at h
        · exact one 2 _ (by omega) h (by omega)
        split at h
        · exact one 2 _ (by omega) h (by omega)
        split at h
        · split at h
          · cases h
          split at h
          · cases h
          · exact one 4 _ (by omega) h (by omega)
        · cases h
    · rw [unP_other l hne h92] at h
      exact one 1 _ (by omega) h (by omega)
theorem inner_length (l r : List UInt8) (h : innerQ l = some r) : r.length ≤ l.length := by
  unfold innerQ at h
  split at h
  · obtain rfl := Option.some.inj h
    rw [List.length_take]; rw [List.length_drop]; omega
  · cases h
set_option maxHeartbeats 4000000 in
theorem unq_any (s : ByteArray) (w : World) (hs : s.size ≤ 8388608) :
    Calls Try.prog 20 #[.string s] w fun e w' => e = unqRet (.int .i64) (finQ unP s.data.toList) ∧ Below w.heap.size w w' := by
  have hsl := size_toList s
  unfold finQ
  have hu := unesc_any s w hs
  have hlen : ∀ r, (innerQ s.data.toList).bind unP = some r → r.length ≤ 8388608 := by
    intro r h
    obtain ⟨x, h1, h2⟩ := Option.bind_eq_some_iff.1 h
    have := inner_length _ _ h1
    have := unP_length _ _ _ (Nat.le_refl _) h2
    omega
  generalize (innerQ s.data.toList).bind unP = R at *
  cases R with
  | none =>
    go_enter Try.func20, Try.ntmps20
    go_wp2_with fail
    refine hu.mono ?_
    rintro e W1 ⟨rfl, hb1⟩
    unfold unescRet
    simp only [Option.getD_none, Option.isSome_none]
    go_wp2_with fail
    go_ret2
    exact ⟨rfl, hb1⟩
  | some o =>
    have hol := hlen o rfl
    clear hlen
    go_enter Try.func20, Try.ntmps20
    go_wp2_with fail
    refine hu.mono ?_
    rintro e W1 ⟨rfl, hb1⟩
    have hs1 := hb1.size
    unfold unescRet
    simp only [Option.getD_some, Option.isSome_some]
    go_wp2_with fail
    refine (quote_any ⟨o.toArray⟩ _ (by show o.toArray.size ≤ _; simpa using hol)).mono ?_
    rintro e W2 ⟨rfl, hb2⟩
    have hW2 : Below w.heap.size w W2 := hb1.trans (hb2.mono hs1)
    rw [show quoteL (⟨o.toArray⟩ : ByteArray).data.toList = quoteL o from rfl]
    by_cases hq : quoteL o = s.data.toList
    · have hq1 : (⟨(quoteL o).toArray⟩ : ByteArray) = s := by
        apply ByteArray.ext
        apply Array.toList_inj.1
        exact hq
      have hfin : (some o).bind (fun r => if quoteL r = s.data.toList then some r else none) = some o := by rw [Option.bind_some, if_pos hq]
      have HF := Lib.hid hfin
      clear hq hfin
      rw [hq1]
      clear hq1
      go_wp2_with fail
      go_ret2
      rw [HF.out]
      exact ⟨rfl, hW2⟩
    · have hq1 : ((⟨(quoteL o).toArray⟩ : ByteArray).toList == s.toList) = false := by
        rw [Lib.toList_data, Lib.toList_data]
        simpa using hq
      have hfin : (some o).bind (fun r => if quoteL r = s.data.toList then some r else none) = none := by rw [Option.bind_some, if_neg hq]
      have HF := Lib.hid hfin
      clear hq hfin
      generalize (⟨(quoteL o).toArray⟩ : ByteArray) = Q at *
      go_wp2_with fail
      go_ret2
      rw [HF.out]
      exact ⟨rfl, hW2⟩
end Go.Proofs.Ytiajmngjhbckjaa
