/- OctetQuotes and OctetQuoteBack: the walks. -/
import Derived.Test.YtiajmngjhbckjaaUnq
namespace Go.Proofs.Ytiajmngjhbckjaa
open Go.RowKit
set_option maxHeartbeats 4000000 in
theorem quotes_any (s t : ByteArray) (W : World) (hs : s.size ≤ 1048576) (ht : t.size ≤ 1048576) :
    Calls Try.prog 6 #[.string s, .string t] W fun e W' => e = .returned (.bool true) ∧ Below W.heap.size W W' := by
  have hq := quote_any s
  have hrq := rquote_any s
  have hu := unq_any t
  have hru := runq_any t
  rw [← finQ_eq] at hru
  unfold unqRet at hu hru
  generalize finQ unP t.data.toList = R at *
  generalize (⟨(R.getD []).toArray⟩ : ByteArray) = X at *
  generalize (if R.isSome then (0 : Int) else 16) = E at *
  generalize (⟨(quoteL s.data.toList).toArray⟩ : ByteArray) = Q at *
  go_enter Try.func6, Try.ntmps6
  go_wp2_with fail
  refine (hq _ (by omega)).mono ?_
  rintro e W1 ⟨rfl, hb1⟩
  have hs1 := hb1.size
  go_wp2_with fail
  refine (hu _ (by omega)).mono ?_
  rintro e W2 ⟨rfl, hb2⟩
  have hW2 : Below W.heap.size W W2 := hb1.trans (hb2.mono hs1)
  have hs2 := hW2.size
  go_wp2_with fail
  refine (hru _ (by omega)).mono ?_
  rintro e W3 ⟨rfl, hb3⟩
  have hW3 : Below W.heap.size W W3 := hW2.trans (hb3.mono hs2)
  have hs3 := hW3.size
  go_wp2_with fail
  refine (hrq _ (by omega)).mono ?_
  rintro e W4 ⟨rfl, hb4⟩
  have hW4 : Below W.heap.size W W4 := hW3.trans (hb4.mono hs3)
  go_wp2_with fail
  go_ret
  exact ⟨rfl, hW4⟩
set_option maxHeartbeats 4000000 in
theorem quoteBack_any (s t : ByteArray) (W : World) (hs : s.size ≤ 1048576) (ht : t.size ≤ 1048576) :
    Calls Try.prog 7 #[.string s, .string t] W fun e W' => e = .returned (.bool true) ∧ Below W.heap.size W W' := by
  have hq := quote_any s
  obtain ⟨Q, hQ⟩ : ∃ Q : ByteArray, ⟨(quoteL s.data.toList).toArray⟩ = Q := ⟨_, rfl⟩
  have hQl : Q.data.toList = quoteL s.data.toList := by rw [← hQ]
  have hln := quoteL_length s.data.toList
  have hQs : Q.size = (quoteL s.data.toList).length := by rw [← size_toList, hQl]
  rw [size_toList] at hln
  have hback := unq_any Q
  have hfq : finQ unP Q.data.toList = some s.data.toList := by rw [hQl]; exact finQ_quote _ _ (un_quote _ _ (Nat.le_refl _)).1
  rw [hfq] at hback
  have hss : (⟨((some s.data.toList).getD []).toArray⟩ : ByteArray) = s := by
    apply ByteArray.ext; apply Array.toList_inj.1; simp
  unfold unqRet at hback
  rw [hss] at hback
  simp only [Option.isSome_some, if_true] at hback
  rw [hQ] at hq
  have hlt : ¬ ((Q.size : Int) < (s.size : Int) + 2) := by omega
  have hQb : Q.size ≤ 8388608 := by omega
  clear hQl hfq hss hQ hQs hln
  have hu := unq_any t
  unfold unqRet at hu
  have hfin := finQ_some unP t.data.toList
  have hres : ∀ r, finQ unP t.data.toList = some r → r.length ≤ 8388608 := by
    intro r h
    have := hfin r h
    have h2 := quoteL_length r
    rw [this, size_toList] at h2
    omega
  generalize finQ unP t.data.toList = R at *
  go_enter Try.func7, Try.ntmps7
  go_wp2_with fail
  refine (hq _ (by omega)).mono ?_
  rintro e W1 ⟨rfl, hb1⟩
  have hs1 := hb1.size
  go_wp2_with fail
  refine (hback _ (by omega)).mono ?_
  rintro e W2 ⟨rfl, hb2⟩
  have hW2 : Below W.heap.size W W2 := hb1.trans (hb2.mono hs1)
  have hs2 := hW2.size
  cases R with
  | none =>
    simp only [Option.getD_none, Option.isSome_none] at hu
    clear hfin hres
    go_wp2_with fail
    refine (hu _ (by omega)).mono ?_
    rintro e W3 ⟨rfl, hb3⟩
    have hW3 : Below W.heap.size W W3 := hW2.trans (hb3.mono hs2)
    go_wp2_with fail
    go_ret
    exact ⟨rfl, hW3⟩
  | some o =>
    have ho := hres o rfl
    have hqo := hfin o rfl
    simp only [Option.getD_some, Option.isSome_some, if_true] at hu
    have HQO := Lib.hid hqo
    clear hfin hres hqo
    go_wp2_with fail
    refine (hu _ (by omega)).mono ?_
    rintro e W3 ⟨rfl, hb3⟩
    have hW3 : Below W.heap.size W W3 := hW2.trans (hb3.mono hs2)
    have hs3 := hW3.size
    go_wp2_with fail
    refine (quote_any ⟨o.toArray⟩ _ (by show o.toArray.size ≤ _; simpa using ho)).mono ?_
    rintro e W4 ⟨rfl, hb4⟩
    have hW4 : Below W.heap.size W W4 := hW3.trans (hb4.mono hs3)
    rw [show quoteL (⟨o.toArray⟩ : ByteArray).data.toList = quoteL o from rfl, HQO.out, show (⟨t.data.toList.toArray⟩ : ByteArray) = t by apply ByteArray.ext; simp]
    go_wp2_with fail
    go_ret
    exact ⟨rfl, hW4⟩
end Go.Proofs.Ytiajmngjhbckjaa
