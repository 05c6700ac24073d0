/- The law's same, and held: the contracts. -/
import Derived.Test.YtjddjjfcongnlaaOrdJInt
import Derived.Test.YtjddjjfcongnlaaLastPure
import Derived.Deep.QuietTactic
import Derived.BigQuiet
namespace Go.Proofs.Ytjddjjfcongnlaa
open Go.RowKit Go.Maps
theorem take_snoc' {α : Type} (l : List α) (k : Nat) (b : α) (h : l[k]? = some b) : l.take (k + 1) = l.take k ++ [b] := by
  rw [List.take_add_one, h]; rfl
theorem same_any (A A' : Option Addr) (n n' c c' : Nat) (l l' : List Int) (B B' : Nat) (w : World) (h : Reads w B 1 A n (l.map ekInt)) (h' : Reads w B' 1 A' n' (l'.map ekInt)) (hn : n ≤ 9223372036854775807) (hn' : n' ≤ 9223372036854775807) :
    Calls Try.prog 22 #[.slice A n c, .slice A' n' c'] w fun e w' => e = .returned (.bool (decide (l = l'))) ∧ ∃ m, w' = w.drewN m := by
  have hln : l.length = n := by have := h.1; simpa using this
  have hln' : l'.length = n' := by have := h'.1; simpa using this
  by_cases hnn : n = n'
  · subst hnn
    have hne : ((n : Int) != (n : Int)) = false := by simp
    go_enter Try.func22, Try.ntmps22
    go_wp2
    go_loopw [5] (fun i wr => ∃ (k m : Nat), k ≤ n ∧ i = .int .i64 k ∧ wr = w.drewN m ∧ l.take k = l'.take k) (fun i _ => n - (intOf i).toNat)
    case atStart => exact ⟨0, 0, by omega, rfl, rfl, rfl⟩
    case round =>
      obtain ⟨k, m, hk, rfl, rfl, ht⟩ := hrel
      have HT := Lib.hid ht; clear ht
      by_cases hlt : k < n
      · obtain ⟨ad, u, rfl, _, hx, hcell⟩ := h.at_ hlt
        obtain ⟨b, hbx, rfl⟩ : ∃ b, l[k]? = some b ∧ ekInt b = u := by simpa using hx
        obtain ⟨ad', u, rfl, _, hx', hcell'⟩ := h'.at_ hlt
        obtain ⟨b', hbx', rfl⟩ : ∃ b, l'[k]? = some b ∧ ekInt b = u := by simpa using hx'
        clear hx hx'
        have HX := Lib.hid hbx; have HX' := Lib.hid hbx'; clear hbx hbx'
        unfold ekInt at hcell hcell'
        have hk0 : (0 : Int) ≤ (k : Int) := by omega
        have hk1 : (k : Int) < (n : Int) := by omega
        go_wp2
        go_quiet (fail)
        go_wp2
        · have ht : (b != b') = true := by assumption
          have hd : decide (l = l') = false := by
            rw [decide_eq_false_iff_not]; intro e; subst e
            rw [HX.out] at HX'; have := Option.some.inj HX'.out; subst this; simp at ht
          go_ret
          exact ⟨by rw [hd]; rfl, m + nq, by rw [World.drewN_drewN]⟩
        · have ht : (b != b') = false := by assumption
          have hbb : b = b' := by
            simpa using ht
          exact ⟨⟨k + 1, m + nq, by omega, by go_num, rfl, by rw [take_snoc' l k b HX.out, take_snoc' l' k b' HX'.out, HT.out, hbb]⟩, by simp [intOf]; omega⟩
      · obtain rfl : k = n := by omega
        have e1 : l.take k = l := List.take_of_length_le (by omega)
        have e2 : l'.take k = l' := List.take_of_length_le (by omega)
        have hd : decide (l = l') = true := by simpa [e1, e2] using HT.out
        have HD := Lib.hid hd; clear hd e1 e2
        go_wp2
        go_ret
        exact ⟨by rw [HD.out]; rfl, m, rfl⟩
  · have hne : ((n : Int) != (n' : Int)) = true := by simp; omega
    have hd : decide (l = l') = false := by
      rw [decide_eq_false_iff_not]; intro e; subst e; omega
    rw [hd]; clear hd
    go_enter Try.func22, Try.ntmps22
    go_wp2
    go_ret
    exact ⟨rfl, 0, rfl⟩
end Go.Proofs.Ytjddjjfcongnlaa
