/- The contracts of spindleref01.Same and Copy. -/
import Derived.Test.YtiajmngjhbckjaaDoorCrc
import Derived.Deep.QuietTactic
import Derived.BigQuiet
namespace Go.Proofs.YtiajmngjhbckjaaDoor
open Go.RowKit
theorem same_any (A A' : Option Addr) (n n' c c' : Nat) (l l' : List Nat) (B B' : Nat) (w : World) (h : Reads w B 1 A n (l.map byt)) (h' : Reads w B' 1 A' n' (l'.map byt)) (hn : n ≤ 9223372036854775807) (hn' : n' ≤ 9223372036854775807) :
    Calls Tryd.prog 17 #[.slice A n c, .slice A' n' c'] w fun e w' => e = .returned (.bool (decide (l = l'))) ∧ ∃ m, w' = w.drewN m := by
  have hln : l.length = n := by have := h.1; simpa using this
  have hln' : l'.length = n' := by have := h'.1; simpa using this
  by_cases hnn : n = n'
  · subst hnn
    have hne : ((n : Int) != (n : Int)) = false := by simp
    go_enter Tryd.func17, Tryd.ntmps17
    go_wp2
    go_loopw [5] (fun i wr => ∃ (k m : Nat), k ≤ n ∧ i = .int .i64 k ∧ wr = w.drewN m ∧ l.take k = l'.take k) (fun i _ => n - (intOf i).toNat)
    case atStart => exact ⟨0, 0, by omega, rfl, rfl, rfl⟩
    case round =>
      obtain ⟨k, m, hk, rfl, rfl, ht⟩ := hrel
      have HT := Lib.hid ht; clear ht
      by_cases hlt : k < n
      · obtain ⟨ad, u, rfl, _, hx, hcell⟩ := h.at_ hlt
        obtain ⟨b, hbx, rfl⟩ : ∃ b, l[k]? = some b ∧ byt b = u := by simpa using hx
        obtain ⟨ad', u, rfl, _, hx', hcell'⟩ := h'.at_ hlt
        obtain ⟨b', hbx', rfl⟩ : ∃ b, l'[k]? = some b ∧ byt b = u := by simpa using hx'
        clear hx hx'
        have HX := Lib.hid hbx; have HX' := Lib.hid hbx'; clear hbx hbx'
        have hk0 : (0 : Int) ≤ (k : Int) := by omega
        have hk1 : (k : Int) < (n : Int) := by omega
        go_wp2
        go_quiet (fail)
        go_wp2
        · have ht : ((b : Int) != (b' : Int)) = true := by assumption
          have hd : decide (l = l') = false := by
            rw [decide_eq_false_iff_not]; intro e; subst e
            rw [HX.out] at HX'; have := Option.some.inj HX'.out; subst this; simp at ht
          go_ret
          exact ⟨by rw [hd]; rfl, m + nq, by rw [World.drewN_drewN]⟩
        · have ht : ((b : Int) != (b' : Int)) = false := by assumption
          have hbb : b = b' := by
            have : (b : Int) = (b' : Int) := by simpa using ht
            omega
          exact ⟨⟨k + 1, m + nq, by omega, by go_num, rfl, by rw [take_snoc' l k b HX.out, take_snoc' l' k b' HX'.out, HT.out, hbb]⟩, by simp [intOf]; omega⟩
      · obtain rfl : k = n := by omega
        have e1 : l.take k = l := List.take_of_length_le (by omega)
        have e2 : l'.take k = l' := List.take_of_length_le (by omega)
        have hd : decide (l = l') = true := by simpa [e1, e2] using HT.out
        have HD := Lib.hid hd; clear hd e1 e2
        go_wp2
        go_ret
        exact ⟨by rw [HD.out]; rfl, m, rfl⟩
  · have hne : ((n : Int) != (n' : Int)) = true := by simp; omega
    have hd : decide (l = l') = false := by
      rw [decide_eq_false_iff_not]; intro e; subst e; omega
    rw [hd]; clear hd
    go_enter Tryd.func17, Tryd.ntmps17
    go_wp2
    go_ret
    exact ⟨rfl, 0, rfl⟩
theorem info5 : (Tryd.prog.info? 5).map (fun i => (i.zero, i.size, i.bytes)) = some (some (.int .u8 0), 1, 1) := by kernel_rfl
/-- Behind an append onto nothing. -/
theorem grown_new {w w' : World} (hg : w.grownBy w' (Value.slice none 0 0).ownBlock) : Below w.heap.size w w' :=
  (Below.refl _ _).grown hg (Nat.le_refl _) (by simp [Value.ownBlock])
theorem copy_any (A : Option Addr) (n c : Nat) (l : List Nat) (B : Nat) (w : World) (h : Reads w B 1 A n (l.map byt)) (hn : n ≤ 140737488351232) :
    Calls Tryd.prog 22 #[.slice A n c] w fun e w' => ∃ v, e = .returned v ∧ w'.ownsRow w.heap.size 5 1 v n (l.map byt) ∧ Below w.heap.size w w' := by
  obtain ⟨i0, hi0, hz0, hz1, hz2⟩ := info_parts info5
  have h1 : ∀ u ∈ l.map byt, u.oneCell' = true := by
    intro u hu
    obtain ⟨b, _, rfl⟩ := List.mem_map.1 hu
    rfl
  go_enter Tryd.func22, Tryd.ntmps22
  go_wp2_with (at_builtin; refine wpList_append_any _ rfl (.tmp 4) (.tmp 5) _ rfl w.heap.size 5 i0 _ 1 1 Tryd.underlying26 hi0 hz0 hz1 hz2 rfl (by omega) (.slice none 0 0) 0 [] rfl ⟨by simp, .inl ⟨rfl, rfl⟩⟩ B A n c (l.map byt) rfl h h1 (by simp only [maxLen]; omega) (by omega) (Nat.le_refl _) ?_; intro v1 w1 hown1 hg1 hat1)
  go_ret
  exact ⟨_, rfl, by simpa using hown1, grown_new hg1⟩
end Go.Proofs.YtiajmngjhbckjaaDoor
