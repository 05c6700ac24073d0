/- The contract of spindleref01.Rune. -/
import Derived.Test.YtiajmngjhbckjaaDoorPlainPure
import Derived.Test.YtiajmngjhbckjaaDoorRows
import Derived.WalkKit
import Derived.ProofKit
import Derived.OpenShut
import Derived.Below
import Derived.Deep.Strs
import Derived.Lib.Hide
import Derived.Deep.DeepCutAuto
import Derived.Deep.CutBlock
import Derived.Outline
import Derived.IntWalk
namespace Go.Proofs.YtiajmngjhbckjaaDoor
open Go.RowKit
set_option maxRecDepth 4000 in
set_option maxHeartbeats 4000000 in
theorem rune_any (s : ByteArray) (i : Nat) (w : World) (hs : s.size ≤ 9223372036854775807) :
    Calls Tryd.prog 48 #[.string s, .int .i64 i] w fun e w' => e = .returned (.int .i64 (runeAt s i)) ∧ w' = w := by
  by_cases h0 : s.size ≤ i
  · have hr : runeAt s i = 0 := if_pos h0
    rw [hr]
    have h0' : (s.size : Int) ≤ (i : Int) := by omega
    go_enter Tryd.func48, Tryd.ntmps48
    go_wp2
    go_ret
    exact ⟨rfl, rfl⟩
  · have h0' : (i : Int) < (s.size : Int) := by omega
    have hlt : i < s.size := by omega
    obtain ⟨c, hc⟩ : ∃ c, byteAt s i = c := ⟨_, rfl⟩
    have hget := (byteAt_get s i hlt).trans hc
    have hc8 : c < 256 := hc ▸ byteAt_lt s i
    by_cases hc128 : c < 128
    · have hr : runeAt s i = 1 := by unfold runeAt; rw [if_neg h0, hc, if_pos hc128]
      rw [hr]
      go_enter Tryd.func48, Tryd.ntmps48
      go_wp2
      go_ret
      exact ⟨rfl, rfl⟩
    · obtain ⟨R, hRR⟩ : ∃ R, runeAt s i = R := ⟨_, rfl⟩
      rw [hRR]
      go_enter Tryd.func48, Tryd.ntmps48
      go_upto_block 0 with (fail)
      go_cut [6, 7, 8] (fun a b d wx => a = .int .i64 ((cls c).1 : Nat) ∧ b = .int .u8 ((cls c).2.1 : Nat) ∧ d = .int .u8 ((cls c).2.2 : Nat) ∧ w = wx)
      case first =>
        go_wp2
        all_goals go_meet
        all_goals (refine ⟨congrArg (Value.int .i64) ?_, congrArg (Value.int .u8) ?_, congrArg (Value.int .u8) ?_, rfl⟩)
        all_goals (unfold cls; repeat' split)
        all_goals first | rfl | (exfalso; omega) | (exfalso; simp only [beq_iff_eq, beq_eq_false_iff_ne, ne_eq] at *; omega)
      obtain ⟨rfl, rfl, rfl, rfl⟩ := hcut
      have hR : R = if (cls c).1 = 0 ∨ s.size - i < (cls c).1 then 0 else if ∀ k, k < (cls c).1 → k = 0 ∨ okR s i (cls c).2.1 (cls c).2.2 k then (cls c).1 else 0 := by
        rw [← hRR]
        unfold runeAt
        rw [if_neg h0, hc, if_neg hc128]
      have hb := cls_lo c hc8
      have hn4 := cls_n c hc8
      clear hRR
      generalize cls c = C at *
      obtain ⟨n, lo, hi⟩ := C
      simp only at *
      obtain ⟨_, hb1, hb2⟩ := hb
      by_cases hbad : n = 0 ∨ s.size - i < n
      · rw [if_pos hbad] at hR
        subst hR
        by_cases hn0 : n = 0
        · subst hn0
          clear hbad
          go_wp2
          go_ret
          exact ⟨rfl, rfl⟩
        · have hlt2 : (s.size : Int) - i < n := by omega
          have hn0' : ((n : Int) == 0) = false := by simp; exact hn0
          clear hbad
          go_wp2
          go_ret
          exact ⟨rfl, rfl⟩
      · rw [if_neg hbad] at hR
        have hn0 : n ≠ 0 := fun e => hbad (.inl e)
        have hni : i + n ≤ s.size := by omega
        have hn0' : ((n : Int) == 0) = false := by simp; exact hn0
        have hlt2 : ¬ ((s.size : Int) - i < n) := by omega
        have HR := Lib.hid hR; clear hR hbad
        go_wp2
        go_loop [7, 8, 9] (fun a b kv => ∃ (k L U : Nat), 1 ≤ k ∧ k ≤ n ∧ kv = .int .i64 k ∧ a = .int .u8 L ∧ b = .int .u8 U ∧ L < 256 ∧ U < 256 ∧ (okR s i lo hi k ↔ L ≤ byteAt s (i + k) ∧ byteAt s (i + k) ≤ U) ∧ ∀ j, j < k → j = 0 ∨ okR s i lo hi j) (fun _ _ kv => n - (intOf kv).toNat)
        case atStart => exact ⟨1, lo, hi, by omega, by omega, rfl, rfl, rfl, hb1, hb2, by unfold okR; rw [if_pos rfl], fun j hj => .inl (by omega)⟩
        case round =>
          obtain ⟨k, L, U, hk1, hkn, rfl, rfl, rfl, hL, hU, hiff, hall⟩ := hrel
          have HALL := Lib.hid hall; have HIFF := Lib.hid hiff; clear hall hiff
          by_cases hkl : k < n
          · have hik : i + k < s.size := by omega
            obtain ⟨x, hx⟩ : ∃ x, byteAt s (i + k) = x := ⟨_, rfl⟩
            have hgk := (byteAt_get s (i + k) hik).trans hx
            have hx8 : x < 256 := hx ▸ byteAt_lt s (i + k)
            have hf0 : (0 : Int) ≤ (i : Int) + k := by omega
            have hf1 : (i : Int) + k < s.size := by omega
            have hf2 : (k : Int) < n := by omega
            by_cases hok : okR s i lo hi k
            · have h1 := HIFF.out.1 hok
              rw [hx] at h1
              obtain ⟨h1, h2⟩ := h1
              have HX := Lib.hid hx; clear hx
              go_wp2
              refine ⟨⟨k + 1, 128, 191, by omega, by omega, by go_num, rfl, rfl, by omega, by omega, ?_, fun j hj => ?_⟩, by simp [intOf]; omega⟩
              · unfold okR
                rw [if_neg (by omega)]
              · by_cases hjk : j = k
                · subst hjk; exact .inr hok
                · exact HALL.out j (by omega)
            · have h1 : x < L ∨ U < x := by
                have this : ¬ (L ≤ byteAt s (i + k) ∧ byteAt s (i + k) ≤ U) := fun h => hok (HIFF.out.2 h)
                rw [hx] at this
                omega
              have hR0 : R = 0 := HR.out.trans (if_neg fun h => hok ((h k hkl).resolve_left (by omega)))
              have HX := Lib.hid hx; clear hx
              subst hR0
              by_cases hxL : x < L
              · clear h1
                go_wp2
                go_ret
                exact ⟨rfl, rfl⟩
              · have hxU : U < x := by omega
                clear h1
                go_wp2
                all_goals go_ret
                all_goals exact ⟨rfl, rfl⟩
          · obtain rfl : k = n := by omega
            have hRn : R = k := HR.out.trans (if_pos HALL.out)
            subst hRn
            go_wp2
            go_ret
            exact ⟨rfl, rfl⟩
end Go.Proofs.YtiajmngjhbckjaaDoor
