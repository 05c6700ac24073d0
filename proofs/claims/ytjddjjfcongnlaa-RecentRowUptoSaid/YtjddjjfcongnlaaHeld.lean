/- The law's held: the contract. -/
import Derived.Test.YtjddjjfcongnlaaSame
namespace Go.Proofs.Ytjddjjfcongnlaa
open Go.RowKit Go.Maps
theorem one_new_own (w : World) (x : Value) (base : Nat) (e : TypeId) (hb : base ≤ w.heap.size) : (w.alloc (.cells #[x] e)).ownsRow base e 1 (.slice (some ⟨w.heap.size, 0, none⟩) 1 1) 1 [x] :=
  ⟨rfl, .inr ⟨_, 1, _, rfl, hb, heap_alloc_new w _, by omega, by simp only [maxLen]; omega, rfl, rfl⟩⟩
theorem belowN {B : Nat} {a w : World} (h : Below B a w) (n : Nat) : Below B a (w.drewN n) := ⟨h.os, h.tape, h.output, h.size, h.block⟩
set_option maxRecDepth 100000 in
set_option maxHeartbeats 4000000 in
theorem held_any (N : Nat) (A : Option Addr) (m c : Nat) (us : List Int) (B : Nat) (w : World) (h : Reads w B 1 A m (us.map ekInt)) (hB : B ≤ w.heap.size) (hm : m ≤ 17592186043904) (hN : N ≤ 9223372036854775807) :
    Calls Try.prog 24 #[.int .i64 N, .slice A m c] w fun e w' => ∃ v, e = .returned v ∧ w'.ownsRow w.heap.size 3 1 v (hb N [] us.reverse).length ((hb N [] us.reverse).map ekInt) ∧ Below w.heap.size w w' := by
  have hln : us.length = m := by have := h.1; simpa using this
  obtain ⟨i0, hi0, hz0, hz1, hz2⟩ := info_parts infoKInt
  obtain ⟨R, hR⟩ : ∃ R, hb N [] us.reverse = R := ⟨_, rfl⟩
  rw [hR]
  have HR := Lib.hid hR; clear hR
  have HH := Lib.hid h; clear h
  have HLN := Lib.hid hln; clear hln
  go_enter Try.func24, Try.ntmps24
  go_wp2
  go_loopw [5, 6] (fun v iv wr => ∃ (k : Nat) (L : List Int), k ≤ m ∧ iv = .int .i64 ((k : Int) - 1) ∧ wr.ownsRow w.heap.size 3 1 v L.length (L.map ekInt) ∧ Below w.heap.size w wr ∧ hb N L (us.take k).reverse = R ∧ L.length + k ≤ m) (fun _ iv _ => (intOf iv + 1).toNat)
  case atStart => exact ⟨m, [], by omega, rfl, ⟨rfl, .inl ⟨rfl, rfl⟩⟩, Below.refl _ _, by rw [List.take_of_length_le (by have := HLN.out; omega)]; exact HR.out, by simp⟩
  case round =>
    clear HR
    obtain ⟨k, L, hk, rfl, hown, hbw, hrel, hlk⟩ := hrel
    have hbs := hbw.size
    obtain ⟨Al, cl, rfl⟩ := own_sliceInt hown
    have HOWN := Lib.hid hown; have HREL := Lib.hid hrel
    clear hown hrel
    cases k with
    | zero =>
      have hRL : R = L := by rw [← HREL.out]; rfl
      have HRL := Lib.hid hRL; clear hRL HREL
      go_wp2
      go_ret
      rw [HRL.out]
      exact ⟨_, rfl, HOWN.out, hbw⟩
    | succ k =>
      rw [show ((k + 1 : Nat) : Int) - 1 = (k : Int) by omega]
      by_cases hln : L.length < N
      · have hln' : (L.length : Int) < (N : Int) := by omega
        have hrd := HH.out.below (hbw.mono hB)
        obtain ⟨ad, u, rfl, had, hu, hcell⟩ := hrd.at_ (k := k) (by omega)
        obtain ⟨x, hx, rfl⟩ : ∃ x, us[k]? = some x ∧ ekInt x = u := by simpa using hu
        have htk : (us.take (k + 1)).reverse = x :: (us.take k).reverse := by rw [take_snoc' us k x hx]; simp
        rw [htk] at HREL
        have hr2 := HREL.out
        rw [hb, if_pos hln] at hr2
        have HR2 := Lib.hid hr2
        clear hr2 htk hx hu hrd HREL hln
        unfold ekInt at hcell
        have hk1 : (k : Int) < (m : Int) := by omega
        have hk0 : (0 : Int) ≤ (k : Int) := by omega
        go_wp2
        obtain ⟨wo, rfl⟩ : ∃ wo : World, wo = wr := ⟨_, rfl⟩
        go_loopw [7, 8] (fun bv jv wr => ∃ (j q : Nat), j ≤ L.length ∧ jv = .int .i64 j ∧ bv = .bool (decide (x ∈ L.take j)) ∧ wr = wo.drewN q) (fun _ jv _ => L.length - (intOf jv).toNat)
        case atStart => exact ⟨0, 0, by omega, rfl, by simp, rfl⟩
        case round =>
          obtain ⟨j, q, hj, rfl, rfl, rfl⟩ := hrel
          by_cases hlt : j < L.length
          · obtain ⟨ad', u', e', had', hu', hcell'⟩ := (Reads.of_own HOWN.out).at_ hlt
            subst e'
            obtain ⟨y, hy, rfl⟩ : ∃ y, L[j]? = some y ∧ ekInt y = u' := by simpa using hu'
            have htk : L.take (j + 1) = L.take j ++ [y] := take_snoc' L j y hy
            unfold ekInt at hcell'
            have HTK := Lib.hid htk
            clear htk hy hu'
            have hj1 : (j : Int) < (L.length : Int) := by omega
            have hj0 : (0 : Int) ≤ (j : Int) := by omega
            cases hd : decide (x ∈ L.take j)
            · by_cases hyx : y = x
              · have b1 : (y == x) = true := by simpa using hyx
                have hd2 : decide (x ∈ L.take (j + 1)) = true := by rw [HTK.out]; simp [hyx]
                have HD2 := Lib.hid hd2
                clear hd hd2 hyx
                go_wp2
                go_quiet (fail)
                go_wp2
                exact ⟨⟨j + 1, q + nq, by omega, by go_num, by rw [HD2.out], rfl⟩, by simp [intOf]; omega⟩
              · have b1 : (y == x) = false := by simpa using hyx
                have hd2 : decide (x ∈ L.take (j + 1)) = false := by
                  have := of_decide_eq_false hd
                  rw [HTK.out]; simp [this, Ne.symm hyx]
                have HD2 := Lib.hid hd2
                clear hd hd2 hyx
                go_wp2
                go_quiet (fail)
                go_wp2
                exact ⟨⟨j + 1, q + nq, by omega, by go_num, by rw [HD2.out], rfl⟩, by simp [intOf]; omega⟩
            · have hd2 : decide (x ∈ L.take (j + 1)) = true := by
                have := of_decide_eq_true hd
                rw [HTK.out]; simp [this]
              have HD2 := Lib.hid hd2
              clear hd hd2
              go_wp2
              go_quiet (fail)
              go_wp2
              exact ⟨⟨j + 1, q + nq, by omega, by go_num, by rw [HD2.out], rfl⟩, by simp [intOf]; omega⟩
          · obtain rfl : j = L.length := by omega
            rw [List.take_of_length_le (Nat.le_refl _)]
            by_cases hxL : x ∈ L
            · have hr3 := HR2.out
              rw [if_pos hxL] at hr3
              rw [decide_eq_true hxL]
              clear hxL hlt
              go_wp2
              refine ⟨⟨k, L, by omega, by go_num, HOWN.out, belowN hbw q, hr3, by omega⟩, by simp [intOf]⟩
            · have hr3 := HR2.out
              rw [if_neg hxL] at hr3
              rw [decide_eq_false hxL]
              have HR3 := Lib.hid hr3
              clear hxL hlt hr3 HR2
              have hc2 : (wo.drewN q).cell? (ad.add k) = some (.int .i64 x) := hcell
              have hW := belowN hbw q
              have hWs := hW.size
              have hownW : (wo.drewN q).ownsRow w.heap.size 3 1 (.slice Al L.length cl) L.length (L.map ekInt) := HOWN.out
              generalize wo.drewN q = W at *
              have hlit := one_new_own W (.int .i64 x) w.heap.size 3 hWs
              have hnews := (Reads.of_own hownW).alloc (Nat.le_refl _) (.cells #[.int .i64 x] 3)
              clear hcell HOWN
              go_wp2_with (
                at_builtin
                refine wpList_append_any _ rfl (.tmp 46) (.tmp 47) 31 rfl w.heap.size 3 i0 _ 1 8 Try.underlying31 hi0 hz0 hz1 hz2 rfl (by omega) _ 1 _ rfl hlit W.heap.size Al L.length cl (L.map ekInt) rfl hnews (by intro u hu; obtain ⟨y, _, rfl⟩ := List.mem_map.1 hu; rfl) (by simp only [maxLen]; omega) (by omega) (by rw [World.size_alloc]; omega) ?_
                intro v2 w2 hown3 hg2 hat2)
              have hb2 : Below w.heap.size w w2 := (hW.alloc hWs _).grown hg2 (by rw [World.size_alloc]; omega) (fun k hk => by
                have := (hlit.lt k hk).1
                exact this)
              refine ⟨⟨k, x :: L, by omega, by go_num, by rw [List.length_cons, Nat.add_comm]; exact hown3, hb2, HR3.out, by simp only [List.length_cons]; omega⟩, by simp [intOf]⟩
      · have hRL : R = L := by rw [← HREL.out, hb_stop hln]
        have HRL := Lib.hid hRL; clear hRL HREL
        have hln' : ¬ ((L.length : Int) < (N : Int)) := by omega
        go_wp2
        go_ret
        rw [HRL.out]
        exact ⟨_, rfl, HOWN.out, hbw⟩
end Go.Proofs.Ytjddjjfcongnlaa
