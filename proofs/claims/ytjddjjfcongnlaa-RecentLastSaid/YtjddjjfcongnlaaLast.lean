/- RecentLast: the walk. -/
import Derived.Test.YtjddjjfcongnlaaHeld
import Derived.Test.YtjddjjfcongnlaaAlive
namespace Go.Proofs.Ytjddjjfcongnlaa
open Go.RowKit Go.Maps
theorem hb_mem (n : Nat) : ∀ (r l : List Int) (y : Int), y ∈ hb n l r → y ∈ l ∨ y ∈ r
  | [], l, y, h => .inl h
  | x :: r, l, y, h => by
    unfold hb at h
    split at h
    · split at h
      · rcases hb_mem n r l y h with h | h
        · exact .inl h
        · exact .inr (List.mem_cons_of_mem _ h)
      · rcases hb_mem n r (x :: l) y h with h | h
        · rcases List.mem_cons.1 h with rfl | h
          · exact .inr List.mem_cons_self
          · exact .inl h
        · exact .inr (List.mem_cons_of_mem _ h)
    · exact .inl h
theorem zr_touch_no (R : List Int) (x : Int) (hx : x ∉ R) : aTouch (zr R) x = zr R := by
  unfold aTouch zr
  have h1 : ∀ y ∈ R.map fun k => (k, 0), ¬ y.1 = x := by
    intro y hy
    obtain ⟨z, hz, rfl⟩ := List.mem_map.1 hy
    rintro rfl
    exact hx hz
  rw [List.filter_eq_self.2 (fun y hy => by simpa using h1 y hy), List.filter_eq_nil_iff.2 (fun y hy => by simpa using h1 y hy), List.append_nil]
theorem zr_keys (R : List Int) (free : Bool) : aKeysInt free (zr R) = R := by
  unfold aKeysInt zr
  rw [List.filter_map, List.map_map, List.filter_eq_self.2 (by intro a _; simp)]
  show R.map (fun x => x) = R
  simp
set_option maxRecDepth 100000 in
set_option maxHeartbeats 4000000 in
theorem lastLaw_any (n : Int) (A : Option Addr) (m c : Nat) (us : List Int) (w : World) (h : Reads w w.heap.size 1 A m (us.map ekInt)) (hok : ∀ x ∈ us, okInt x) (hm : m ≤ 17592186043904) (hn : n ≤ 9223372036854775807) :
    Calls Try.prog 5 #[.int .i64 n, .slice A m c] w fun e w' => e = .returned (.bool true) ∧ Below w.heap.size w w' := by
  have hal := alive_any
  by_cases hn1 : n < 1
  · go_enter Try.func5, Try.ntmps5
    go_wp2_with fail
    refine (newInt w).mono ?_
    rintro e w1 ⟨o, F1, rfl, _, _, hb1⟩
    have hs1 := hb1.size
    go_wp2_with fail
    refine (hal w1).mono ?_
    rintro e w2 ⟨rfl, hb2⟩
    go_wp2_with fail
    go_ret
    exact ⟨rfl, hb1.trans (hb2.mono hs1)⟩
  obtain ⟨N, rfl⟩ : ∃ N : Nat, n = N := ⟨n.toNat, by omega⟩
  have hN : 1 ≤ N := by omega
  have hln : us.length = m := by have := h.1; simpa using this
  have HH := Lib.hid h; have HOK := Lib.hid hok; have HLN := Lib.hid hln
  clear h hok hln
  have hlen0 := fun r => (hb_len N r [] (by simp))
  have HLEN := Lib.hid hlen0; clear hlen0
  go_enter Try.func5, Try.ntmps5
  go_wp2_with fail
  refine (newInt w).mono ?_
  rintro e w1 ⟨o, F1, rfl, h1, _, hb1⟩
  have HO1 := Lib.hid h1; clear h1
  go_wp2
  go_loopw [6] (fun iv wr => ∃ (i cnt : Nat) (F : List Nat), i ≤ m ∧ iv = .int .i64 i ∧ Hid (IsOrderInt wr w.heap.size o cnt F (zr (hb N [] (us.take i).reverse))) ∧ cnt ≤ i ∧ Below w.heap.size w wr) (fun iv _ => m - (intOf iv).toNat)
  case atStart => exact ⟨0, 0, F1, by omega, rfl, HO1, by omega, hb1⟩
  case round =>
    clear HO1 hb1
    obtain ⟨i, cnt, F, hi, rfl, ho, hcnt, hbw⟩ := hrel
    have hs := hbw.size
    by_cases hlt : i < m
    · have hrd := HH.out.below hbw
      obtain ⟨ad, u, rfl, had, hu, hcell⟩ := hrd.at_ (k := i) hlt
      obtain ⟨x, hx, rfl⟩ : ∃ x, us[i]? = some x ∧ ekInt x = u := by simpa using hu
      have hokx : okInt x := HOK.out x (List.mem_of_getElem? hx)
      have htk : (us.take (i + 1)).reverse = x :: (us.take i).reverse := by rw [take_snoc' us i x hx]; simp
      have hstep : hb N [] (us.take (i + 1)).reverse = lru N (hb N [] (us.take i).reverse) x := by rw [htk, hb_step N hN]
      obtain ⟨R, hR⟩ : ∃ R, hb N [] (us.take i).reverse = R := ⟨_, rfl⟩
      have hRl := HLEN.out (us.take i).reverse
      have hRn := hb_nodup N (us.take i).reverse [] List.nodup_nil
      have hRm : ∀ y ∈ R, okInt y := fun y hy => by
        rw [← hR] at hy
        rcases hb_mem N _ _ y hy with h | h
        · cases h
        · exact HOK.out y (List.mem_of_mem_take (List.mem_reverse.1 h))
      have hR1l := (HLEN.out (us.take (i + 1)).reverse).1
      rw [hR] at hstep hRl hRn ho
      have hRlen := hRl.1
      have HST := Lib.hid hstep; have HOX := Lib.hid hokx; have HRN := Lib.hid hRn; have HRM := Lib.hid hRm
      rw [hstep] at hR1l
      clear hrd hu hx hokx htk hstep hR hRl hRn hRm
      unfold ekInt at hcell
      have hk1 : (i : Int) < (m : Int) := by omega
      have hk0 : (0 : Int) ≤ (i : Int) := by omega
      have hnlt : ∀ R2 : List Int, R2.length ≤ N → ¬ ((N : Int) < (R2.length : Int)) := fun R2 h => by omega
      have HNL := Lib.hid hnlt; clear hnlt
      have htc := touchInt ho.out HOX.out
      rw [zr_has] at htc
      by_cases hxR : x ∈ R
      · rw [decide_eq_true hxR, zr_touch R x HRN.out hxR] at htc
        have hl2 : lru N R x = R.erase x ++ [x] := if_pos hxR
        rw [hl2] at HST hR1l
        clear hxR hl2
        go_wp2_with fail
        refine htc.mono ?_
        rintro e w2 ⟨rfl, ⟨F2, h2, _⟩, hk2⟩
        have hb2 : Below w.heap.size w w2 := hbw.trans (hk2.below (fun y hy => (ho.out.lt y hy).1) hs)
        have HO2 := Lib.hid h2; clear h2
        go_wp2_with fail
        refine (lenRInt HO2.out).mono ?_
        rintro e w3 ⟨rfl, rfl⟩
        rw [zr_length]
        have hcmp := HNL.out _ hR1l
        generalize ((R.erase x ++ [x]).length : Int) = q at *
        go_wp2_with fail
        refine ⟨⟨i + 1, cnt, F2, by omega, by go_num, ?_, by omega, hb2⟩, by simp [intOf]; omega⟩
        rw [HST.out]; exact HO2
      · rw [decide_eq_false hxR, zr_touch_no R x hxR] at htc
        have hl2 : lru N R x = (if N ≤ R.length then R.tail else R) ++ [x] := if_neg hxR
        rw [hl2] at HST hR1l
        have HXR := Lib.hid hxR
        clear hxR hl2
        go_wp2_with fail
        refine htc.mono ?_
        rintro e w2 ⟨rfl, ⟨F2, h2, _⟩, hk2⟩
        have hb2 : Below w.heap.size w w2 := hbw.trans (hk2.below (fun y hy => (ho.out.lt y hy).1) hs)
        have hs2 := hb2.size
        have HO2 := Lib.hid h2; clear h2
        have hcell2 : w2.cell? (ad.add i) = some (.int .i64 x) := by
          have e1 := hbw.cell (p := ad.add i) (by rw [block_of_add]; exact had)
          have e2 := hb2.cell (p := ad.add i) (by rw [block_of_add]; exact had)
          exact e2.trans (e1.symm.trans hcell)
        go_wp2_with fail
        refine (lenRInt HO2.out).mono ?_
        rintro e w3 ⟨rfl, rfl⟩
        rw [zr_length]
        by_cases hfull : N ≤ R.length
        · obtain ⟨k0, R', rfl⟩ : ∃ k0 R', R = k0 :: R' := by
            cases R with
            | nil => simp at hfull; omega
            | cons a b => exact ⟨a, b, rfl⟩
          rw [if_pos hfull] at HST hR1l
          have hc1 : (N : Int) ≤ (R'.length : Int) + 1 := by simp only [List.length_cons] at hfull; omega
          have hk0n : k0 ≠ x := fun e => HXR.out (e ▸ List.mem_cons_self)
          have hxR' : x ∉ R' := fun h => HXR.out (List.mem_cons_of_mem _ h)
          have hok0 := HRM.out k0 List.mem_cons_self
          have hold := oldestInt HO2.out (by omega)
          rw [zr_keys] at hold
          have hold' : oldVInt (k0 :: R').head? = .tuple #[.int .i64 k0, .bool true] := rfl
          rw [hold'] at hold
          clear hold' hfull
          have HOK0 := Lib.hid hok0
          clear hok0
          go_wp2_with fail
          refine hold.mono ?_
          rintro e w4 ⟨rfl, hb4⟩
          have HO4 := Lib.hid (HO2.out.below hb4)
          have hb4' : Below w.heap.size w w4 := hb2.trans (hb4.mono hs2)
          have hs4 := hb4'.size
          have hcell4 : w4.cell? (ad.add i) = some (.int .i64 x) := (hb4.cell (p := ad.add i) (by rw [block_of_add]; omega)).trans hcell2
          have hd := dropInt HO4.out HOK0.out
          rw [zr_has, decide_eq_true List.mem_cons_self, zr_drop _ _ HRN.out, List.erase_cons_head] at hd
          go_wp2_with fail
          refine hd.mono ?_
          rintro e w5 ⟨rfl, ⟨F5, h5, _⟩, hk5⟩
          have hb5 : Below w.heap.size w w5 := hb4'.trans (hk5.below (fun y hy => (HO4.out.lt y hy).1) hs4)
          have hs5 := hb5.size
          have hcell5 : w5.cell? (ad.add i) = some (.int .i64 x) := by
            have e1 := hb4'.cell (p := ad.add i) (by rw [block_of_add]; exact had)
            have e2 := hb5.cell (p := ad.add i) (by rw [block_of_add]; exact had)
            exact e2.trans (e1.symm.trans hcell4)
          have ha := addInt h5 HOX.out (by omega) hs5
          rw [zr_has, decide_eq_false hxR', zr_add R' x hxR'] at ha
          have HO5 := Lib.hid h5; clear h5
          go_wp2_with fail
          refine ha.mono ?_
          rintro e w6 ⟨rfl, ⟨F6, h6, _, _⟩, hk6⟩
          have hb6 : Below w.heap.size w w6 := hb5.trans (hk6.below (fun y hy => (HO5.out.lt y hy).1) hs5)
          have HO6 := Lib.hid h6; clear h6
          go_wp2_with fail
          refine (lenRInt HO6.out).mono ?_
          rintro e w7 ⟨rfl, rfl⟩
          rw [zr_length]
          have hcmp : ¬ ((N : Int) < ((R' ++ [x]).length : Int)) := by
            have h1 : (R' ++ [x]).length ≤ N := hR1l
            omega
          generalize ((R' ++ [x]).length : Int) = q at *
          go_wp2_with fail
          refine ⟨⟨i + 1, cnt + 1, F6, by omega, by go_num, ?_, by omega, hb6⟩, by simp [intOf]; omega⟩
          rw [HST.out]; exact HO6
        · rw [if_neg hfull] at HST hR1l
          have hc1 : ¬ ((N : Int) ≤ (R.length : Int)) := by omega
          clear hfull
          have ha := addInt HO2.out HOX.out (by omega) hs2
          rw [zr_has, decide_eq_false HXR.out, zr_add R x HXR.out] at ha
          go_wp2_with fail
          refine ha.mono ?_
          rintro e w6 ⟨rfl, ⟨F6, h6, _, _⟩, hk6⟩
          have hb6 : Below w.heap.size w w6 := hb2.trans (hk6.below (fun y hy => (HO2.out.lt y hy).1) hs2)
          have HO6 := Lib.hid h6; clear h6
          go_wp2_with fail
          refine (lenRInt HO6.out).mono ?_
          rintro e w7 ⟨rfl, rfl⟩
          rw [zr_length]
          have hcmp : ¬ ((N : Int) < ((R ++ [x]).length : Int)) := by omega
          generalize ((R ++ [x]).length : Int) = q at *
          go_wp2_with fail
          refine ⟨⟨i + 1, cnt + 1, F6, by omega, by go_num, ?_, by omega, hb6⟩, by simp [intOf]; omega⟩
          rw [HST.out]; exact HO6
    · obtain rfl : i = m := by omega
      rw [List.take_of_length_le (by have := HLN.out; omega)] at ho
      obtain ⟨R, hR⟩ : ∃ R, hb N [] us.reverse = R := ⟨_, rfl⟩
      have hRl := (HLEN.out us.reverse).2
      have hheld := held_any N A i c us w.heap.size
      rw [hR] at ho hRl hheld
      have hka := ho.out.keysAre (by omega) 4 false
      rw [zr_keys] at hka
      have hall := allOfInt hka.1 hka.2
      simp only [List.length_nil, List.length_reverse] at hRl
      have HRL := Lib.hid hRl
      clear hR hRl hka hlt
      go_wp2_with fail
      refine hall.mono ?_
      rintro e w2 ⟨v1, rfl, hv1, hb2⟩
      obtain ⟨A1, c1, rfl⟩ := own_sliceInt hv1
      have hb2' : Below w.heap.size w w2 := hbw.trans (hb2.mono hs)
      have hs2 := hb2'.size
      have HV1 := Lib.hid hv1; clear hv1
      go_wp2_with fail
      refine (hheld w2 (HH.out.below hb2') hs2 hm (by omega)).mono ?_
      rintro e w3 ⟨v2, rfl, hv2, hb3⟩
      obtain ⟨A2, c2, rfl⟩ := own_sliceInt hv2
      have hb3' : Below w.heap.size w w3 := hb2'.trans (hb3.mono hs2)
      have hs3 := hb3'.size
      have HV2 := Lib.hid hv2; clear hv2
      have hr1 := (Reads.of_own HV1.out).below hb3
      have hr2 := Reads.of_own HV2.out
      have hrl : R.length ≤ 9223372036854775807 := by have := HRL.out; have := HLN.out; omega
      have hsm := same_any A1 A2 R.length R.length c1 c2 R R _ _ w3 hr1 hr2 hrl hrl
      rw [decide_eq_true (Eq.refl R)] at hsm
      clear hr1 hr2 hrl
      go_wp2_with fail
      refine hsm.mono ?_
      rintro e w4 ⟨rfl, q, rfl⟩
      have hb4 : Below w.heap.size w (w3.drewN q) := belowN hb3' q
      have hs4 := hb4.size
      go_wp2_with fail
      refine (hal _).mono ?_
      rintro e w5 ⟨rfl, hb5⟩
      go_wp2_with fail
      go_ret
      exact ⟨rfl, hb4.trans (hb5.mono hs4)⟩
end Go.Proofs.Ytjddjjfcongnlaa
