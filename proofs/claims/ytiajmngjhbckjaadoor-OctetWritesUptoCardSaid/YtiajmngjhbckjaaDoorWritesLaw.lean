/- The law OctetWrites: the walk. -/
import Derived.Test.YtiajmngjhbckjaaDoorWS
import Derived.Test.YtiajmngjhbckjaaDoorHeads
import Derived.Test.YtiajmngjhbckjaaDoorOpenW
namespace Go.Proofs.YtiajmngjhbckjaaDoor
open Go.RowKit
/-- All bytes of so many calls. -/
def wAll (xs : List WIt) : List Nat := xs.flatMap wBy
theorem wAll_snoc (xs : List WIt) (i : Nat) (x : WIt) (h : xs[i]? = some x) : wAll (xs.take (i + 1)) = wAll (xs.take i) ++ wBy x := by
  unfold wAll
  rw [take_snoc' xs i x h, List.flatMap_append]; simp
theorem wAll_len : ∀ xs : List WIt, (wAll xs).length ≤ xs.length * 2097152 + (xs.map fun x => x.l.length).sum
  | [] => by simp [wAll]
  | x :: xs => by
    have h1 := wAll_len xs
    have h2 := wBytes_len x.j x.z x.n x.l x.s
    unfold wAll at *
    rw [List.flatMap_cons, List.length_append, List.length_cons, List.map_cons, List.sum_cons]
    show (wBytes x.j x.z x.n x.l x.s).length + _ ≤ _
    omega
theorem wAll_le (xs : List WIt) (i : Nat) : (wAll (xs.take i)).length ≤ (wAll xs).length := by
  unfold wAll
  conv => rhs; rw [← List.take_append_drop i xs, List.flatMap_append, List.length_append]
  omega
theorem mem_le_sum : ∀ (l : List Nat) (x : Nat), x ∈ l → x ≤ l.sum
  | [], _, h => by cases h
  | y :: l, x, h => by
    rw [List.sum_cons]
    rcases List.mem_cons.1 h with rfl | h
    · omega
    · have := mem_le_sum l x h; omega
set_option maxRecDepth 20000 in
set_option maxHeartbeats 8000000 in
theorem writes_any (A : Option Addr) (m c : Nat) (xs : List WIt) (w : World) (hl : xs.length = m) (h : WIts w A xs) (hm : m ≤ 1048576) (hsum : (xs.map fun x => x.l.length).sum ≤ 1048576) (hT : Lib.Utf8Tabs 0 1 w) (h2 : 2 ≤ w.heap.size) :
    Calls Tryd.prog 4 #[.slice A m c] w fun e w' => e = .returned (.bool true) ∧ Below w.heap.size w w' := by
  obtain ⟨i0, hi0, hz0, hz1, hz2⟩ := info_parts info5
  obtain ⟨k0, gi0, gz0, gz1, gz2⟩ := info_parts info26
  have htot : (wAll xs).length ≤ 2199024304128 := by have := wAll_len xs; omega
  have hal : ∀ i, (wAll (xs.take i)).length ≤ 2199024304128 := fun i => Nat.le_trans (wAll_le xs i) htot
  have hml : ∀ x ∈ xs, x.l.length ≤ 1048576 := fun x hx => by
    have : x.l.length ∈ xs.map fun x => x.l.length := List.mem_map_of_mem hx
    exact Nat.le_trans (mem_le_sum _ _ this) hsum
  have HX := Lib.hid h; have HL := Lib.hid hl; have HT := Lib.hid hT; have HAL := Lib.hid hal; have HML := Lib.hid hml
  clear h hl hT hal htot hsum hml
  go_enter Tryd.func4, Tryd.ntmps4
  go_wp2_with fail
  refine (newW w).mono ?_
  rintro e w1 ⟨rfl, hw1⟩
  have hS : WS w1 w.heap.size w.heap.size [] [] (.slice none 0 0) (.slice none 0 0) (.slice none 0 0) [] [] := by
    rw [hw1]
    exact ⟨isW_new w, ⟨rfl, .inl ⟨rfl, rfl⟩⟩, fun g hg => (by cases hg), ⟨rfl, .inl ⟨rfl, rfl⟩⟩, fun j u l hu _ => (by simp at hu), fun i j u u' _ hu => (by simp at hu), fun l hl => (by cases hl), fun g hg => (by simp [blocksOf] at hg)⟩
  have hb1 : Below w.heap.size w w1 := by rw [hw1]; exact (Below.refl _ _).alloc (Nat.le_refl _) _
  have HS := Lib.hid hS; have HB1 := Lib.hid hb1
  clear hS hb1 hw1
  go_wp2
  go_loopw [4, 5, 6, 7, 8, 9, 10, 11] (fun av tv mv iv _ _ _ _ wr => ∃ (i md : Nat) (v : Value) (vs : List Value) (ls : List (List Nat)), i ≤ m ∧ iv = .int .i64 i ∧ mv = .int .i64 md ∧ md ≤ 134217728 ∧ ls.length ≤ 6 ∧ Hid (WS wr w.heap.size w.heap.size (wAll (xs.take i)) (wAll (xs.take i)) v av tv vs ls) ∧ Below w.heap.size w wr) (fun _ _ _ iv _ _ _ _ _ => m - (intOf iv).toNat)
  case atStart => exact ⟨0, 0, _, [], [], by omega, rfl, rfl, by omega, by simp, HS, HB1.out⟩
  case round =>
    clear HS HB1
    obtain ⟨i, md, v, vs, ls, hi, rfl, rfl, hmd, hls, hs, hbw⟩ := hrel
    have hbs := hbw.size
    obtain ⟨At, ct, rfl⟩ := own_slice hs.out.told
    by_cases hlt : i < m
    · obtain ⟨x, hx⟩ : ∃ x, xs[i]? = some x := ⟨_, List.getElem?_eq_getElem (by have := HL.out; omega)⟩
      obtain ⟨hok, ad, rfl, hcells⟩ := HX.out i x hx
      obtain ⟨a0, a1, a2, a3, a4⟩ := hcells wr hbw
      have hxm := HML.out x (List.mem_of_getElem? hx)
      have hsn := wAll_snoc xs i x hx
      obtain ⟨j, z, n, Ax, mx, cx, l, s⟩ := x
      simp only at a0 a1 a2 a3 a4 hxm
      have hmx : mx ≤ 1048576 := by
        have h9 : (l.map byt).length = mx * 1 := hok.rd.1
        rw [List.length_map] at h9
        omega
      have hi1 : (i : Int) < (m : Int) := by omega
      have hi00 : (0 : Int) ≤ (i : Int) := by omega
      have hcall := written_any hs.out.isw hbs z hok.z n j Ax mx cx w.heap.size l s (hok.rd.below hbw) (Nat.le_refl _) hok.lb hmx hok.s (tabs_low HT.out hbw h2) h2 (by have := HAL.out i; omega)
      have HC := Lib.hid hcall; have HCE := Lib.hid hcells; have HSN := Lib.hid hsn
      unfold wArg at HC
      clear hcall hcells hsn hx hok hmx
      go_wp2_with fail
      refine HC.out.mono ?_
      rintro e w3 ⟨u, rfl, hu, ht⟩
      obtain ⟨v3, hs3⟩ := hs.out.written ht
      have hbw3 : Below w.heap.size w w3 := hbw.trans (WTo.below hs.out.isw hbs ht)
      have hbs3 := hbw3.size
      have hbl := HAL.out i
      have hbl2 : (wBytes j z n l s).length ≤ 3145728 := Nat.le_trans (wBytes_len j z n l s) (by omega)
      obtain ⟨bx, hbx⟩ : ∃ bx, wBytes j z n l s = bx := ⟨_, rfl⟩
      obtain ⟨bs, hbse⟩ : ∃ bs, wAll (xs.take i) = bs := ⟨_, rfl⟩
      have hsn2 : wAll (xs.take (i + 1)) = bs ++ bx := by rw [HSN.out, hbse]; show bs ++ wBytes j z n l s = _; rw [hbx]
      rw [hbx] at hu hs3 hbl2
      rw [hbse] at hs3 hbl
      obtain ⟨Au, cu, rfl⟩ := own_slice hu
      obtain ⟨Aa, ca, rfl⟩ := own_slice hs3.all
      have HU := Lib.hid hu; have HS3 := Lib.hid hs3; have HSN2 := Lib.hid hsn2; have HBL := Lib.hid hbl; have HBL2 := Lib.hid hbl2
      clear hu ht hs3 hbx hbse hsn2 hbl hbl2 HC HSN hs a0 a1 a2 a3 a4
      go_wp2_with (
        at_builtin
        refine wpList_append_any _ rfl (.tmp 36) (.tmp 37) 26 rfl w.heap.size 5 i0 _ 1 1 Tryd.underlying26 hi0 hz0 hz1 hz2 rfl (by omega) _ bs.length _ rfl HS3.out.all w3.heap.size Au bx.length cu (bx.map byt) rfl (Reads.of_own HU.out) (by intro u hu; obtain ⟨y, _, rfl⟩ := List.mem_map.1 hu; rfl) (by have := HBL.out; have := HBL2.out; simp only [maxLen]; omega) (by have := HBL.out; have := HBL2.out; omega) hbs3 ?_
        intro av2 w4 hown hg hat
        have hb4 : Below w.heap.size w w4 := hbw3.grown hg hbs3 (fun k hk => (HS3.out.all.lt k hk).1)
        have hs4 := HS3.out.grown hown hg hat
        obtain ⟨A4, c4, rfl⟩ := own_slice hown
        have HS4 := Lib.hid hs4
        clear hown hg hat hs4)
      obtain ⟨b4, hb4e⟩ : ∃ b4, bs ++ bx = b4 := ⟨_, rfl⟩
      have hb4l : bs.length + bx.length = b4.length := by rw [← hb4e, List.length_append]
      rw [hb4e] at HS4 HSN2
      rw [hb4l] at HS4 ⊢
      have hb4le : b4.length ≤ 2199027449856 := by have := HBL.out; have := HBL2.out; omega
      clear HS3 HU HBL HBL2 hb4l hb4e
      have hbs4 := hb4.size
      have hnn : ((b4.length : Int) != (b4.length : Int)) = false := by simp
      go_wp2_with fail
      refine (wlen HS4.out.isw).mono ?_
      rintro e w5 ⟨rfl, rfl⟩
      obtain ⟨a0, _, _, _, _⟩ := HCE.out w4 hb4
      by_cases hj8 : j = 8
      · subst hj8
        by_cases hbig : 134217728 < md + b4.length
        · have hbig' : (134217728 : Int) < (md : Int) + (b4.length : Int) := by omega
          have hmd0 : (0 : Int) ≤ (md : Int) + (b4.length : Int) := by omega
          have hmd1 : (md : Int) + (b4.length : Int) ≤ 4398046511104 := by omega
          have hhd := heads_any w4 (tabs_low HT.out hb4 h2) (Nat.le_trans h2 hbs4)
          go_wp2_with fail
          refine hhd.mono ?_
          rintro e w6 ⟨rfl, hb6⟩
          go_wp2
          go_ret
          exact ⟨rfl, hb4.trans (hb6.mono hbs4)⟩
        · have hbig' : ¬ ((134217728 : Int) < (md : Int) + (b4.length : Int)) := by omega
          have hmd0 : (0 : Int) ≤ (md : Int) + (b4.length : Int) := by omega
          have hmd1 : (md : Int) + (b4.length : Int) ≤ 134217728 := by omega
          have hou := wout HS4.out.isw (by omega)
          go_wp2_with fail
          refine hou.mono ?_
          rintro e w6 ⟨rfl, hr6, hb6⟩
          have hs6 := HS4.out.below hb6
          have hsm := same_any _ _ b4.length b4.length b4.length c4 b4 b4 _ _ w6 (Reads.of_own hr6) (Reads.of_own hs6.all) (by omega) (by omega)
          rw [decide_eq_true (Eq.refl b4)] at hsm
          have HR6 := Lib.hid hr6
          clear hr6 hs6 a0 hou
          go_wp2_with fail
          refine hsm.mono ?_
          rintro e w7 ⟨rfl, q, rfl⟩
          have hb46 : Below w4.heap.size w4 (w6.drewN q) := below_drewN hb6 q
          have HR7 : Hid ((w6.drewN q).ownsRow w4.heap.size 5 1 (.slice (some ⟨w4.heap.size, 0, none⟩) b4.length b4.length) b4.length (b4.map byt)) := HR6
          generalize w6.drewN q = W7 at *
          have hs7 := HS4.out.below hb46
          have hb7 : Below w.heap.size w W7 := hb4.trans (hb46.mono hbs4)
          have hbs7 := hb7.size
          have HS7 := Lib.hid hs7
          clear hsm hs7 HR6 hb6
          have hls0 : (0 : Int) ≤ (ls.length : Int) := by omega
          by_cases hl6 : ls.length < 6
          · have hl6' : (ls.length : Int) < 6 := by omega
            have htl := HS7.out.told.alloc (.cells #[.slice (some ⟨w4.heap.size, 0, none⟩) b4.length b4.length] 26)
            have HTL := Lib.hid htl
            have hb48 : Below w4.heap.size w4 (W7.alloc (.cells #[.slice (some ⟨w4.heap.size, 0, none⟩) b4.length b4.length] 26)) := hb46.alloc hb46.size _
            have hr8 := HR7.out.alloc (.cells #[.slice (some ⟨w4.heap.size, 0, none⟩) b4.length b4.length] 26)
            have HR8 := Lib.hid hr8
            clear htl hr8
            go_wp2_with (
              at_builtin
              refine wpList_append_any _ rfl (.tmp 67) (.tmp 69) 27 rfl w.heap.size 26 k0 _ 1 24 Tryd.underlying27 gi0 gz0 gz1 gz2 rfl (by omega) _ ls.length vs rfl HTL.out (W7.heap.size + 1) (some ⟨W7.heap.size, 0, none⟩) 1 1 [.slice (some ⟨w4.heap.size, 0, none⟩) b4.length b4.length] rfl (Reads.one_new _ _ _) (by intro u hu; rw [List.mem_singleton.1 hu]; rfl) (by simp only [maxLen]; omega) (by omega) (by rw [World.size_alloc]; omega) ?_
              intro tv2 w9 hown hg hat
              have hs9 := HS4.out.tell hb48 HR8.out (by omega) hown hg hbs4
              have hb9 : Below w.heap.size w w9 := (hb7.alloc hbs7 _).grown hg (by rw [World.size_alloc]; omega) (fun k hk => (HTL.out.lt k hk).1)
              have HS9 := Lib.hid hs9
              clear hown hg hat hs9)
            exact ⟨⟨i + 1, md + b4.length, v3, vs ++ [.slice (some ⟨w4.heap.size, 0, none⟩) b4.length b4.length], ls ++ [b4], by omega, by go_num, by go_num, by omega, by rw [List.length_append, List.length_singleton]; omega, by rw [HSN2.out]; exact HS9, hb9⟩, by simp [intOf]; omega⟩
          · have hl6' : ¬ ((ls.length : Int) < 6) := by omega
            go_wp2
            exact ⟨⟨i + 1, md + b4.length, v3, _, _, by omega, by go_num, by go_num, by omega, hls, by rw [HSN2.out]; exact HS7, hb7⟩, by simp [intOf]; omega⟩
      · have hj8' : (j == 8) = false := by simpa using hj8
        go_wp2
        exact ⟨⟨i + 1, md, v3, vs, ls, by omega, by go_num, rfl, hmd, hls, by rw [HSN2.out]; exact HS4, hb4⟩, by simp [intOf]; omega⟩
    · obtain rfl : i = m := by omega
      have hni : ¬ ((i : Int) < (i : Int)) := by omega
      have htk : xs.take i = xs := List.take_of_length_le (by have := HL.out; omega)
      have hal := HAL.out i
      rw [htk] at hs hal
      obtain ⟨bs, hbse⟩ : ∃ bs, wAll xs = bs := ⟨_, rfl⟩
      rw [hbse] at hs hal
      obtain ⟨Aa, ca, rfl⟩ := own_slice hs.out.all
      have HAB := Lib.hid hal
      clear hal htk hbse HX HML HAL
      have ho1 := wout hs.out.isw (by have := HAB.out; omega)
      go_wp2_with fail
      refine ho1.mono ?_
      rintro e w3 ⟨rfl, hr3, hb3⟩
      have hbw3 : Below w.heap.size w w3 := hbw.trans (hb3.mono hbs)
      have HS3 := Lib.hid (hs.out.below hb3)
      have HR3 := Lib.hid hr3
      clear ho1 hr3
      have ho2 := wout HS3.out.isw (by have := HAB.out; omega)
      go_wp2_with fail
      refine ho2.mono ?_
      rintro e w4 ⟨rfl, hr4, hb4⟩
      have hbw4 : Below w.heap.size w w4 := hbw3.trans (hb4.mono hbw3.size)
      have HS4 := Lib.hid (HS3.out.below hb4)
      have hr34 : w4.ownsRow wr.heap.size 5 1 (.slice (some ⟨wr.heap.size, 0, none⟩) bs.length bs.length) bs.length (bs.map byt) := row_keep HR3.out (F := []) ⟨hb4.os, hb4.tape, hb4.output, hb4.size, fun k hk _ => hb4.block k hk⟩ (fun _ _ => by simp)
      have hbr4 : Below wr.heap.size wr w4 := hb3.trans (hb4.mono hb3.size)
      have hne : wr.heap.size ≠ w3.heap.size := by
        have := (HR3.out.lt wr.heap.size rfl).2
        omega
      have HR34 := Lib.hid hr34; have HR4 := Lib.hid hr4
      have hsm1 := same_any _ _ bs.length bs.length bs.length ca bs bs _ _ w4 (Reads.of_own HR34.out) (Reads.of_own HS4.out.all) (by have := HAB.out; omega) (by have := HAB.out; omega)
      rw [decide_eq_true (Eq.refl bs)] at hsm1
      clear hr34 hr4 ho2 HS3 HR3
      go_wp2_with fail
      refine hsm1.mono ?_
      rintro e w5 ⟨rfl, q5, rfl⟩
      have hsm2 := same_any _ _ bs.length bs.length bs.length ca bs bs _ _ (w4.drewN q5) ((Reads.of_own HR4.out).drewN q5) ((Reads.of_own HS4.out.all).drewN q5) (by have := HAB.out; omega) (by have := HAB.out; omega)
      rw [decide_eq_true (Eq.refl bs)] at hsm2
      clear hsm1
      go_wp2_with fail
      refine hsm2.mono ?_
      rintro e w6 ⟨rfl, q6, rfl⟩
      have hbr6 : Below wr.heap.size wr ((w4.drewN q5).drewN q6) := below_drewN (below_drewN hbr4 q5) q6
      have HR34' : Hid (((w4.drewN q5).drewN q6).ownsRow wr.heap.size 5 1 (.slice (some ⟨wr.heap.size, 0, none⟩) bs.length bs.length) bs.length (bs.map byt)) := HR34
      have HR4' : Hid (((w4.drewN q5).drewN q6).ownsRow wr.heap.size 5 1 (.slice (some ⟨w3.heap.size, 0, none⟩) bs.length bs.length) bs.length (bs.map byt)) := Lib.hid (row_more HR4.out hb3.size)
      generalize (w4.drewN q5).drewN q6 = W6 at *
      have hbw6 : Below w.heap.size w W6 := hbw.trans (hbr6.mono hbs)
      have hbs6 := hbw6.size
      have htl := (hs.out.below hbr6).told.alloc (.cells #[.slice (some ⟨wr.heap.size, 0, none⟩) bs.length bs.length, .slice (some ⟨w3.heap.size, 0, none⟩) bs.length bs.length] 26)
      have hrd : Reads (W6.alloc (.cells #[.slice (some ⟨wr.heap.size, 0, none⟩) bs.length bs.length, .slice (some ⟨w3.heap.size, 0, none⟩) bs.length bs.length] 26)) (W6.heap.size + 1) 1 (some ⟨W6.heap.size, 0, none⟩) 2 [.slice (some ⟨wr.heap.size, 0, none⟩) bs.length bs.length, .slice (some ⟨w3.heap.size, 0, none⟩) bs.length bs.length] :=
        Reads.of_blk (Blk.new W6 26 #[.slice (some ⟨wr.heap.size, 0, none⟩) bs.length bs.length, .slice (some ⟨w3.heap.size, 0, none⟩) bs.length bs.length]) (by omega) (by simp)
      have hb8 : Below wr.heap.size wr (W6.alloc (.cells #[.slice (some ⟨wr.heap.size, 0, none⟩) bs.length bs.length, .slice (some ⟨w3.heap.size, 0, none⟩) bs.length bs.length] 26)) := hbr6.alloc hbr6.size _
      have hone : ∀ u ∈ [Value.slice (some ⟨wr.heap.size, 0, none⟩) bs.length bs.length, .slice (some ⟨w3.heap.size, 0, none⟩) bs.length bs.length], u.oneCell' = true := by
        intro u hu
        simp at hu
        rcases hu with rfl | rfl <;> rfl
      have ho8 := HR34'.out.alloc (.cells #[.slice (some ⟨wr.heap.size, 0, none⟩) bs.length bs.length, .slice (some ⟨w3.heap.size, 0, none⟩) bs.length bs.length] 26)
      have ho9 := HR4'.out.alloc (.cells #[.slice (some ⟨wr.heap.size, 0, none⟩) bs.length bs.length, .slice (some ⟨w3.heap.size, 0, none⟩) bs.length bs.length] 26)
      have HTL := Lib.hid htl; have HRD := Lib.hid hrd; have HONE := Lib.hid hone; have HO8 := Lib.hid ho8; have HO9 := Lib.hid ho9
      clear hsm2 htl hrd hone ho8 ho9 HS4 HR34 HR4 HR34' HR4'
      go_wp2_with (
        at_builtin
        refine wpList_append_any _ rfl (.tmp 85) (.tmp 88) 27 rfl w.heap.size 26 k0 _ 1 24 Tryd.underlying27 gi0 gz0 gz1 gz2 rfl (by omega) _ ls.length vs rfl HTL.out (W6.heap.size + 1) (some ⟨W6.heap.size, 0, none⟩) 2 2 [.slice (some ⟨wr.heap.size, 0, none⟩) bs.length bs.length, .slice (some ⟨w3.heap.size, 0, none⟩) bs.length bs.length] rfl HRD.out HONE.out (by simp only [maxLen]; omega) (by omega) (by rw [World.size_alloc]; omega) ?_
        intro tv2 w9 hown hg hat
        have hs9 := hs.out.tell2 hb8 HO8.out HO9.out (fun e => hne (Option.some.inj e)) (by have := HAB.out; omega) (by have := HAB.out; omega) hown hg hbs
        have hb9 : Below w.heap.size w w9 := (hbw6.alloc hbs6 _).grown hg (by rw [World.size_alloc]; omega) (fun k hk => (HTL.out.lt k hk).1)
        obtain ⟨A2, c2, rfl⟩ := own_slice hown
        have hownc := own_any A2 (ls.length + 2) c2 w.heap.size _ _ w9 hown hs9.rows hs9.apart (by rw [List.length_append]; rfl) hs9.big (by omega) hb9.size
        have HS9 := Lib.hid hs9; have HOC := Lib.hid hownc
        clear hown hg hat hs9 hownc)
      refine HOC.out.mono ?_
      rintro e w10 ⟨rfl, hk10⟩
      obtain ⟨hi10, ha10⟩ := HS9.out.owned hk10
      have hb10 : Below w.heap.size w w10 := hb9.trans (hk10.below (fun g hg => (blocks_lt HS9.out g hg).1) hb9.size)
      have HI10 := Lib.hid hi10; have HA10 := Lib.hid ha10
      clear hi10 ha10 hk10 HS9 HOC
      go_wp2_with fail
      refine (wout HI10.out (by have := HAB.out; omega)).mono ?_
      rintro e w11 ⟨rfl, hr11, hb11⟩
      have ha11 := row_keep HA10.out (F := []) ⟨hb11.os, hb11.tape, hb11.output, hb11.size, fun k hk _ => hb11.block k hk⟩ (fun _ _ => by simp)
      have hsm := same_any _ _ bs.length bs.length bs.length ca bs bs _ _ w11 (Reads.of_own hr11) (Reads.of_own ha11) (by have := HAB.out; omega) (by have := HAB.out; omega)
      rw [decide_eq_true (Eq.refl bs)] at hsm
      have hb11' : Below w.heap.size w w11 := hb10.trans (hb11.mono hb10.size)
      clear hr11 ha11
      go_wp2_with fail
      refine hsm.mono ?_
      rintro e w12 ⟨rfl, q12, rfl⟩
      have hb12 : Below w.heap.size w (w11.drewN q12) := below_drewN hb11' q12
      clear hsm
      generalize w11.drewN q12 = W12 at *
      go_wp2_with fail
      refine (heads_any W12 (tabs_low HT.out hb12 h2) (Nat.le_trans h2 hb12.size)).mono ?_
      rintro e w13 ⟨rfl, hb13⟩
      have hb13' : Below w.heap.size w w13 := hb12.trans (hb13.mono hb12.size)
      go_wp2
      go_ret
      exact ⟨rfl, hb13'⟩
end Go.Proofs.YtiajmngjhbckjaaDoor
