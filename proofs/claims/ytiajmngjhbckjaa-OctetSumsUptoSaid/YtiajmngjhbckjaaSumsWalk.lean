/- The walk of OctetSums, from end to end. -/
import Derived.Test.YtiajmngjhbckjaaSums
import Derived.Test.YtiajmngjhbckjaaLawKit
namespace Go.Proofs.Ytiajmngjhbckjaa
open Go.RowKit
theorem one_cell_slice (A : Option Addr) (n c : Nat) : ∀ u ∈ [Value.slice A n c], u.oneCell' = true := by
  intro u hu; rw [List.mem_singleton.1 hu]; rfl
theorem flat_take_le (ls : List (List Nat)) (j : Nat) : (ls.take j).flatten.length ≤ ls.flatten.length := by
  have : ls.flatten = (ls.take j).flatten ++ (ls.drop j).flatten := by rw [← List.flatten_append, List.take_append_drop]
  rw [this]; simp
theorem own_slice {w : World} {base : Nat} {e : TypeId} {size n : Nat} {v : Value} {xs : List Value} (h : w.ownsRow base e size v n xs) : ∃ (A : Option Addr) (c : Nat), v = .slice A n c := by
  rcases h.2 with ⟨rfl, rfl⟩ | ⟨g, cap, cur, rfl, _⟩
  · exact ⟨_, _, rfl⟩
  · exact ⟨_, _, rfl⟩
theorem lentVals_at {gs : List Nat} {ls : List (List Nat)} {i g : Nat} {l : List Nat} (h : gs[i]? = some g) (hl : ls[i]? = some l) : (lentVals gs ls)[i]? = some (Value.slice (some ⟨g, 0, none⟩) l.length (l.length + 70)) := by
  simp [lentVals, List.getElem?_zipWith, h, hl]
theorem lent_take (l : List Nat) : (lent l 70).toList.take (l.length * 1) = l.map byt := by
  simp only [lent, List.append_assoc, Nat.mul_one]
  rw [List.take_append_of_le_length (by simp), List.take_of_length_le (by simp)]
theorem crc_none : crcs [] ^^^ 4294967295 = 0 := by decide +kernel
theorem crc_a : crcs [97] ^^^ 4294967295 = 3251651376 := by decide +kernel
/-- What was lent, as a slice of slices. -/
theorem SumsAt.parts {w wr : World} {ls : List (List Nat)} {gs : List Nat} {v : Value} {A : Option Addr} {n c : Nat} (h : SumsAt w wr ls n gs v (.slice A n c)) (hln : ls.length = n) (hb : ∀ l ∈ ls, ∀ x ∈ l, x < 256) (hbig : ∀ l ∈ ls, l.length ≤ 1048576) : Parts wr wr.heap.size A n ls := by
  refine ⟨hln, lentVals gs ls, Reads.of_own h.row, fun i l hl => ⟨hb l (List.mem_of_getElem? hl), ?_⟩⟩
  have hi := (List.getElem?_eq_some_iff.1 hl).1
  obtain ⟨g, hg⟩ : ∃ g, gs[i]? = some g := ⟨gs[i]'(by rw [h.len]; omega), List.getElem?_eq_getElem _⟩
  obtain ⟨_, _, l', hl', hk⟩ := h.each i g hg
  obtain rfl : l' = l := Option.some.inj (hl'.symm.trans hl)
  have hbg := hbig l' (List.mem_of_getElem? hl)
  refine ⟨some ⟨g, 0, none⟩, l'.length, l'.length + 70, lentVals_at hg hl, ?_, by omega⟩
  have := Reads.of_blk (n := l'.length) (size := 1) hk hk.lt (by rw [lent_size _ (by omega)]; omega)
  rwa [lent_take] at this
set_option maxRecDepth 100000 in
theorem sums_walk (A : Option Addr) (n c : Nat) (ls : List (List Nat)) (w : World) (h : Parts w w.heap.size A n ls) (hn : n ≤ 1048576) (hf : ls.flatten.length ≤ 1048576) :
    Calls Try.prog 3 #[.slice A n c] w fun e w' => e = .returned (.bool true) ∧ Below w.heap.size w w' := by
  obtain ⟨hln, xs, hR, hP⟩ := h
  have HP := Lib.hid hP; clear hP
  obtain ⟨i0, hi0, hz0, hz1, hz2⟩ := info_parts info5
  obtain ⟨k0, gi0, gz0, gz1, gz2⟩ := info_parts info23
  go_enter Try.func3, Try.ntmps3
  go_wp2
  go_loopw [3, 4, 5] (fun v u i wr => ∃ (j : Nat) (gs : List Nat), j ≤ n ∧ i = .int .i64 j ∧ SumsAt w wr ls j gs v u) (fun _ _ i _ => n - (intOf i).toNat)
  case atStart => exact ⟨0, [], by omega, rfl, ⟨Below.refl _ _, ⟨by simp, .inl ⟨rfl, rfl⟩⟩, rfl, ⟨by simp [lentVals], .inl ⟨rfl, rfl⟩⟩, fun i g hi => by simp at hi⟩⟩
  case round =>
    obtain ⟨j, gs, hj, rfl, hS⟩ := hrel
    by_cases hlt : j < n
    · obtain ⟨ad, u0, rfl, had, hx, hcell⟩ := (hR.below hS.bel).at_ hlt
      obtain ⟨l, hl⟩ : ∃ l, ls[j]? = some l := ⟨ls[j]'(by omega), List.getElem?_eq_getElem (by omega)⟩
      obtain ⟨hb, Ai, ni, ci, hxi, hRi, hni⟩ := HP.out j l hl
      obtain rfl : u0 = .slice Ai ni ci := by rw [hx] at hxi; exact Option.some.inj hxi
      have hli : l.length = ni := by have := hRi.1; simpa using this
      have hfl : (ls.take j).flatten.length + l.length ≤ 1048576 := by
        have := flat_take_le ls (j + 1)
        have e : (ls.take (j + 1)).flatten.length = (ls.take j).flatten.length + l.length := by
          rw [take_snoc' ls j l hl, List.flatten_append, List.length_append]; simp
        omega
      have hS1 := hS.all
      have hS2 := hS.row
      have hbw := hS.bel
      have hbs := hbw.size
      have HS := Lib.hid hS; have HL := Lib.hid hl; clear hS hl hx hxi hb
      subst hli
      generalize hq : (ls.take j).flatten.length = q at *
      have HQ := Lib.hid hq; clear hq
      go_wp2_with (first
        | (at_builtin
           refine wpList_append_any _ rfl (.tmp 14) (.tmp 18) _ rfl w.heap.size 5 i0 _ 1 1 Try.underlying23 hi0 hz0 hz1 hz2 rfl (by omega) _ q _ rfl hS1 w.heap.size Ai l.length ci (l.map byt) rfl (hRi.below hbw) byts_one (by simp only [maxLen]; omega) (by omega) hbs ?_
           intro v1 w1 hown1 hg1 hat1
           have hb1 : Below w.heap.size w w1 := hbw.grown hg1 hbs fun k hk => (hS1.lt k hk).1
           have hc1 := (hb1.cell (p := ad.add j) (by rw [block_of_add]; exact had)).trans ((hbw.cell (p := ad.add j) (by rw [block_of_add]; exact had)).symm.trans hcell)
           have hbs1 := hb1.size)
        | (go_at_call 8
           refine (lend_any _ _ _ l w.heap.size _ (hRi.below hb1) hbs1 (by omega)).mono ?_
           rintro e w2 ⟨rfl, hblk, hb2⟩
           have row1 := hS2.kept hg1 (own_own_ne hS2 hS1 (by decide))
           have row3 := (own_below row1 hb2).alloc (.cells #[.slice (some ⟨w1.heap.size, 0, none⟩) l.length (l.length + 70)] 23)
           have hbs2 := hb2.size)
        | (at_builtin
           refine wpList_append_any _ rfl (.tmp 20) (.tmp 26) _ rfl w.heap.size 23 k0 _ 1 24 Try.underlying22 gi0 gz0 gz1 gz2 rfl (by omega) _ j _ rfl row3 (w2.heap.size + 1) (some ⟨w2.heap.size, 0, none⟩) 1 1 [.slice (some ⟨w1.heap.size, 0, none⟩) l.length (l.length + 70)] rfl (Reads.one_new _ _ _) (one_cell_slice _ _ _) (by simp only [maxLen]; omega) (by omega) (by simp; omega) ?_
           intro u1 w4 hown4 hg4 hat4))
      exact ⟨⟨j + 1, gs ++ [w1.heap.size], by omega, by go_num, HS.out.step HL.out (by rw [HQ.out]; exact hown1) hg1 hat1 hblk hb2 hown4 hg4⟩, by simp [intOf]; omega⟩
    · obtain rfl : j = n := by omega
      have ht : ls.take j = ls := List.take_of_length_le (by omega)
      have hall := hS.all
      rw [ht] at hall
      have hrow := hS.row
      have hbw := hS.bel
      have hbs := hbw.size
      have hb : ∀ x ∈ ls.flatten, x < 256 := fun x hx => by
        obtain ⟨l, hl, hxl⟩ := List.mem_flatten.1 hx
        obtain ⟨i, hi⟩ := List.getElem?_of_mem hl
        exact (HP.out i l hi).1 x hxl
      have HB := Lib.hid hb; clear hb
      have hbl : ∀ l ∈ ls, ∀ x ∈ l, x < 256 := fun l hl => by
        obtain ⟨i, hi⟩ := List.getElem?_of_mem hl
        exact (HP.out i l hi).1
      have hbig : ∀ l ∈ ls, l.length ≤ 1048576 := fun l hl => Nat.le_trans (by
        obtain ⟨a, b, rfl⟩ := List.append_of_mem hl
        simp; omega) hf
      obtain ⟨Aa, ca, rfl⟩ := own_slice hall
      obtain ⟨Al, cl, rfl⟩ := own_slice hrow
      have hRa := Reads.of_own hall
      have hPl := hS.parts hln hbl hbig
      have hp1 := parts_one (w := wr) (c := ca) hRa (Nat.le_refl _) HB.out (by omega)
      have hcl := pcrc _ _ cl _ _ _ hPl (by omega)
      have HS := Lib.hid hS; have HBL := Lib.hid hbl; have HBG := Lib.hid hbig
      clear ht hS hbl hbig hall hrow hPl
      generalize ls.flatten = fl at *
      generalize hfn : fl.length = fn at *
      have HFN := Lib.hid hfn; clear hfn
      have HCL := Lib.hid hcl; clear hcl
      go_wp2_with fail
      refine (rcrc _ _ _ _ _ _ hRa HB.out (by omega)).mono ?_; rintro e w' ⟨rfl, rfl⟩
      go_wp2_with fail
      refine HCL.out.mono ?_; rintro e w' ⟨rfl, rfl⟩
      go_wp2_with fail
      refine (pcrc_one _ _ _ _ _ hp1).mono ?_; rintro e w' ⟨rfl, rfl⟩
      go_wp2_with fail
      have hb2 : Below w.heap.size w (wr.alloc (.cells #[.slice Aa fn ca] 23)) := hbw.alloc hbs _
      obtain ⟨W2, hW2⟩ : ∃ W2, W2 = wr.alloc (.cells #[.slice Aa fn ca] 23) := ⟨_, rfl⟩
      have hgs := HS.out.len
      have each : ∀ k, k < j → ∃ (g : Nat) (l : List Nat) (ad ad' : Addr) (Ai : Option Addr) (ci : Nat), A = some ad ∧ Al = some ad' ∧ W2.cell? (ad'.add k) = some (Value.slice (some ⟨g, 0, none⟩) l.length (l.length + 70)) ∧ W2.cell? (ad.add k) = some (Value.slice Ai l.length ci) ∧
          Blk W2 g 5 (lent l 70) ∧ Reads W2 w.heap.size 1 Ai l.length (l.map byt) ∧ l.length ≤ 1048576 := by
        intro k hk
        obtain ⟨ad, u0, rfl, had, hx, hcell⟩ := (hR.below hb2).at_ hk
        obtain ⟨l, hl⟩ : ∃ l, ls[k]? = some l := ⟨ls[k]'(by omega), List.getElem?_eq_getElem (by omega)⟩
        obtain ⟨_, Ai, ni, ci, hxi, hRi, hni⟩ := HP.out k l hl
        obtain rfl : u0 = .slice Ai ni ci := by rw [hx] at hxi; exact Option.some.inj hxi
        obtain ⟨g, hg⟩ : ∃ g, gs[k]? = some g := ⟨gs[k]'(by omega), List.getElem?_eq_getElem _⟩
        obtain ⟨_, _, l', hl', hkb⟩ := HS.out.each k g hg
        obtain rfl : l' = l := Option.some.inj (hl'.symm.trans hl)
        obtain ⟨ad', u1, rfl, had', hx', hcell'⟩ := (Reads.of_own HS.out.row).at_ hk
        rw [lentVals_at hg hl] at hx'
        obtain rfl := Option.some.inj hx'
        have hli : l'.length = ni := by have := hRi.1; simpa using this
        rw [hW2]
        subst hli
        exact ⟨g, l', ad, ad', Ai, ci, rfl, rfl, (World.cell?_alloc_lt wr _ _ (by rw [block_of_add]; exact had')).trans hcell', hcell, hkb.alloc _, hRi.below hb2, HBG.out l' (List.mem_of_getElem? hl)⟩
      rw [← hW2] at hb2 ⊢
      have HW2 := Lib.hid hW2; have HE := Lib.hid each; clear hW2 each hgs hRa hp1
      go_loopw [7] (fun i w2 => ∃ (k : Nat), k ≤ j ∧ i = .int .i64 k ∧ w2.heap = W2.heap ∧ Below w.heap.size w w2) (fun i _ => j - (intOf i).toNat)
      case atStart => exact ⟨0, by omega, rfl, rfl, hb2⟩
      case round =>
        obtain ⟨k, hk, rfl, hheap, hbel⟩ := hrel
        by_cases hlt2 : k < j
        · obtain ⟨g, l, ad, ad', Ai, ci, rfl, rfl, c1, c2, hkb, hri, hlb⟩ := HE.out k hlt2
          have hcl : ∀ a, wr.cell? a = W2.cell? a := fun a => by simp [World.cell?, hheap]
          have d1 := (hcl (ad'.add k)).trans c1
          have d2 := (hcl (ad.add k)).trans c2
          have hkb2 : Blk wr g 5 (lent l 70) := by unfold Blk at hkb ⊢; rw [hheap]; exact hkb
          have hri2 := hri.keep (w' := wr) fun p _ => hcl p
          have HH := Lib.hid hheap
          clear hcl c1 c2 hheap hkb hri
          have hk0 : (0 : Int) ≤ (k : Int) := by omega
          have hk1 : (k : Int) < (j : Int) := by omega
          go_wp2
          go_quiet ((go_at_call 11; exact Calls.quiet_of (kept_any _ _ _ _ _ _ _ (hkb2.drewN _) (hri2.drewN _) (by omega))))
          go_wp2
          exact ⟨⟨k + 1, by omega, by go_num, HH.out, below_drewN hbel nq⟩, by simp [intOf]; omega⟩
        · obtain rfl : k = j := by omega
          clear hheap
          have hpn : Parts wr 0 none 0 [] := ⟨rfl, [], Reads.none_, fun i l hl => by simp at hl⟩
          have hcn := pcrc none 0 0 [] 0 wr hpn (by omega)
          rw [List.flatten_nil, crc_none] at hcn
          have hcn1 := hcn.mono fun e w' h => (⟨h.1, h.2⟩ : e = .returned (.int .u32 0) ∧ wr = w')
          have hr := reads_block wr [97] (0, 0) (wr.heap.size + 1) (Nat.lt_succ_self _)
          have hpa := parts_one (c := 1) hr (by simp) (by decide) (by decide)
          have hca := pcrc_one _ 1 _ _ _ hpa
          rw [crc_a, World.size_alloc] at hca
          have HN := Lib.hid hcn1; have HC := Lib.hid hca; clear hcn hcn1 hpn hr hpa hca
          go_wp2_with fail
          refine HN.out.mono ?_; rintro e w' ⟨rfl, rfl⟩
          go_wp2_with fail
          refine HC.out.mono ?_; rintro e w' ⟨rfl, rfl⟩
          go_wp2_with fail
          go_ret
          have hbs2 := hbel.size
          exact ⟨rfl, (hbel.alloc hbs2 _).alloc (by simp; omega) _⟩
end Go.Proofs.Ytiajmngjhbckjaa
