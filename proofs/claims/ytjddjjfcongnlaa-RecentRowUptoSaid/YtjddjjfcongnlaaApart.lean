/- The law RecentApart: the walk. -/
import Derived.Test.YtjddjjfcongnlaaTwo
import Derived.Test.YtjddjjfcongnlaaPlays
namespace Go.Proofs.Ytjddjjfcongnlaa
open Go.RowKit Go.Maps
theorem Two.more {w : World} {B o d o' d' N N' M M' : Nat} (h : Two w B o d o' d' N N') (hN : N ≤ M) (hN' : N' ≤ M') : Two w B o d o' d' M M' := by
  obtain ⟨n, L, F, v, n', L', F', v', h1, h2, h3, h4, h5⟩ := h
  exact ⟨n, L, F, v, n', L', F', v', by omega, by omega, h3, h4, h5⟩
theorem IsOrderInt.base {w : World} {B B' o n : Nat} {F : List Nat} {L : List (Int × Nat)} (h : IsOrderInt w B o n F L) (hB : B' ≤ B) : IsOrderInt w B' o n F L := by
  obtain ⟨mb, N, D, st, ps, hN, h, h1, h2⟩ := h
  exact ⟨mb, N, D, st, ps, hN, { h with base := ⟨Nat.le_trans hB h.base.1, Nat.le_trans hB h.base.2.1, fun p hp => Nat.le_trans hB (h.base.2.2 p hp)⟩ }, h1, h2⟩
theorem acts_at {w : World} {A : Option Addr} {l : List (Int × Int)} (h : Acts w A l) {i : Nat} (hi : i < l.length) : ∃ ad j q, A = some ad ∧ (j, q) ∈ l ∧ ∀ w3, Below w.heap.size w w3 → w3.cell? (ad.add (i * 2)) = some (.int .i64 j) ∧ w3.cell? ⟨(ad.add (i * 2)).block, (ad.add (i * 2)).off + 1, none⟩ = some (.int .i64 q) := by
  have hx : l[i]? = some l[i] := List.getElem?_eq_getElem hi
  obtain ⟨ad, rfl, _, _, _⟩ := h i _ hx
  refine ⟨ad, l[i].1, l[i].2, rfl, List.getElem_mem hi, fun w3 hb => ?_⟩
  obtain ⟨a', e', _, h2, h3⟩ := (h.below hb) i _ hx
  cases e'
  rw [← Go.Deep.add_add] at h3
  exact ⟨h2, h3⟩
set_option maxRecDepth 20000 in
set_option maxHeartbeats 4000000 in
theorem apartLaw_any (A A' : Option Addr) (m m' c c' : Nat) (l l' : List (Int × Int)) (w : World) (hl : l.length = m) (hl' : l'.length = m') (h : Acts w A l) (h' : Acts w A' l') (hok : okActs l) (hok' : okActs l') (hm : m ≤ 8796093022000) (hm' : m' ≤ 8796093022000) :
    Calls Try.prog 10 #[.slice A m c, .slice A' m' c'] w fun e w' => e = .returned (.bool true) ∧ Below w.heap.size w w' := by
  have hat : ∀ i, i < m → ∃ ad j q, A = some ad ∧ okInt q ∧ ∀ w3, Below w.heap.size w w3 → w3.cell? (ad.add (i * 2)) = some (.int .i64 j) ∧ w3.cell? ⟨(ad.add (i * 2)).block, (ad.add (i * 2)).off + 1, none⟩ = some (.int .i64 q) := fun i hi => by
    obtain ⟨ad, j, q, e, hm, hr⟩ := acts_at h (i := i) (by omega)
    exact ⟨ad, j, q, e, (hok _ hm).2, hr⟩
  have hat' : ∀ i, i < m' → ∃ ad j q, A' = some ad ∧ okInt q ∧ ∀ w3, Below w.heap.size w w3 → w3.cell? (ad.add (i * 2)) = some (.int .i64 j) ∧ w3.cell? ⟨(ad.add (i * 2)).block, (ad.add (i * 2)).off + 1, none⟩ = some (.int .i64 q) := fun i hi => by
    obtain ⟨ad, j, q, e, hm, hr⟩ := acts_at h' (i := i) (by omega)
    exact ⟨ad, j, q, e, (hok' _ hm).2, hr⟩
  have HA := Lib.hid hat; have HA' := Lib.hid hat'
  clear h h' hok hok' hl hl' hat hat'
  go_enter Try.func10, Try.ntmps10
  go_wp2_with fail
  refine (newInt w).mono ?_
  rintro e w1 ⟨o, F1, rfl, h1, hf1, hb1⟩
  have hs1 := hb1.size
  go_wp2_with fail
  refine (newInt w1).mono ?_
  rintro e w2 ⟨o', F2, rfl, h2, hf2, hb2⟩
  have hb2' : Below w.heap.size w w2 := hb1.trans (hb2.mono hs1)
  have hs2 := hb2'.size
  have hs12 := hb2.size
  have hTwo : Two ((w2.alloc (.cells #[.bool true, .slice none 0 0] 42)).alloc (.cells #[.bool true, .slice none 0 0] 42)) w.heap.size o w2.heap.size o' (w2.heap.size + 1) 0 0 := by
    have k1 : Below w2.heap.size w2 (w2.alloc (.cells #[.bool true, .slice none 0 0] 42)) := (Below.refl _ _).alloc (Nat.le_refl _) _
    have k2 : Below (w2.heap.size + 1) (w2.alloc (.cells #[.bool true, .slice none 0 0] 42)) ((w2.alloc (.cells #[.bool true, .slice none 0 0] 42)).alloc (.cells #[.bool true, .slice none 0 0] 42)) := (Below.refl _ _).alloc (by rw [World.size_alloc]; exact Nat.le_refl _) _
    have d1 := doc_new (w := w2) hs2 true
    have d2 := doc_new (w := w2.alloc (.cells #[.bool true, .slice none 0 0] 42)) (B := w.heap.size) (by rw [World.size_alloc]; omega) true
    rw [World.size_alloc] at d2
    have kk : Below w2.heap.size w2 ((w2.alloc (.cells #[.bool true, .slice none 0 0] 42)).alloc (.cells #[.bool true, .slice none 0 0] 42)) := k1.trans (k2.mono (by omega))
    refine ⟨0, [], F1, _, 0, [], F2, _, Nat.le_refl _, Nat.le_refl _, ⟨(h1.below hb2).below kk, d1.below (by rw [World.size_alloc]; exact k2)⟩, ⟨(h2.base hs1).below kk, d2⟩, ?_⟩
    intro x hx hx'
    unfold FD at hx hx'
    simp only [Value.ownBlock, List.mem_append, List.mem_cons, Option.toList, List.not_mem_nil, or_false] at hx hx'
    rcases hx with hx | rfl
    · have z1 := hf1 x hx
      rcases hx' with hx' | rfl
      · have z2 := hf2 x hx'; omega
      · omega
    · rcases hx' with hx' | hx'
      · have z2 := hf2 _ hx'; omega
      · omega
  have hB2 : Below w.heap.size w ((w2.alloc (.cells #[.bool true, .slice none 0 0] 42)).alloc (.cells #[.bool true, .slice none 0 0] 42)) := (hb2'.alloc hs2 _).alloc (by rw [World.size_alloc]; omega) _
  have HT := Lib.hid hTwo; have HB2 := Lib.hid hB2
  clear hTwo hB2 h1 h2 hb1 hb2 hb2' hf1 hf2
  go_wp2
  generalize (w2.alloc (.cells #[.bool true, .slice none 0 0] 42)).alloc (.cells #[.bool true, .slice none 0 0] 42) = W at *
  generalize w2.heap.size = d at *
  go_loopw [9] (fun iv wr => ∃ (i : Nat), (i ≤ m ∨ i ≤ m') ∧ iv = .int .i64 i ∧ Hid (Two wr w.heap.size o d o' (d + 1) i i) ∧ Below w.heap.size w wr) (fun iv _ => (m + m') - (intOf iv).toNat)
  case atStart => exact ⟨0, by omega, rfl, HT, HB2.out⟩
  case round =>
    clear HT HB2
    obtain ⟨i, hi, rfl, ht, hbw⟩ := hrel
    have hs := hbw.size
    have hk0 : (0 : Int) ≤ (i : Int) := by omega
    by_cases hlt : i < m
    · by_cases hlt' : i < m'
      · have h0 := ht.out
        obtain ⟨ad, j, q, rfl, hq, hr⟩ := HA.out i hlt
        obtain ⟨c0, c1⟩ := hr wr hbw
        have hk1 : (i : Int) < (m : Int) := by omega
        have hp := two_play ht.out hs j hq (by omega)
        have HR := Lib.hid hr; have HQ := Lib.hid hq
        clear hr hq h0
        go_wp2_with fail
        refine hp.mono ?_
        rintro e w3 ⟨rfl, ht3, hb3⟩
        have hb3' : Below w.heap.size w w3 := hbw.trans hb3
        have hs3 := hb3'.size
        obtain ⟨_, z1⟩ := HR.out w3 hb3'
        have hto := two_told ht3.symm HQ.out (by omega)
        have HT3 := Lib.hid ht3
        clear hp ht3 c0 c1
        go_wp2_with fail
        refine hto.mono ?_
        rintro e wa ⟨rfl, hba⟩
        have hba' : Below w.heap.size w wa := hb3'.trans (hba.mono hs3)
        have HTa := Lib.hid (HT3.out.below hba)
        have hsa := hba'.size
        clear hto z1
        obtain ⟨ad', j', q', rfl, hq', hr'⟩ := HA'.out i hlt'
        obtain ⟨c0', c1'⟩ := hr' wa hba'
        have hk1' : (i : Int) < (m' : Int) := by omega
        have hp' := two_play HTa.out.symm hsa j' hq' (by omega)
        have HR' := Lib.hid hr'; have HQ' := Lib.hid hq'
        clear hr' hq'
        go_wp2_with fail
        refine hp'.mono ?_
        rintro e w5 ⟨rfl, ht5, hb5⟩
        have hb5' : Below w.heap.size w w5 := hba'.trans hb5
        have hs5 := hb5'.size
        obtain ⟨_, z1'⟩ := HR'.out w5 hb5'
        have hto' := two_told ht5.symm HQ'.out (by omega)
        have HT5 := Lib.hid ht5
        clear hp' ht5 c0' c1'
        go_wp2_with fail
        refine hto'.mono ?_
        rintro e wb ⟨rfl, hbb⟩
        have hbb' : Below w.heap.size w wb := hb5'.trans (hbb.mono hs5)
        have HTb := Lib.hid (HT5.out.below hbb)
        clear hto' z1'
        go_wp2_with fail
        refine ⟨⟨i + 1, by omega, by go_num, Lib.hid (HTb.out.symm.more (by omega) (by omega)), hbb'⟩, by simp [intOf]; omega⟩
      · have hn' : ¬ ((i : Int) < (m' : Int)) := by omega
        have h0 := ht.out
        obtain ⟨ad, j, q, rfl, hq, hr⟩ := HA.out i hlt
        obtain ⟨c0, c1⟩ := hr wr hbw
        have hk1 : (i : Int) < (m : Int) := by omega
        have hp := two_play ht.out hs j hq (by omega)
        have HR := Lib.hid hr; have HQ := Lib.hid hq
        clear hr hq h0
        go_wp2_with fail
        refine hp.mono ?_
        rintro e w3 ⟨rfl, ht3, hb3⟩
        have hb3' : Below w.heap.size w w3 := hbw.trans hb3
        have hs3 := hb3'.size
        obtain ⟨_, z1⟩ := HR.out w3 hb3'
        have hto := two_told ht3.symm HQ.out (by omega)
        have HT3 := Lib.hid ht3
        clear hp ht3 c0 c1
        go_wp2_with fail
        refine hto.mono ?_
        rintro e wa ⟨rfl, hba⟩
        have hba' : Below w.heap.size w wa := hb3'.trans (hba.mono hs3)
        have HTa := Lib.hid (HT3.out.below hba)
        have hsa := hba'.size
        clear hto z1
        go_wp2_with fail
        refine ⟨⟨i + 1, by omega, by go_num, Lib.hid (HTa.out.more (by omega) (by omega)), hba'⟩, by simp [intOf]; omega⟩
    · by_cases hlt' : i < m'
      · have hn : ¬ ((i : Int) < (m : Int)) := by omega
        obtain ⟨ad', j', q', rfl, hq', hr'⟩ := HA'.out i hlt'
        obtain ⟨c0', c1'⟩ := hr' wr hbw
        have hk1' : (i : Int) < (m' : Int) := by omega
        have hp' := two_play ht.out.symm hs j' hq' (by omega)
        have HR' := Lib.hid hr'; have HQ' := Lib.hid hq'
        clear hr' hq'
        go_wp2_with fail
        refine hp'.mono ?_
        rintro e w5 ⟨rfl, ht5, hb5⟩
        have hb5' : Below w.heap.size w w5 := hbw.trans hb5
        have hs5 := hb5'.size
        obtain ⟨_, z1'⟩ := HR'.out w5 hb5'
        have hto' := two_told ht5.symm HQ'.out (by omega)
        have HT5 := Lib.hid ht5
        clear hp' ht5 c0' c1'
        go_wp2_with fail
        refine hto'.mono ?_
        rintro e wb ⟨rfl, hbb⟩
        have hbb' : Below w.heap.size w wb := hb5'.trans (hbb.mono hs5)
        have HTb := Lib.hid (HT5.out.below hbb)
        clear hto' z1'
        go_wp2_with fail
        refine ⟨⟨i + 1, by omega, by go_num, Lib.hid (HTb.out.symm.more (by omega) (by omega)), hbb'⟩, by simp [intOf]; omega⟩
      · have hn : ¬ ((i : Int) < (m : Int)) := by omega
        have hn' : ¬ ((i : Int) < (m' : Int)) := by omega
        have hal := alive_any wr
        go_wp2_with fail
        refine hal.mono ?_
        rintro e w4 ⟨rfl, hb4⟩
        go_wp2_with fail
        go_ret
        exact ⟨rfl, hbw.trans (hb4.mono hs)⟩
end Go.Proofs.Ytjddjjfcongnlaa
