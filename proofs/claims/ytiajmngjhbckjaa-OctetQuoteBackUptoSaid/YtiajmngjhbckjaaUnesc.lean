/- The contract of octet.unescaped. -/
import Derived.Test.YtiajmngjhbckjaaUnPure
import Derived.Test.YtiajmngjhbckjaaRquote
import Derived.Test.YtiajmngjhbckjaaSums
namespace Go.Proofs.Ytiajmngjhbckjaa
open Go.RowKit
theorem byte_getD (s : ByteArray) (i : Nat) : (s.data.toList.getD i 0).toNat = byteAt s i := rfl
theorem inner_none1 (s : ByteArray) (h : s.size < 2) : innerQ s.data.toList = none := if_neg fun h1 => by have := h1.1; rw [size_toList] at this; omega
theorem inner_none2 (s : ByteArray) (h : byteAt s 0 ≠ 34) : innerQ s.data.toList = none := if_neg fun h1 => h (by rw [← byte_getD, h1.2.1]; rfl)
theorem inner_none3 (s : ByteArray) (h : byteAt s (s.size - 1) ≠ 34) : innerQ s.data.toList = none := if_neg fun h1 => h (by rw [← byte_getD, ← size_toList s, h1.2.2]; rfl)
theorem inner_some (s : ByteArray) (h : 2 ≤ s.size) (h0 : byteAt s 0 = 34) (h1 : byteAt s (s.size - 1) = 34) : innerQ s.data.toList = some ((s.data.toList.drop 1).take (s.size - 2)) := by
  unfold innerQ
  rw [size_toList, if_pos ⟨h, (Lib.byteOfM _).trans (by rw [byte_getD, h0]; rfl), (Lib.byteOfM _).trans (by rw [byte_getD, h1]; rfl)⟩]
theorem own_one {w : World} {base n : Nat} {v : Value} {a : List UInt8} (h : w.ownsRow base 5 1 v (a.length + 1) (Lib.byteCells a ++ [.int .u8 (n : Int)])) (hn : n < 256) : w.ownsRow base 5 1 v (a ++ [n.toUInt8]).length (Lib.byteCells (a ++ [n.toUInt8])) := by
  rw [Lib.byteCells_append, List.length_append]
  have e : Lib.byteCells [n.toUInt8] = [Value.int .u8 (n : Int)] := by
    show [Value.int .u8 ((n.toUInt8).toNat : Int)] = _
    rw [toUInt8_toNat hn]
  rw [e]
  exact h
def szOf : Value → Nat
  | .string s => s.size
  | _ => 0
def unescRet (R : Option (List UInt8)) : Ending := .returned (.tuple #[.string ⟨(R.getD []).toArray⟩, .bool R.isSome])
set_option maxHeartbeats 4000000 in
set_option maxRecDepth 100000 in
theorem unesc_any (s : ByteArray) (w : World) (hs : s.size ≤ 8388608) :
    Calls Try.prog 31 #[.string s] w fun e w' => e = unescRet ((innerQ s.data.toList).bind unP) ∧ Below w.heap.size w w' := by
  have hsl := size_toList s
  obtain ⟨i0, hi0, hz0, hz1, hz2⟩ := info_parts info5
  by_cases h2 : s.size < 2
  · rw [inner_none1 s h2]
    have h2' : (s.size : Int) < 2 := by omega
    go_enter Try.func31, Try.ntmps31
    go_wp2
    go_ret2
    exact ⟨rfl, Below.refl _ _⟩
  have h2' : ¬ ((s.size : Int) < 2) := by omega
  have g0 := byteAt_get s 0 (by omega)
  have g1 := byteAt_get s (s.size - 1) (by omega)
  by_cases hb0 : byteAt s 0 = 34
  case neg =>
    rw [inner_none2 s hb0]
    have hb : ((byteAt s 0 : Int) != 34) = true := by simp; omega
    generalize byteAt s 0 = c0 at *
    go_enter Try.func31, Try.ntmps31
    go_wp2
    go_ret2
    exact ⟨rfl, Below.refl _ _⟩
  rw [hb0] at g0
  by_cases hb1 : byteAt s (s.size - 1) = 34
  case neg =>
    rw [inner_none3 s hb1]
    have hb : ((byteAt s (s.size - 1) : Int) != 34) = true := by simp; omega
    generalize byteAt s (s.size - 1) = c1 at *
    have k0 : (0 : Int) ≤ (s.size : Int) - 1 := by omega
    have k1 : (s.size : Int) - 1 < (s.size : Int) := by omega
    clear hb0
    go_enter Try.func31, Try.ntmps31
    go_wp2
    go_ret2
    exact ⟨rfl, Below.refl _ _⟩
  rw [hb1] at g1
  rw [inner_some s (by omega) hb0 hb1, Option.bind_some]
  have k0 : (0 : Int) ≤ (s.size : Int) - 1 := by omega
  have k1 : (s.size : Int) - 1 < (s.size : Int) := by omega
  have k2 : (1 : Int) ≤ (s.size : Int) - 1 := by omega
  obtain ⟨l0, hl0⟩ : ∃ l0, (s.data.toList.drop 1).take (s.size - 2) = l0 := ⟨_, rfl⟩
  rw [hl0]
  clear hb0 hb1
  have hrun : ∀ w, (Instr.slice 9 (.string s) (some (.int .i64 1)) (some (.int .i64 ((s.size : Int) - 1))) none).run Try.prog w = .ok (.string (s.extract 1 (s.size - 1))) w := by
    intro w
    have := run_slice_string (P := Try.prog) (w := w) 9 s .i64 .i64 1 ((s.size : Int) - 1) Try.underlying9 (by omega) (by omega) (by omega)
    rwa [show ((s.size : Int) - 1).toNat = s.size - 1 by omega, show (1 : Int).toNat = 1 from rfl] at this
  have ht0 : (s.extract 1 (s.size - 1)).data.toList = l0 := by rw [Lib.extract_data, ← hl0, show s.size - 1 - 1 = s.size - 2 by omega]
  generalize s.extract 1 (s.size - 1) = t0 at *
  have htl : l0.length ≤ s.size := by rw [← hl0, List.length_take]; omega
  have HT0 := Lib.hid ht0; clear ht0 hl0
  have ht0s : t0.size = l0.length := by rw [← HT0.out, size_toList]
  go_enter Try.func31, Try.ntmps31
  go_wp2
  go_loopw [0, 4] (fun sv ov wr => ∃ (t : ByteArray) (o : List UInt8), sv = .string t ∧ wr.ownsRow w.heap.size 5 1 ov o.length (Lib.byteCells o) ∧ Below w.heap.size w wr ∧ unP l0 = (unP t.data.toList).map (o ++ ·) ∧ o.length + t.size ≤ s.size) (fun sv _ _ => szOf sv)
  case atStart => exact ⟨t0, [], rfl, ⟨rfl, .inl ⟨rfl, rfl⟩⟩, Below.refl _ _, by rw [HT0.out]; simp, by simp; omega⟩
  case round =>
    clear HT0 ht0s htl g0 g1 h2 h2' k0 k1 k2 hrun
    obtain ⟨t, o, rfl, hown, hbw, hrel, hle⟩ := hrel
    have HREL := Lib.hid hrel; clear hrel
    have hbs := hbw.size
    have htsz := size_toList t
    by_cases hne : t.size = 0
    · have htl : t.data.toList = [] := List.eq_nil_of_length_eq_zero (by omega)
      have hfin : unP l0 = some o := by rw [HREL.out, htl]; simp [unP]
      have HF := Lib.hid hfin; clear hfin HREL
      have hem : (!t.toList.isEmpty) = false := by rw [Lib.toList_data, htl]; rfl
      obtain ⟨A2, c2, rfl⟩ := own_slice' hown
      have hcv := conv_bytes (P := Try.prog) (c := c2) Try.underlying23 Try.underlying5 Try.underlying9 (Reads.of_own hown)
      clear hne htsz htl
      go_wp2
      go_ret2
      rw [HF.out]
      exact ⟨rfl, hbw⟩
    have hlt0 : 0 < t.size := by omega
    have hn0 : t.data.toList ≠ [] := by intro e; rw [e] at htsz; simp at htsz; omega
    have hem : (!t.toList.isEmpty) = true := by
      rw [Lib.toList_data]; simpa using hn0
    have gg0 := byteAt_get t 0 hlt0
    have hd1 : (t.extract 1 t.size).data.toList = t.data.toList.drop 1 := Lib.extract_to_end t 1
    have hs1 : Hid ((t.extract 1 t.size).size = t.size - 1) := by refine Lib.hid ?_; rw [ByteArray.size_extract]; omega
    have hd2 : (t.extract 2 t.size).data.toList = t.data.toList.drop 2 := Lib.extract_to_end t 2
    have hs2 : Hid ((t.extract 2 t.size).size = t.size - 2) := by refine Lib.hid ?_; rw [ByteArray.size_extract]; omega
    obtain ⟨c, hc⟩ : ∃ c, byteAt t 0 = c := ⟨_, rfl⟩
    rw [hc] at gg0
    have hc8 : c < 256 := hc ▸ byteAt_lt t 0
    by_cases h92 : c = 92
    · subst h92
      by_cases h1 : t.size < 2
      · have hu := (un_alone _ hn0 (by rw [byte_getD, hc]) (by omega)).1
        have hfin : unP l0 = none := by rw [HREL.out, hu]; rfl
        have HF := Lib.hid hfin; clear hfin HREL hu hc
        have k1 : (t.size : Int) < 2 := by omega
        clear hne htsz
        go_wp2
        go_ret2
        rw [HF.out]
        exact ⟨rfl, hbw⟩
      · have hu := unP_back t.data.toList (by omega) (by rw [byte_getD, hc])
        have hlt1 : 1 < t.size := by omega
        have gg1 := byteAt_get t 1 hlt1
        obtain ⟨d, hdd⟩ : ∃ d, byteAt t 1 = d := ⟨_, rfl⟩
        have hd8 : d < 256 := hdd ▸ byteAt_lt t 1
        have e1 : t.data.toList.getD 1 0 = d.toUInt8 := (byte_num _ _ hd8).2 hdd
        rw [byte_getD, hdd, e1, htsz, ← hd2] at hu
        rw [hdd] at gg1
        have k1 : ¬ ((t.size : Int) < 2) := by omega
        have k2 : (2 : Int) ≤ (t.size : Int) := by omega
        have k3 : (1 : Int) < (t.size : Int) := by omega
        by_cases hA : d = 34 ∨ d = 92
        · rw [if_pos hA] at hu
          have HU := Lib.hid hu; clear hu hc hdd e1 hd1 hd2 hs1
          rcases hA with rfl | rfl
          · clear hne htsz
            go_wp2_with (
              at_builtin
              refine wpList_append_any _ rfl (.tmp 49) (.tmp 52) _ rfl w.heap.size 5 i0 _ 1 1 Try.underlying23 hi0 hz0 hz1 hz2 rfl (by omega) _ o.length _ rfl (hown.alloc _) (wr.heap.size + 1) (some ⟨wr.heap.size, 0, none⟩) 1 1 [.int .u8 34] rfl (Reads.one_new _ _ _) (by intro u hu; rw [List.mem_singleton.1 hu]; rfl) (by simp only [maxLen]; omega) (by omega) (by rw [World.size_alloc]; omega) ?_
              intro v2 w2 hown3 hg2 hat2
              have hb2 : Below w.heap.size w w2 := (hbw.alloc hbs _).grown hg2 (by rw [World.size_alloc]; omega) (fun k hk => (hown.lt k hk).1))
            have hsz' := hs2.out
            have hown4 : w2.ownsRow w.heap.size 5 1 v2 (o ++ [(34 : Nat).toUInt8]).length (Lib.byteCells (o ++ [(34 : Nat).toUInt8])) := own_one hown3 (by omega)
            refine ⟨⟨t.extract 2 t.size, o ++ [(34 : Nat).toUInt8], rfl, hown4, hb2, ?_, by rw [List.length_append, List.length_singleton]; omega⟩, by simp only [szOf]; omega⟩
            rw [HREL.out, HU.out, Option.map_map]; congr 1; funext z; simp
          · clear hne htsz
            go_wp2_with (
              at_builtin
              refine wpList_append_any _ rfl (.tmp 49) (.tmp 52) _ rfl w.heap.size 5 i0 _ 1 1 Try.underlying23 hi0 hz0 hz1 hz2 rfl (by omega) _ o.length _ rfl (hown.alloc _) (wr.heap.size + 1) (some ⟨wr.heap.size, 0, none⟩) 1 1 [.int .u8 92] rfl (Reads.one_new _ _ _) (by intro u hu; rw [List.mem_singleton.1 hu]; rfl) (by simp only [maxLen]; omega) (by omega) (by rw [World.size_alloc]; omega) ?_
              intro v2 w2 hown3 hg2 hat2
              have hb2 : Below w.heap.size w w2 := (hbw.alloc hbs _).grown hg2 (by rw [World.size_alloc]; omega) (fun k hk => (hown.lt k hk).1))
            have hsz' := hs2.out
            have hown4 : w2.ownsRow w.heap.size 5 1 v2 (o ++ [(92 : Nat).toUInt8]).length (Lib.byteCells (o ++ [(92 : Nat).toUInt8])) := own_one hown3 (by omega)
            refine ⟨⟨t.extract 2 t.size, o ++ [(92 : Nat).toUInt8], rfl, hown4, hb2, ?_, by rw [List.length_append, List.length_singleton]; omega⟩, by simp only [szOf]; omega⟩
            rw [HREL.out, HU.out, Option.map_map]; congr 1; funext z; simp
        rw [if_neg hA] at hu
        have b1 : ((d : Int) == 34) = false := by simp; omega
        have b2 : ((d : Int) == 92) = false := by simp; omega
        clear hA
        by_cases hB : d = 110
        · rw [if_pos hB] at hu
          have HU := Lib.hid hu; clear hu hc hdd e1 hd1 hd2 hs1
          subst hB
          clear hne htsz
          go_wp2_with (
            at_builtin
            refine wpList_append_any _ rfl (.tmp 56) (.tmp 57) _ rfl w.heap.size 5 i0 _ 1 1 Try.underlying23 hi0 hz0 hz1 hz2 rfl (by omega) _ o.length _ rfl (hown.alloc _) (wr.heap.size + 1) (some ⟨wr.heap.size, 0, none⟩) 1 1 [.int .u8 10] rfl (Reads.one_new _ _ _) (by intro u hu; rw [List.mem_singleton.1 hu]; rfl) (by simp only [maxLen]; omega) (by omega) (by rw [World.size_alloc]; omega) ?_
            intro v2 w2 hown3 hg2 hat2
            have hb2 : Below w.heap.size w w2 := (hbw.alloc hbs _).grown hg2 (by rw [World.size_alloc]; omega) (fun k hk => (hown.lt k hk).1))
          have hsz' := hs2.out
          have hown4 : w2.ownsRow w.heap.size 5 1 v2 (o ++ [(10 : Nat).toUInt8]).length (Lib.byteCells (o ++ [(10 : Nat).toUInt8])) := own_one hown3 (by omega)
          refine ⟨⟨t.extract 2 t.size, o ++ [(10 : Nat).toUInt8], rfl, hown4, hb2, ?_, by rw [List.length_append, List.length_singleton]; omega⟩, by simp only [szOf]; omega⟩
          rw [HREL.out, HU.out, Option.map_map]; congr 1; funext z; simp
        rw [if_neg hB] at hu
        have b3 : ((d : Int) == 110) = false := by simp; omega
        clear hB
        by_cases hC : d = 120
        · rw [if_pos hC] at hu
          subst hC
          by_cases h4 : t.size < 4
          · rw [if_pos h4] at hu
            have hfin : unP l0 = none := by rw [HREL.out, hu]; rfl
            have HF := Lib.hid hfin; clear hfin HREL hu hc hdd e1 hd1 hd2 hs1
            have k4 : (t.size : Int) < 4 := by omega
            clear h4 h1 hne htsz
            go_wp2
            go_ret2
            rw [HF.out]
            exact ⟨rfl, hbw⟩
          · rw [if_neg h4] at hu
            have k4 : (4 : Int) ≤ (t.size : Int) := by omega
            have k5 : ¬ ((t.size : Int) < 4) := by omega
            have hx24 : (t.extract 2 4).data.toList = [t.data.toList.getD 2 0, t.data.toList.getD 3 0] := by
              rw [Lib.extract_data]
              have := list4 t.data.toList (by omega)
              conv => lhs; rw [this]
              rfl
            have hxs : (t.extract 2 4).size ≤ 2 := by rw [ByteArray.size_extract]; omega
            have hun := unhex_any (t.extract 2 4)
            unfold unhxOut at hun
            have hnum : unhx (nums (t.extract 2 4)) = if nb8 (t.data.toList.getD 2 0) < 0 ∨ nb8 (t.data.toList.getD 3 0) < 0 then none else some [(16 * nb8 (t.data.toList.getD 2 0) + nb8 (t.data.toList.getD 3 0)).toNat] := by
              unfold nums
              rw [hx24]
              rfl
            rw [hnum] at hun
            have hd4 : (t.extract 2 t.size).extract 2 (t.size - 2) = t.extract 4 t.size := by
              apply ByteArray.ext
              apply Array.toList_inj.1
              rw [Lib.extract_data, Lib.extract_to_end, Lib.extract_to_end, List.drop_drop, List.take_of_length_le (by rw [List.length_drop]; omega)]
            have hd4' : (t.extract 4 t.size).data.toList = t.data.toList.drop 4 := Lib.extract_to_end t 4
            have hs4 : Hid ((t.extract 4 t.size).size = t.size - 4) := by refine Lib.hid ?_; rw [ByteArray.size_extract]; omega
            rw [← hd4'] at hu
            have na := nib_lt (t.data.toList.getD 2 0).toNat; have nb := nib_lt (t.data.toList.getD 3 0).toNat
            have na' : nb8 (t.data.toList.getD 2 0) < 16 := na.2
            have nb' : nb8 (t.data.toList.getD 3 0) < 16 := nb.2
            clear na nb hx24 hnum
            generalize nb8 (t.data.toList.getD 2 0) = x at *
            generalize nb8 (t.data.toList.getD 3 0) = y at *
            by_cases hbad : x < 0 ∨ y < 0
            · rw [if_pos hbad] at hu hun
              have hfin : unP l0 = none := by rw [HREL.out, hu]; rfl
              have HF := Lib.hid hfin; clear hfin HREL hu hc hdd e1 hd1 hd2 hs1 hd4 hd4' hs4 hbad
              clear hne htsz
              go_wp2_with fail
              refine (hun wr (by omega)).mono ?_
              rintro e W1 ⟨v, rfl, _, hb1⟩
              go_wp2_with fail
              go_ret2
              rw [HF.out]
              exact ⟨rfl, hbw.trans (hb1.mono hbs)⟩
            · rw [if_neg hbad] at hu hun
              have HU := Lib.hid hu; clear hu hc hdd e1 hd1 hd2 hs1 hd4'
              have HD4 := Lib.hid hd4; clear hd4
              have hz8 : (16 * x + y).toNat < 256 := by omega
              generalize (16 * x + y).toNat = z at *
              clear hne htsz hbad
              go_wp2_with fail
              refine (hun wr (by omega)).mono ?_
              rintro e W1 ⟨v, rfl, hv, hb1⟩
              have hown1 := own_below hown hb1
              have hs1 := hb1.size
              obtain ⟨A1, c1, rfl⟩ := own_slice' hv
              have hv1 := Reads.of_own hv
              go_wp2_with (
                at_builtin
                refine wpList_append_any _ rfl (.tmp 72) (.tmp 73) _ rfl w.heap.size 5 i0 _ 1 1 Try.underlying23 hi0 hz0 hz1 hz2 rfl (by omega) _ o.length _ rfl hown1 _ _ 1 _ [byt z] rfl hv1 (by intro u hu; rw [List.mem_singleton.1 hu]; rfl) (by simp only [maxLen]; omega) (by omega) (by omega) ?_
                intro v2 w2 hown3 hg2 hat2
                have hb2 : Below w.heap.size w w2 := (hbw.trans (hb1.mono hbs)).grown hg2 (by omega) (fun k hk => (hown1.lt k hk).1))
              rw [HD4.out]
              have hown4 : w2.ownsRow w.heap.size 5 1 v2 (o ++ [z.toUInt8]).length (Lib.byteCells (o ++ [z.toUInt8])) := own_one hown3 hz8
              have hsz' := hs4.out
              refine ⟨⟨t.extract 4 t.size, o ++ [z.toUInt8], rfl, hown4, hb2, ?_, by rw [List.length_append, List.length_singleton]; omega⟩, by simp only [szOf]; omega⟩
              rw [HREL.out, HU.out, Option.map_map]; congr 1; funext z; simp
        · rw [if_neg hC] at hu
          have b4 : ((d : Int) == 120) = false := by simp; omega
          have hfin : unP l0 = none := by rw [HREL.out, hu]; rfl
          have HF := Lib.hid hfin; clear hfin HREL hu hc hdd e1 hd1 hd2 hs1
          clear hne htsz hC
          go_wp2
          go_ret2
          rw [HF.out]
          exact ⟨rfl, hbw⟩
    · have hu := unP_other _ hn0 (by rw [byte_getD, hc]; exact h92)
      have e0 : t.data.toList.getD 0 0 = c.toUInt8 := (byte_num _ _ hc8).2 hc
      rw [e0, ← hd1] at hu
      have HU := Lib.hid hu; clear hu hc e0 hd1 hd2 hs2
      have bc : ((c : Int) != 92) = true := by simp; omega
      have k1 : (1 : Int) ≤ (t.size : Int) := by omega
      clear hne htsz
      go_wp2_with (
        at_builtin
        refine wpList_append_any _ rfl (.tmp 35) (.tmp 37) _ rfl w.heap.size 5 i0 _ 1 1 Try.underlying23 hi0 hz0 hz1 hz2 rfl (by omega) _ o.length _ rfl (hown.alloc _) (wr.heap.size + 1) (some ⟨wr.heap.size, 0, none⟩) 1 1 [.int .u8 (c : Int)] rfl (Reads.one_new _ _ _) (by intro u hu; rw [List.mem_singleton.1 hu]; rfl) (by simp only [maxLen]; omega) (by omega) (by rw [World.size_alloc]; omega) ?_
        intro v2 w2 hown3 hg2 hat2
        have hb2 : Below w.heap.size w w2 := (hbw.alloc hbs _).grown hg2 (by rw [World.size_alloc]; omega) (fun k hk => (hown.lt k hk).1))
      have hsz' := hs1.out
      have hown4 : w2.ownsRow w.heap.size 5 1 v2 (o ++ [c.toUInt8]).length (Lib.byteCells (o ++ [c.toUInt8])) := own_one hown3 hc8
      refine ⟨⟨t.extract 1 t.size, o ++ [c.toUInt8], rfl, hown4, hb2, ?_, by rw [List.length_append, List.length_singleton]; omega⟩, by simp only [szOf]; omega⟩
      rw [HREL.out, HU.out, Option.map_map]; congr 1; funext z; simp
end Go.Proofs.Ytiajmngjhbckjaa
