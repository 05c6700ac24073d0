/- The contract of Own. -/
import Derived.Test.YtiajmngjhbckjaaDoorOwnGrow
import Derived.Test.YtiajmngjhbckjaaDoorOwnKit
import Derived.Test.YtiajmngjhbckjaaDoorOwnKit
import Derived.Test.YtiajmngjhbckjaaDoorKeeps
import Derived.BigQuiet

namespace Go.Proofs.YtiajmngjhbckjaaDoor
open Go.RowKit
/-- The lists' blocks. -/
def blocksOf (vs : List Value) : List Nat := vs.filterMap Value.ownBlock
theorem mem_blocks {vs : List Value} {v : Value} {g j : Nat} (h : vs[j]? = some v) (hg : v.ownBlock = some g) : g ∈ blocksOf vs :=
  List.mem_filterMap.2 ⟨v, List.mem_of_getElem? h, hg⟩
theorem Keeps.grow {F : List Nat} {w w1 w2 : World} {row : Option Nat} (h : Keeps F w w1) (hg : w1.grownBy w2 row) (hr : ∀ g, row = some g → g ∈ F ∨ w.heap.size ≤ g) : Keeps F w w2 :=
  h.trans (Keeps.of_grown (F := row.toList) hg (fun g hg => by simp [hg])) (fun x hx => hr x (by simpa using hx))
set_option maxRecDepth 4000 in
set_option maxHeartbeats 4000000 in
theorem own_any (A : Option Addr) (m c B : Nat) (vs : List Value) (ls : List (List Nat)) (w : World) (hd : w.ownsRow B 26 1 (.slice A m c) m vs) (hrows : RowsOf w B vs ls fun _ l => l) (hap : ApartOf vs)
    (hm : ls.length = m) (hbig : ∀ l ∈ ls, l.length ≤ 8796093022207) (hm6 : m ≤ 1048576) (hB : B ≤ w.heap.size) :
    Calls Tryd.prog 18 #[.slice A m c] w fun e w' => e = .returned (.bool true) ∧ Keeps (blocksOf vs) w w' := by
  have hvm : vs.length = m := by have := hd.1; simpa using this
  obtain ⟨i0, hi0, hz0, hz1, hz2⟩ := info_parts info5
  obtain ⟨k0, gi0, gz0, gz1, gz2⟩ := info_parts info26
  go_enter Tryd.func18, Tryd.ntmps18
  go_wp2
  go_loopw [3] (fun i wr => ∃ (j : Nat), j ≤ m ∧ i = .int .i64 j ∧ wr.ownsRow B 26 1 (.slice A m c) m vs ∧ RowsOf wr B vs ls (cont j 0) ∧ Keeps (blocksOf vs) w wr) (fun i _ => m - (intOf i).toNat)
  case atStart => exact ⟨0, by omega, rfl, hd, hrows.start, Keeps.refl _ _⟩
  case round =>
    clear hd hrows
    obtain ⟨j, hj, rfl, hd, hrows, hbw⟩ := hrel
    by_cases hlt : j < m
    · obtain ⟨v, hv⟩ : ∃ v, vs[j]? = some v := ⟨_, List.getElem?_eq_getElem (by omega)⟩
      obtain ⟨l, hl⟩ : ∃ l, ls[j]? = some l := ⟨_, List.getElem?_eq_getElem (by omega)⟩
      have hl4 := hbig l (List.mem_of_getElem? hl)
      obtain ⟨n, hn⟩ : ∃ n, l.length = n := ⟨_, rfl⟩
      obtain ⟨Ao, co, rfl⟩ := own_slice' (hrows j v l hv hl)
      rw [hn] at hl4 hv
      have hj1 : (j : Int) < m := by omega
      have HV := Lib.hid hv; have HL := Lib.hid hl; have HR := Lib.hid hrows; clear hv hl hrows
      go_wp2
      go_loopw [4] (fun i wr => ∃ (k : Nat), k ≤ n ∧ i = .int .i64 k ∧ wr.ownsRow B 26 1 (.slice A m c) m vs ∧ RowsOf wr B vs ls (cont j k) ∧ Keeps (blocksOf vs) w wr) (fun i _ => n - (intOf i).toNat)
      case atStart => exact ⟨0, by omega, rfl, hd, HR.out, hbw⟩
      case round =>
        clear hd hbw HR
        rename_i wr' _ _ _
        obtain ⟨k, hk, rfl, hd, hrows, hbw⟩ := hrel
        obtain ⟨ad, u, rfl, had, hx, hcell⟩ := (Reads.of_own hd).at_ hlt
        obtain rfl := Option.some.inj (HV.out.symm.trans hx)
        clear hx
        have HR := Lib.hid hrows; clear hrows
        by_cases hkn : k < n
        · have hrow := HR.out j _ l HV.out HL.out
          rw [hn] at hrow
          obtain ⟨g, cap, hu⟩ := own_form hrow (by omega)
          injection hu with hu1 _ hu2
          subst hu1 hu2
          obtain ⟨x, hx⟩ : ∃ x, (cont j k j l)[k]? = some x := ⟨_, List.getElem?_eq_getElem (by rw [cont_length _ _ _ _ (by omega)]; omega)⟩
          have hcx : wr.cell? ((⟨g, 0, none⟩ : Addr).add k) = some (byt x) := hrow.cells (g := g) rfl k (byt x) (by rw [List.getElem?_map, hx]; rfl)
          have hfr : wr.frozen? ((⟨g, 0, none⟩ : Addr).add k) = false := own_free hrow (g := g) rfl
          rw [Addr.add_lit, Nat.zero_add] at hcx hfr
          have hmk : byt (mkv j k) = .int .u8 ((7 * (j : Int) + 3 * (k : Int) + 1) % 256) := by simp [byt, mkv]
          have hset := HR.out.set hap HV.out HL.out (k := k) (g := g) rfl (by omega)
          rw [hmk, Addr.add_lit, Nat.zero_add] at hset
          have HSET := Lib.hid hset; clear hset hmk
          have hgB := mem_blocks (g := g) HV.out rfl
          have hk1 : (k : Int) < n := by omega
          have HROW := Lib.hid hrow; have HD := Lib.hid hd; have HBW := Lib.hid hbw; clear hx hrow hd hbw
          go_wp2
          refine ⟨⟨k + 1, by omega, by go_num, ?_, HSET.out, HBW.out.setCell (p := ⟨g, k, none⟩) (.inl hgB) _⟩, by simp [intOf]; omega⟩
          refine ownsRow_setCell_other HD.out (fun e2 => ?_) _
          rcases own_own_ne HD.out HROW.out (by decide) with h0 | h0
          · rw [h0] at e2; cases e2
          · exact h0 e2
        · obtain rfl : k = n := by omega
          go_wp2
          subst hn
          exact ⟨⟨j + 1, by omega, by go_num, hd, HR.out.next HL.out, hbw⟩, by simp [intOf]; omega⟩
    · obtain rfl : j = m := by omega
      clear hlt
      have hph : Ph2 wr B j vs ls (.slice A j c) (.slice none 0 0) 0 [] :=
        ⟨hd, fun i v l hv hl => by
          have := hrows i v l hv hl
          rwa [show cont j 0 i l = mks i l.length from if_pos (by have := (List.getElem?_eq_some_iff.1 hl).1; omega)] at this, ⟨rfl, .inl ⟨rfl, rfl⟩⟩, fun i v l h => (by simp at h), fun g _ e => (by cases e), fun i j' v v' h => (by simp at h)⟩
      have HPH := Lib.hid hph; have HBW := Lib.hid hbw; clear hph hd hrows hbw
      go_wp2
      go_loopw [5, 6] (fun gv i wr => ∃ (q : Nat) (gs : List Value), q ≤ j ∧ i = .int .i64 q ∧ Ph2 wr B j vs ls (.slice A j c) gv q gs ∧ Keeps (blocksOf vs) w wr ∧ Hid (∀ g, gv.ownBlock = some g → w.heap.size ≤ g)) (fun _ i _ => j - (intOf i).toNat)
      case atStart => exact ⟨0, [], by omega, rfl, HPH.out, HBW.out, Lib.hid fun g h => by cases h⟩
      case round =>
        clear HPH HBW
        obtain ⟨q, gs, hq, rfl, hph, hbw, hgv⟩ := hrel
        by_cases hlt : q < j
        · obtain ⟨ad, v, rfl, had, hv, hcell⟩ := (Reads.of_own hph.hd).at_ hlt
          obtain ⟨l, hl⟩ : ∃ l, ls[q]? = some l := ⟨_, List.getElem?_eq_getElem (by omega)⟩
          have hl4 := hbig l (List.mem_of_getElem? hl)
          have hq1 : (q : Int) < j := by omega
          have hin := hph.start hap hv
          have HGC : Hid (∀ g, v.ownBlock = some g → g ∈ blocksOf vs ∨ w.heap.size ≤ g) := Lib.hid fun g h => .inl (mem_blocks hv h)
          have HIN := Lib.hid hin; have HBW := Lib.hid hbw; have HL := Lib.hid hl; clear hv hin hph hbw hl
          go_wp2
          go_loopw [7, 8] (fun gc i wr => ∃ (k : Nat), k ≤ 70 ∧ i = .int .i64 k ∧ In2 wr B j vs ls (.slice (some ad) j c) u5 q gs gc k ∧ Keeps (blocksOf vs) w wr ∧ Hid (∀ g, gc.ownBlock = some g → g ∈ blocksOf vs ∨ w.heap.size ≤ g)) (fun _ i _ => 70 - (intOf i).toNat)
          case atStart => exact ⟨0, by omega, rfl, HIN.out, HBW.out, HGC⟩
          case round =>
            clear HIN HBW hcell
            obtain ⟨k, hk, rfl, hin, hbw, hgc⟩ := hrel
            by_cases hkn : k < 70
            · have hbs := hbw.size
              have hin2 := hin.alloc (.cells #[.int .u8 ((200 + (q : Int) + (k : Int)) % 256)] 5)
              have hcur := hin2.cur l HL.out
              have HIN := Lib.hid hin2; have HBW := Lib.hid hbw; clear hin hin2 hbw
              have hmk : byt (tlv q k) = .int .u8 ((200 + (q : Int) + (k : Int)) % 256) := by simp [byt, tlv]
              have HMK := Lib.hid hmk; clear hmk
              have hBr : B ≤ wr.heap.size := Nat.le_trans hB hbs
              go_wp2_with (at_builtin
                           go_loud (refine wpList_append_keep rfl (.tmp 54) (.tmp 60) _ rfl B 5 i0 _ 1 Tryd.underlying26 hi0 hz0 hz1 hz2 rfl u7 (l.length + k) _ rfl hcur ⟨wr.heap.size, 0, none⟩ 1 (.int .u8 ((200 + (q : Int) + (k : Int)) % 256)) rfl (cell_one_new _ _ _) rfl (by simp only [maxLen]; omega) (by omega) (by simp only [World.size_alloc]; omega) ?_)
                           intro v2 w2 hown2 hg2 hat2 hkp2)
              have hb2 : Keeps (blocksOf vs) w w2 := (HBW.out.alloc _).grow hg2 hgc.out
              have hgc2 : Hid (∀ g, v2.ownBlock = some g → g ∈ blocksOf vs ∨ w.heap.size ≤ g) := Lib.hid fun g h => by
                rcases hat2 with e | e
                · rw [e] at h; exact hgc.out g h
                · rw [e, World.size_alloc] at h
                  exact .inr (by have := Option.some.inj h; omega)
              rw [← HMK.out] at hown2
              refine ⟨⟨k + 1, by omega, by go_num, HIN.out.step HL.out (by omega) hown2 hg2 hat2 hkp2, hb2, hgc2⟩, by simp [intOf]; omega⟩
            · obtain rfl : k = 70 := by omega
              have hbs := hbw.size
              obtain ⟨Ac, cc, rfl⟩ := own_slice' (hin.cur l HL.out)
              have hin2 := hin.alloc (.cells #[.slice Ac (l.length + 70) cc] 26)
              have hcur := hin2.ph.row
              have hone : ∀ u ∈ [Value.slice Ac (l.length + 70) cc], u.oneCell' = true := by intro u hu; rw [List.mem_singleton.1 hu]; rfl
              have HIN := Lib.hid hin2; have HBW := Lib.hid hbw; clear hin hin2 hbw
              have hBr : B ≤ wr.heap.size := Nat.le_trans hB hbs
              go_wp2_with (at_builtin
                           go_loud (refine wpList_append_any _ rfl (.tmp 62) (.tmp 64) _ rfl B 26 k0 _ 1 24 Tryd.underlying27 gi0 gz0 gz1 gz2 rfl (by omega) u5 q gs rfl hcur (wr.heap.size + 1) (some ⟨wr.heap.size, 0, none⟩) 1 1 [.slice Ac (l.length + 70) cc] rfl (Reads.one_new _ _ _) hone (by simp only [maxLen]; omega) (by omega) (by simp only [World.size_alloc]; omega) ?_)
                           intro v2 w2 hown2 hg2 hat2)
              have hb2 : Keeps (blocksOf vs) w w2 := (HBW.out.alloc _).grow hg2 (fun g h => .inr (hgv.out g h))
              have hgv2 : Hid (∀ g, v2.ownBlock = some g → w.heap.size ≤ g) := Lib.hid fun g h => by
                rcases hat2 with e | e
                · rw [e] at h; exact hgv.out g h
                · rw [e, World.size_alloc] at h
                  have := Option.some.inj h; omega
              refine ⟨⟨q + 1, gs ++ [.slice Ac (l.length + 70) cc], by omega, by go_num, HIN.out.done HL.out hown2 hg2 hat2, hb2, hgv2⟩, by simp [intOf]; omega⟩
        · obtain rfl : q = j := by omega
          clear hlt
          obtain ⟨W3, hW3⟩ : ∃ W3, W3 = wr := ⟨_, rfl⟩
          subst hW3
          have hHD := hph.hd
          have hgl : gs.length = q := by have := hph.row.1; simpa using this
          have HPH := Lib.hid hph; have HBW := Lib.hid hbw
          obtain ⟨Ag, cg, rfl⟩ := own_slice' hph.row
          have hROW := hph.row
          clear hph hbw
          go_wp2
          go_loopw [9] (fun i wx => ∃ (p r : Nat), p ≤ q ∧ i = .int .i64 p ∧ wx = W3.drewN r) (fun i _ => q - (intOf i).toNat)
          case atStart => exact ⟨0, 0, by omega, rfl, rfl⟩
          case round =>
            obtain ⟨p, r, hp, rfl, rfl⟩ := hrel
            by_cases hlt : p < q
            · obtain ⟨ad, v, rfl, had, hv, hcell⟩ := (Reads.of_own hHD).at_ hlt
              obtain ⟨adg, v', rfl, hadg, hvg, hcellg⟩ := (Reads.of_own hROW).at_ hlt
              obtain ⟨l, hl⟩ : ∃ l, ls[p]? = some l := ⟨_, List.getElem?_eq_getElem (by omega)⟩
              have hl4 := hbig l (List.mem_of_getElem? hl)
              obtain ⟨n, hn⟩ : ∃ n, l.length = n := ⟨_, rfl⟩
              have hrow : W3.ownsRow B 5 1 v l.length ((mks p l.length).map byt) := HPH.out.rows p v l hv hl
              have hrowg := HPH.out.grown p v' l hvg hl
              obtain ⟨Ao, co, rfl⟩ := own_slice' hrow
              obtain ⟨Ap, cp, rfl⟩ := own_slice' hrowg
              rw [hn] at hl4 hv hcell hvg hcellg hrow hrowg
              have hp1 : (p : Int) < q := by omega
              have HV := Lib.hid hv; have HVG := Lib.hid hvg; have HL := Lib.hid hl; have HROW := Lib.hid hrow; have HROWG := Lib.hid hrowg; clear hv hvg hl hrow hrowg
              go_wp2
              go_loop [10] (fun i => ∃ (k : Nat), k ≤ n ∧ i = .int .i64 k) (fun i => n - (intOf i).toNat)
              case atStart => exact ⟨0, by omega, rfl⟩
              case round =>
                obtain ⟨k, hk, rfl⟩ := hrel
                by_cases hkn : k < n
                · obtain ⟨ad2, u, rfl, had2, hx, hcell2⟩ := (Reads.of_own HROW.out).at_ hkn
                  obtain rfl : byt (mkv p k) = u := by
                    rw [List.getElem?_map, mks, List.getElem?_map, List.getElem?_range hkn] at hx
                    exact Option.some.inj hx
                  have hmk : ((mkv p k : Nat) : Int) = (7 * (p : Int) + 3 * (k : Int) + 1) % 256 := by simp [mkv]
                  have hk1 : (k : Int) < n := by omega
                  clear hx
                  go_wp2
                  exact ⟨⟨k + 1, by omega, by go_num⟩, by simp [intOf]; omega⟩
                · obtain rfl : k = n := by omega
                  go_wp2
                  go_loopw [11] (fun i wx => ∃ (t r : Nat), t ≤ 70 ∧ i = .int .i64 t ∧ wx = W3.drewN r) (fun i _ => 70 - (intOf i).toNat)
                  case atStart => exact ⟨0, r, by omega, rfl, rfl⟩
                  case round =>
                    obtain ⟨t, r2, ht, rfl, rfl⟩ := hrel
                    by_cases htn : t < 70
                    · obtain ⟨ad3, u, rfl, had3, hx, hcell3⟩ := (Reads.of_own HROWG.out).at_ (k := k + t) (by omega)
                      obtain rfl : byt (tlv p t) = u := by
                        rw [List.getElem?_map, List.getElem?_append_right (by rw [mks_length]; omega), mks_length, Nat.add_sub_cancel_left, tls, List.getElem?_map, List.getElem?_range htn] at hx
                        exact Option.some.inj hx
                      have hmk : ((tlv p t : Nat) : Int) = (200 + (p : Int) + (t : Int)) % 256 := by simp [tlv]
                      have hk1 : (t : Int) < 70 := by omega
                      clear hx
                      go_wp2
                      go_quiet (fail)
                      go_wp2
                      exact ⟨⟨t + 1, r2 + nq, by omega, by go_num, rfl⟩, by simp [intOf]; omega⟩
                    · obtain rfl : t = 70 := by omega
                      go_wp2
                      exact ⟨⟨p + 1, r2, by omega, by go_num, rfl⟩, by show q - ((p : Int) + 1).toNat < q - (p : Int).toNat; omega⟩
            · obtain rfl : p = q := by omega
              go_wp2
              go_ret
              exact ⟨rfl, HBW.out.os, HBW.out.tape, HBW.out.output, HBW.out.size, HBW.out.block⟩
end Go.Proofs.YtiajmngjhbckjaaDoor
