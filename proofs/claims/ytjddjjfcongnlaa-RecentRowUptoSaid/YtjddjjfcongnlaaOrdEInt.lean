/- An order of keys (Int): the keys that are wanted, oldest first. -/
import Derived.Test.YtjddjjfcongnlaaOrdDInt
import Derived.Test.YtjddjjfcongnlaaKeep
import Derived.Deep.LoopGhost
namespace Go.Proofs.Ytjddjjfcongnlaa
open Go.RowKit Go.Maps
theorem infoKInt : (Try.prog.info? 3).map (fun i => (i.zero, i.size, i.bytes)) = some (some (.int .i64 0), 1, 8) := by kernel_rfl
def wantedInt (st : St Int) (ps : List Nat) (free : Bool) : List Int := (ps.filter fun p => !free || decide (st.pins p = 0)).map st.key
theorem wanted_snocInt (st : St Int) (ps : List Nat) (free : Bool) (i p : Nat) (hp : ps[i]? = some p) : wantedInt st (ps.take (i + 1)) free = wantedInt st (ps.take i) free ++ (if (!free || decide (st.pins p = 0)) = true then [st.key p] else []) := by
  unfold wantedInt
  rw [List.take_add_one, hp, List.filter_append, List.map_append]
  congr 1
  by_cases hc : (!free || decide (st.pins p = 0)) = true
  · rw [if_pos hc]; simp [hc]
  · rw [if_neg hc]; simp only [Bool.not_eq_true] at hc; simp [hc]
theorem wanted_leInt (st : St Int) (ps : List Nat) (free : Bool) : (wantedInt st ps free).length ≤ ps.length := by
  unfold wantedInt
  rw [List.length_map]
  exact List.length_filter_le ..
set_option maxRecDepth 20000 in
set_option maxHeartbeats 2000000 in
theorem keysInt {w : World} {B o mb N : Nat} {D : DataW Unit} {st : St Int} {ps : List Nat} (h : OrdInt w B o mb N D st ps) (free : Bool) (hlen : ps.length ≤ 17592186043904) :
    Calls Try.prog 74 #[.pointer (some ⟨o, 0, none⟩), .bool free] w fun e w' => ∃ v, e = .returned v ∧ w'.ownsRow w.heap.size 3 1 v (wantedInt st ps free).length ((wantedInt st ps free).map ekInt) ∧ Below w.heap.size w w' := by
  obtain ⟨i0, hi0, hz0, hz1, hz2⟩ := info_parts infoKInt
  have o2 := Blk.cell h.rep.ord 2
  simp only [List.getElem?_toArray, List.getElem?_cons_zero, List.getElem?_cons_succ] at o2
  rw [h.chain.first] at o2
  have hlt := h.rep.ord.lt
  have HH := Lib.hid h; have HLEN := Lib.hid hlen
  clear h hlen
  go_enter Try.func74, Try.ntmps74
  go_wp2
  go_loopg [5, 6] (ps.length + 1) (fun gk v pp wx => ∃ i, i ≤ ps.length ∧ ps.length - i < gk ∧ pp = pv ps[i]? ∧ wx.ownsRow w.heap.size 3 1 v (wantedInt st (ps.take i) free).length ((wantedInt st (ps.take i) free).map ekInt) ∧ Below w.heap.size w wx)
  case atStart => exact ⟨0, by omega, by omega, rfl, ⟨rfl, .inl ⟨rfl, rfl⟩⟩, Below.refl _ _⟩
  case round =>
    obtain ⟨i, hi, hg, rfl, hown, hbw⟩ := hrel
    obtain ⟨g', rfl⟩ : ∃ g', gk = g' + 1 := ⟨gk - 1, by omega⟩
    have hbs := hbw.size
    by_cases hil : i < ps.length
    · obtain ⟨p, hp⟩ : ∃ p, ps[i]? = some p := ⟨_, List.getElem?_eq_getElem hil⟩
      have hpm := List.mem_of_getElem? hp
      have hbp := Blk.below (HH.out.rep.pl p hpm) hbw (HH.out.rep.pl p hpm).lt
      have p1 := Blk.cell hbp 1
      have p2 := Blk.cell hbp 2
      have p3 := Blk.cell hbp 3
      simp only [List.getElem?_toArray, List.getElem?_cons_zero, List.getElem?_cons_succ] at p1 p2 p3
      rw [(HH.out.chain.at_ i p hp).2] at p1
      have hsn := wanted_snocInt st ps free i p hp
      have hwl := wanted_leInt st (ps.take i) free
      rw [List.length_take] at hwl
      have hlen := HLEN.out
      rw [hp]
      by_cases hc : (!free || decide (st.pins p = 0)) = true
      · rw [if_pos hc] at hsn
        have HSN := Lib.hid hsn; have HC := Lib.hid hc
        have hcz : free = false ∨ st.pins p = 0 := by cases free <;> simp_all
        have HI := Lib.hid hi; have HG := Lib.hid hg; have HIL := Lib.hid hil; have HP := Lib.hid hp
        have hown2 := hown.alloc (.cells #[ekInt (st.key p)] 3)
        have hbd : (wantedInt st (ps.take i) free).length ≤ 17592186043904 := by omega
        have HBD := Lib.hid hbd; have HOWN2 := Lib.hid hown2; have HHOWN := Lib.hid hown
        have hcz' : free = false ∨ ((st.pins p : Nat) : Int) = 0 := by rcases hcz with h1 | h1 <;> simp [h1]
        clear hsn hc hwl hlen hbp hi hg hil hp hown2 hbd hcz hown
        generalize hnx : pv ps[i + 1]? = nx at *
        generalize pv ps[0]? = fx at *
        generalize ((st.pins p : Nat) : Int) = z at *
        simp only [pv]
        by_cases hff : free = false
        · subst hff
          clear hcz'
          go_wp2_with (at_builtin
                       refine wpList_append_any _ rfl (.tmp 30) (.tmp 35) _ rfl w.heap.size 3 i0 _ 1 8 Try.underlying31 hi0 hz0 hz1 hz2 rfl (by omega) u5 _ _ rfl HOWN2.out (wr.heap.size + 1) (some ⟨wr.heap.size, 0, none⟩) 1 1 [ekInt (st.key p)] rfl (Reads.one_new _ _ _) (by intro u hu; rw [List.mem_singleton.1 hu]; rfl) (by have := HBD.out; simp only [maxLen]; omega) (by have := HBD.out; omega) (by simp only [World.size_alloc]; omega) ?_
                       intro v2 w2 hown3 hg2 hat2
                       have hb2 : Below w.heap.size w w2 := (hbw.alloc hbs _).grown hg2 (by simp only [World.size_alloc]; omega) (fun k hk => (HOWN2.out.lt k hk).1)
                       have q1 := Blk.cell (Blk.below (HH.out.rep.pl p hpm) hb2 (HH.out.rep.pl p hpm).lt) 1
                       simp only [List.getElem?_toArray, List.getElem?_cons_zero, List.getElem?_cons_succ] at q1
                       rw [(HH.out.chain.at_ i p HP.out).2, hnx] at q1)
          have hi := HI.out; have hg := HG.out; have hil := HIL.out
          go_roundg g'
          case measure => omega
          refine ⟨i + 1, by omega, by omega, hnx.symm, ?_, hb2⟩
          rw [HSN.out, List.length_append, List.map_append]
          exact hown3
        · obtain rfl : free = true := by simpa using hff
          obtain rfl : z = 0 := hcz'.resolve_left hff
          clear hff hcz'
          go_wp2_with (at_builtin
                       refine wpList_append_any _ rfl (.tmp 30) (.tmp 35) _ rfl w.heap.size 3 i0 _ 1 8 Try.underlying31 hi0 hz0 hz1 hz2 rfl (by omega) u5 _ _ rfl HOWN2.out (wr.heap.size + 1) (some ⟨wr.heap.size, 0, none⟩) 1 1 [ekInt (st.key p)] rfl (Reads.one_new _ _ _) (by intro u hu; rw [List.mem_singleton.1 hu]; rfl) (by have := HBD.out; simp only [maxLen]; omega) (by have := HBD.out; omega) (by simp only [World.size_alloc]; omega) ?_
                       intro v2 w2 hown3 hg2 hat2
                       have hb2 : Below w.heap.size w w2 := (hbw.alloc hbs _).grown hg2 (by simp only [World.size_alloc]; omega) (fun k hk => (HOWN2.out.lt k hk).1)
                       have q1 := Blk.cell (Blk.below (HH.out.rep.pl p hpm) hb2 (HH.out.rep.pl p hpm).lt) 1
                       simp only [List.getElem?_toArray, List.getElem?_cons_zero, List.getElem?_cons_succ] at q1
                       rw [(HH.out.chain.at_ i p HP.out).2, hnx] at q1)
          have hi := HI.out; have hg := HG.out; have hil := HIL.out
          go_roundg g'
          case measure => omega
          refine ⟨i + 1, by omega, by omega, hnx.symm, ?_, hb2⟩
          rw [HSN.out, List.length_append, List.map_append]
          exact hown3
      · rw [if_neg hc, List.append_nil] at hsn
        have hfr : free = true := by cases free <;> simp_all
        have hpz : ((st.pins p : Int) == 0) = false := by subst hfr; simpa using hc
        subst hfr
        have HSN := Lib.hid hsn
        have HI := Lib.hid hi; have HG := Lib.hid hg; have HIL := Lib.hid hil; have HP := Lib.hid hp
        clear hsn hc hwl hlen hbp hi hg hil hp
        generalize hnx : pv ps[i + 1]? = nx at *
        generalize pv ps[0]? = fx at *
        simp only [pv]
        go_wp2
        have hi := HI.out; have hg := HG.out; have hil := HIL.out
        go_roundg g'
        case measure => omega
        refine ⟨i + 1, by omega, by omega, hnx.symm, ?_, hbw⟩
        rw [HSN.out]
        exact hown
    · obtain rfl : i = ps.length := by omega
      rw [List.getElem?_eq_none (by omega : ps.length ≤ ps.length)]
      rw [List.take_length] at hown
      simp only [pv]
      go_wp2
      all_goals go_ret
      all_goals exact ⟨_, rfl, hown, hbw⟩
end Go.Proofs.Ytjddjjfcongnlaa
