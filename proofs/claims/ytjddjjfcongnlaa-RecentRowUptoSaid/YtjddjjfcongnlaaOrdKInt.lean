/- The law's free: a ranging that collects (Int). -/
import Derived.Test.YtjddjjfcongnlaaOrdJInt
namespace Go.Proofs.Ytjddjjfcongnlaa
open Go.RowKit Go.Maps Go.Shelf
attribute [local go_sem] Oper.semAt_some
set_option maxRecDepth 100000 in
set_option maxHeartbeats 2000000 in
theorem freeOfInt {w : World} {a : Option Addr} {xs : List Int} (h : KeysAreInt Fence.wide 4 w (.pointer a) true xs) (hlen : xs.length ≤ 17592186043904) :
    Calls Try.prog 49 #[.pointer a] w fun e w' => ∃ v, e = .returned v ∧ w'.ownsRow w.heap.size 3 1 v xs.length (xs.map ekInt) ∧ Below w.heap.size w w' := by
  obtain ⟨i0, hi0, hz0, hz1, hz2⟩ := info_parts infoKInt
  have hcl := fun w' hb => each1_stopsInt Fence.wide 5 trivial trivial rfl (by omega) (w.heap.size + 1) (w.heap.size + 1 + 1) w.heap.size (LOwnInt w.heap.size) a xs true hlen w' (h.mono hb)
  have HCL := Lib.hid hcl; have HLEN := Lib.hid hlen
  clear hcl hlen h
  refine (callsIn_wide (n := 6)).1 ?_
  refine callsIn_of_wp_marks Try.func49 rfl trivial ?_ rfl
  simp only [Try.ntmps49, List.size_toArray, List.length_cons, List.length_nil, Nat.reduceAdd, Nat.reduceSub, Array.replicate_succ, Array.replicate_zero, List.push_toArray, List.append_toArray, List.nil_append, List.cons_append]
  gi_wp2_with fail
  refine ⟨trivial, (callsIn_wide.2 (freeInt _ _ ⟨_, rfl⟩)).mono ?_⟩
  rintro e w' ⟨rfl, hw'⟩
  simp only [World.size_alloc] at *
  have hB4 : Below w.heap.size w w' := by
    rw [← hw']
    exact (((Below.refl _ w).alloc (Nat.le_refl _) _).alloc (by simp) _).alloc (by simp; omega) _
  have hS4 : w'.heap.size = w.heap.size + 3 := by rw [← hw']; simp [eachWInt]
  have d0 : Blk w' w.heap.size 31 #[.slice none 0 0] := by
    rw [← hw']; exact ((Blk.new w 31 #[.slice none 0 0]).alloc _).alloc _
  have d2 : w'.cell? ⟨w.heap.size + 1, 0, none⟩ = some (.pointer a) := by
    have := Blk.new (w.alloc (.cells #[.slice none 0 0] 31)) 24 #[.pointer a]
    simp only [World.size_alloc] at this
    rw [← hw']; exact (this.alloc _).cell 0
  have d3 : w'.cell? ⟨w.heap.size + 1 + 1, 0, none⟩ = some (.bool true) := by
    have := Blk.new ((w.alloc (.cells #[.slice none 0 0] 31)).alloc (.cells #[.pointer a] 24)) 4 #[.bool true]
    simp only [World.size_alloc] at this
    rw [← hw']; exact this.cell 0
  clear hw'
  have hfn := func_nilInt #[.pointer (some ⟨w.heap.size + 1, 0, none⟩), .pointer (some ⟨w.heap.size + 1 + 1, 0, none⟩)]
  gi_wp2
  refine wpIn_rangeFunc_ownF rfl (by omega) (gf := 73) (lb := #[.pointer (some ⟨w.heap.size + 1, 0, none⟩), .pointer (some ⟨w.heap.size + 1 + 1, 0, none⟩)]) rfl trivial (enters_of Try.func73 (by kernel_rfl) rfl)
    (HCL.out w' hB4 d2 d3 (by omega) (fun A' g hA _ => lown_noInt d0 hA)) KpOfInt.t (fun W l o o' hlb hl ho _ => lown_bInt (by omega) hl ho) (Below.refl _ _) (fun _ => rfl)
    (fun pre W => (∃ v, Blk W w.heap.size 31 #[v] ∧ W.ownsRow w.heap.size 3 1 v pre.length (pre.map ekInt)) ∧ Below w.heap.size w W)
    (fun _ _ _ => False)
    ?hI (fun _ _ _ _ _ hs _ _ => hs) ⟨⟨_, d0, ⟨rfl, .inl ⟨rfl, rfl⟩⟩⟩, hB4⟩
    (fun x => { tmps := #[.pointer a, undef, .slice none 0 0, .pointer (some ⟨w.heap.size, 0, none⟩), .func (.func 73) #[] #[.pointer (some ⟨w.heap.size + 1, 0, none⟩), .pointer (some ⟨w.heap.size + 1 + 1, 0, none⟩)], ekInt x, .pointer a, .func (.func 73) #[] #[.pointer (some ⟨w.heap.size + 1, 0, none⟩), .pointer (some ⟨w.heap.size + 1 + 1, 0, none⟩)], .func (.func 73) #[] #[.pointer (some ⟨w.heap.size + 1, 0, none⟩), .pointer (some ⟨w.heap.size + 1 + 1, 0, none⟩)], .bool false, .func (.func 73) #[] #[.pointer (some ⟨w.heap.size + 1, 0, none⟩), .pointer (some ⟨w.heap.size + 1 + 1, 0, none⟩)], ekInt x, undef, undef, undef, undef, undef], defers := [] }) ?assign ?body ?done ?stop
  case hI => exact OwnFrom.and (Own.from (fun s A B row hs hg hr => by
      obtain ⟨v, hb, ho⟩ := hs
      refine ⟨v, blk_keptInt hb hg hr, ho.kept hg ?_⟩
      rcases ho.2 with ⟨rfl, _⟩ | ⟨g, cap, cur, rfl, _, hgb, _⟩
      · exact .inl rfl
      · refine .inr fun e => ?_
        obtain ⟨o, h1, h2⟩ := hr g (by simpa [Value.ownBlock] using e.symm)
        rw [hgb] at h1
        obtain rfl := Option.some.inj h1
        cases h2) _) (ownFrom_below (Nat.le_refl _) (by omega))
  case assign =>
    intro l x W K hK
    gi_wp2
    exact hK
  case body =>
    rintro l pre x W ⟨⟨v, hb0, hrow⟩, hB⟩ hlt
    obtain ⟨A, c, rfl⟩ := own_sliceInt hrow
    have hBs := hB.size
    have hl := HLEN.out
    have f0 := hb0.frozen 0
    have e0 := hb0.cell 0
    simp only [List.getElem?_toArray, List.getElem?_cons_zero] at e0
    have hb1 := hb0.alloc (.cells #[ekInt x] 3)
    have hrow1 := hrow.alloc (.cells #[ekInt x] 3)
    have HB0 := Lib.hid hb0; have HB1 := Lib.hid hb1; have HROW1 := Lib.hid hrow1; have HROW := Lib.hid hrow
    clear hb0 hb1 hrow1 hrow
    unfold ekInt at *
    gi_wp2_with (
      gi_at_builtin
      refine wpListIn_append_any _ rfl _ _ 31 rfl w.heap.size 3 i0 _ 1 8 Try.underlying31 hi0 hz0 hz1 hz2 rfl (by omega) _ pre.length _ rfl HROW1.out (W.heap.size + 1) (some ⟨W.heap.size, 0, none⟩) 1 1 [.int .i64 x] rfl (Reads.one_new _ _ _) (by intro u hu; rw [List.mem_singleton.1 hu]; rfl) (by simp only [maxLen]; omega) (by omega) (by rw [World.size_alloc]; omega) ?_
      intro v2 w2 hown3 hg2 hat2
      obtain ⟨A2, c2, rfl⟩ := own_sliceInt hown3
      have hb2 := HB1.out.grown hg2 (fun e => own_blk_ne HROW1.out HB1.out (by decide) e.symm)
      have f2 := hb2.frozen 0
      have e2 := hb2.cell 0
      simp only [List.getElem?_toArray, List.getElem?_cons_zero] at e2
      have HB2 := Lib.hid hb2; have HOWN3 := Lib.hid hown3; have HG2 := Lib.hid hg2; have HAT := Lib.hid hat2
      clear hb2 hown3 hg2 hat2)
    rw [World.size_alloc] at HAT
    have hB2 : Below w.heap.size w w2 := ((hB.alloc hBs _).grown HG2.out (by rw [World.size_alloc]; omega) (fun k hk => (HROW.out.lt k hk).1))
    have hkp := lown_kpInt (n₀ := w.heap.size) (by decide) HB0.out HG2.out HAT.out HB2.out
    have hb3 : Blk (w2.setCell ⟨w.heap.size, 0, none⟩ (.slice A2 (pre.length + 1) c2)) w.heap.size 31 #[.slice A2 (pre.length + 1) c2] := HB2.out.set_ 0 _
    have hown4 : (w2.setCell ⟨w.heap.size, 0, none⟩ (.slice A2 (pre.length + 1) c2)).ownsRow w.heap.size 3 1 (.slice A2 (pre.length + 1) c2) (pre ++ [x]).length ((pre ++ [x]).map ekInt) := by
      rw [List.length_append, List.map_append]
      refine HOWN3.out.kept (row := some w.heap.size) ⟨rfl, rfl, rfl, by simp [World.setCell], fun k _ hk => Below.heap_setCell _ _ _ _ (fun e => hk (by rw [e]))⟩ ?_
      exact .inr (own_blk_ne HOWN3.out HB2.out (by decide))
    refine ⟨?_, hkp, ⟨_, hb3, hown4⟩, hB2.setCell (p := ⟨w.heap.size, 0, none⟩) (Nat.le_refl _) _⟩
    refine (KeepsOthers.trans (KeepsOthers.of_grownBy (World.grownBy_alloc W _ none) (fun j o e _ => by cases e)) (KeepsOthers.of_grownBy HG2.out fun j o hj ho => ?_)).trans (KeepsOthers.setCell _ _ _)
    rcases HROW1.out.2 with ⟨h1, _⟩ | ⟨g, cap, cur, h1, _, hgb, _⟩
    · rw [h1] at hj; cases hj
    · rw [h1] at hj
      obtain rfl : j = g := (Option.some.inj (show some g = some j from by rw [← hj]; rfl)).symm
      rw [hgb] at ho
      obtain rfl := Option.some.inj ho
      rfl
  case done =>
    rintro D ys W hD rfl ⟨⟨v, hb0, hrow⟩, hB⟩ hK
    obtain ⟨A, c, rfl⟩ := own_sliceInt hrow
    have e0 := hb0.cell 0
    simp only [List.getElem?_toArray, List.getElem?_cons_zero] at e0
    have HROW := Lib.hid hrow
    clear hb0 hrow
    gi_wp2
    refine ⟨by simp, .inl ⟨_, _, rfl, run_takeDeferred hK, ?_⟩⟩
    exact ⟨_, results_tmp rfl _ _ _, ⟨_, rfl, ownsRow_putObj HROW.out _ hK rfl, hB.trans (belowK_b (w := w) (Nat.le_refl _) W D _ _ (by omega) hK rfl rfl)⟩⟩
  case stop =>
    rintro D c pre W hD _ h _
    exact h.elim
end Go.Proofs.Ytjddjjfcongnlaa
