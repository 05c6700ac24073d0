/- An order of keys (Int): each, Free and Oldest. -/
import Derived.RangeFuncNested
import Derived.RangeFuncBound
import Derived.RangeFuncCalls
import Derived.Test.YtjddjjfcongnlaaOrdGInt
namespace Go.Proofs.Ytjddjjfcongnlaa
open Go.RowKit Go.Maps Go.Shelf
attribute [local go_sem] Oper.semAt_some
/-- The keys that are wanted, of a row. -/
def aKeysInt (free : Bool) (L : List (Int × Nat)) : List Int := (L.filter fun x => !free || decide (x.2 = 0)).map (·.1)
theorem wanted_rowInt (st : St Int) (ps : List Nat) (free : Bool) : wantedInt st ps free = aKeysInt free (rowOf st ps) := by
  unfold wantedInt aKeysInt rowOf
  rw [List.filter_map, List.map_map]
  rfl
/-- The world in which a ranging begins: the two captured cells lie behind all. -/
def eachWInt (w : World) (ov : Value) (free : Bool) : World := (w.alloc (.cells #[ov] 24)).alloc (.cells #[.bool free] 4)
theorem eachInt (w : World) (ov : Value) (free : Bool) (hov : ∃ a, ov = .pointer a) :
    Calls Try.prog 60 #[ov, .bool free] w fun e w' => e = .returned (.func (.func 73) #[] #[.pointer (some ⟨w.heap.size, 0, none⟩), .pointer (some ⟨w.heap.size + 1, 0, none⟩)]) ∧ eachWInt w ov free = w' := by
  obtain ⟨a, rfl⟩ := hov
  unfold eachWInt
  go_enter Try.func60, Try.ntmps60
  go_wp2
  go_ret
  exact ⟨rfl, rfl⟩
theorem freeInt (w : World) (ov : Value) (hov : ∃ a, ov = .pointer a) :
    Calls Try.prog 30 #[ov] w fun e w' => e = .returned (.func (.func 73) #[] #[.pointer (some ⟨w.heap.size, 0, none⟩), .pointer (some ⟨w.heap.size + 1, 0, none⟩)]) ∧ eachWInt w ov true = w' := by
  have he := eachInt w ov true hov
  obtain ⟨a, rfl⟩ := hov
  generalize eachWInt w (.pointer a) true = w1 at *
  go_enter Try.func30, Try.ntmps30
  go_wp2_with fail
  refine he.mono ?_
  rintro e w2 ⟨rfl, rfl⟩
  go_wp2_with fail
  go_ret
  exact ⟨rfl, rfl⟩
theorem blk_keptInt {W W' : World} {row : Option Nat} {g : Nat} {t : TypeId} {cs : Array Value} (h : Blk W g t cs) (hg : W.grownBy W' row) (hr : ∀ r, row = some r → ∃ o : Obj, W.heap[r]? = some o ∧ o.isCells = false) : Blk W' g t cs :=
  h.grown hg (fun e => by
    obtain ⟨o, ho, hc⟩ := hr g e.symm
    unfold Blk at h
    rw [h] at ho
    obtain rfl := Option.some.inj ho
    cases hc)
/-- What Oldest answers. -/
def oldVInt (x : Option Int) : Value := .tuple #[match x with | some k => ekInt k | none => .int .i64 0, .bool x.isSome]
theorem keysHeadInt (xs : List Int) (x : Int) (t : List Int) (h : [x] ++ t = xs) : xs.head? = some x := by rw [← h]; rfl
theorem IsOrderInt.keysAre {w : World} {B o n : Nat} {F : List Nat} {L : List (Int × Nat)} (h : IsOrderInt w B o n F L) (hn : n ≤ 17592186043904) (m : Nat) (free : Bool) :
    KeysAreInt Fence.wide m w (.pointer (some ⟨o, 0, none⟩)) free (aKeysInt free L) ∧ (aKeysInt free L).length ≤ 17592186043904 := by
  obtain ⟨mb, N, D, st, ps, hN, h, rfl, rfl⟩ := h
  have hlen : ps.length ≤ 17592186043904 := by
    have := h.map.size_le
    rw [h.size] at this
    omega
  rw [← wanted_rowInt]
  exact ⟨h.keysAre Fence.wide m trivial rfl free hlen, Nat.le_trans (wanted_leInt st ps free) hlen⟩
set_option maxRecDepth 100000 in
set_option maxHeartbeats 2000000 in
theorem oldestOfInt {w : World} {a : Option Addr} {xs : List Int} (h : KeysAreInt Fence.wide 4 w (.pointer a) true xs) (hlen : xs.length ≤ 17592186043904) :
    Calls Try.prog 17 #[.pointer a] w fun e w' => e = .returned (oldVInt xs.head?) ∧ Below w.heap.size w w' := by
  have hcl := fun w' hb => each1_stopsInt Fence.wide 5 trivial trivial rfl (by omega) (w.heap.size + 2) (w.heap.size + 2 + 1) w.heap.size (fun _ _ => False) a xs true hlen w' (h.mono hb)
  have HCL := Lib.hid hcl
  clear hcl hlen h
  refine (callsIn_wide (n := 6)).1 ?_
  refine callsIn_of_wp_marks Try.func17 rfl trivial ?_ rfl
  simp only [Try.ntmps17, List.size_toArray, List.length_cons, List.length_nil, Nat.reduceAdd, Nat.reduceSub, Array.replicate_succ, Array.replicate_zero, List.push_toArray, List.append_toArray, List.nil_append, List.cons_append]
  gi_wp2_with fail
  refine ⟨trivial, (callsIn_wide.2 (freeInt _ _ ⟨_, rfl⟩)).mono ?_⟩
  rintro e w' ⟨rfl, hw'⟩
  simp only [World.size_alloc] at *
  have hB4 : Below w.heap.size w w' := by
    rw [← hw']
    exact ((((Below.refl _ w).alloc (Nat.le_refl _) _).alloc (by simp) _).alloc (by simp; omega) _).alloc (by simp; omega) _
  have hS4 : w'.heap.size = w.heap.size + 4 := by rw [← hw']; simp [eachWInt]
  have d0 : Blk w' w.heap.size 3 #[(Value.int .i64 0)] := by
    rw [← hw']; exact (((Blk.new w 3 #[(Value.int .i64 0)]).alloc _).alloc _).alloc _
  have d1 : Blk w' (w.heap.size + 1) 4 #[.bool false] := by
    have := Blk.new (w.alloc (.cells #[(Value.int .i64 0)] 3)) 4 #[.bool false]
    simp only [World.size_alloc] at this
    rw [← hw']; exact (this.alloc _).alloc _
  have d2 : w'.cell? ⟨w.heap.size + 1 + 1, 0, none⟩ = some (.pointer a) := by
    have := Blk.new ((w.alloc (.cells #[(Value.int .i64 0)] 3)).alloc (.cells #[.bool false] 4)) 24 #[.pointer a]
    simp only [World.size_alloc] at this
    rw [← hw']; exact (this.alloc _).cell 0
  have d3 : w'.cell? ⟨w.heap.size + 1 + 1 + 1, 0, none⟩ = some (.bool true) := by
    have := Blk.new (((w.alloc (.cells #[(Value.int .i64 0)] 3)).alloc (.cells #[.bool false] 4)).alloc (.cells #[.pointer a] 24)) 4 #[.bool true]
    simp only [World.size_alloc] at this
    rw [← hw']; exact this.cell 0
  clear hw'
  gi_wp2
  refine wpIn_rangeFunc_ownF rfl (by omega) (gf := 73) (lb := #[.pointer (some ⟨w.heap.size + 1 + 1, 0, none⟩), .pointer (some ⟨w.heap.size + 1 + 1 + 1, 0, none⟩)]) rfl trivial (enters_of Try.func73 (by kernel_rfl) rfl)
    (HCL.out w' hB4 d2 d3 (by omega) (fun _ _ _ _ => id)) KpOfInt.t (fun W l o o' _ hl ho _ => ⟨by simp, fun g c fz _ hg hn => ⟨hn, by
      rw [World.putObj_heap_other (fun e => by subst e; rw [hl] at hg; obtain rfl := Option.some.inj hg; simp [Obj.isCells] at ho)]; exact hg⟩⟩) (Below.refl _ _) (fun _ => rfl)
    (fun pre W => (pre = [] ∧ Blk W w.heap.size 3 #[(Value.int .i64 0)] ∧ Blk W (w.heap.size + 1) 4 #[.bool false]) ∧ Below w.heap.size w W)
    (fun c pre W => (c = .ret ∧ ∃ x, pre = [x] ∧ Blk W w.heap.size 3 #[ekInt x] ∧ Blk W (w.heap.size + 1) 4 #[.bool true]) ∧ Below w.heap.size w W)
    ?hI ?hIx ⟨⟨rfl, d0, d1⟩, hB4⟩
    (fun x => { tmps := #[.pointer a, undef, .pointer (some ⟨w.heap.size, 0, none⟩), .pointer (some ⟨w.heap.size + 1, 0, none⟩), ekInt x, undef, .pointer a, .func (.func 73) #[] #[.pointer (some ⟨w.heap.size + 1 + 1, 0, none⟩), .pointer (some ⟨w.heap.size + 1 + 1 + 1, 0, none⟩)], ekInt x, undef, undef], defers := [] }) ?assign ?body ?done ?stop
  case hI => exact OwnFrom.and (Own.from (fun s A B row hs hg hr => ⟨hs.1, blk_keptInt hs.2.1 hg hr, blk_keptInt hs.2.2 hg hr⟩) _) (ownFrom_below (Nat.le_refl _) (by omega))
  case hIx => exact fun c => OwnFrom.and (Own.from (fun s A B row hs hg hr => ⟨hs.1, hs.2.elim fun x hx => ⟨x, hx.1, blk_keptInt hx.2.1 hg hr, blk_keptInt hx.2.2 hg hr⟩⟩) _) (ownFrom_below (Nat.le_refl _) (by omega))
  case assign =>
    intro l x W K hK
    gi_wp2
    exact hK
  case body =>
    rintro l pre x W ⟨⟨rfl, hb0, hb1⟩, hB⟩ _
    have f0 := hb0.frozen 0
    have f1 := hb1.frozen 0
    have e0 := hb0.cell 0
    have e1 := hb1.cell 0
    simp only [List.getElem?_toArray, List.getElem?_cons_zero] at e0 e1
    have g0 := (hb0.set_ 0 (ekInt x)).far (p := ⟨w.heap.size + 1, 0, none⟩) (by simp) (.bool true)
    have g1 := (hb1.far (p := ⟨w.heap.size, 0, none⟩) (by simp) (ekInt x)).set_ 0 (.bool true)
    have G0 := Lib.hid g0; have G1 := Lib.hid g1
    clear g0 g1 hb0 hb1
    unfold ekInt at *
    gi_wp2
    exact ⟨(KeepsOthers.setCell _ _ _).trans (KeepsOthers.setCell _ _ _), ⟨rfl, x, rfl, G0.out, G1.out⟩, (hB.setCell (p := ⟨w.heap.size, 0, none⟩) (by simp) _).setCell (p := ⟨w.heap.size + 1, 0, none⟩) (by simp) _⟩
  case done =>
    rintro D' ys W hD rfl ⟨⟨hne, hb0, hb1⟩, hB⟩ hK
    have f0 := hb0.frozen 0
    have f1 := hb1.frozen 0
    have e0 := hb0.cell 0
    have e1 := hb1.cell 0
    simp only [List.getElem?_toArray, List.getElem?_cons_zero] at e0 e1
    have g0 : Blk ((W.setCell ⟨w.heap.size, 0, none⟩ (Value.int .i64 0)).setCell ⟨w.heap.size + 1, 0, none⟩ (.bool false)) w.heap.size 3 #[(Value.int .i64 0)] := (hb0.set_ 0 (Value.int .i64 0)).far (p := ⟨w.heap.size + 1, 0, none⟩) (by simp) (.bool false)
    have g1 : Blk ((W.setCell ⟨w.heap.size, 0, none⟩ (Value.int .i64 0)).setCell ⟨w.heap.size + 1, 0, none⟩ (.bool false)) (w.heap.size + 1) 4 #[.bool false] := (hb1.far (p := ⟨w.heap.size, 0, none⟩) (by simp) (Value.int .i64 0)).set_ 0 (.bool false)
    have G0 := Lib.hid g0; have G1 := Lib.hid g1; have HNE := Lib.hid hne
    clear g0 g1 hb0 hb1 hne
    gi_wp2
    have hK' := ((KeepsOthers.setCell W ⟨w.heap.size, 0, none⟩ (Value.int .i64 0)).trans (KeepsOthers.setCell _ ⟨w.heap.size + 1, 0, none⟩ (.bool false))).same D' _ hK rfl
    refine ⟨by simp, .inl ⟨_, _, rfl, run_takeDeferred hK', ?_⟩⟩
    have hkk := grownBy_putObj' ((W.setCell { block := w.heap.size, off := 0 } (Value.int .i64 0)).setCell { block := w.heap.size + 1, off := 0 } (Value.bool false)) D' (.deferred none)
    have q0 := blk_keptInt G0.out hkk (fun r e => by cases e; exact ⟨_, hK', rfl⟩)
    have q1 := blk_keptInt G1.out hkk (fun r e => by cases e; exact ⟨_, hK', rfl⟩)
    have r0 := q0.cell 0
    have r1 := q1.cell 0
    simp only [List.getElem?_toArray, List.getElem?_cons_zero] at r0 r1
    refine ⟨.tuple #[(Value.int .i64 0), .bool false], ?_, by rw [HNE.out]; rfl, ((hB.setCell (p := ⟨w.heap.size, 0, none⟩) (by simp) _).setCell (p := ⟨w.heap.size + 1, 0, none⟩) (by simp) _).trans (belowK_b (w := w) (Nat.le_refl _) _ D' _ _ (by omega) hK' rfl rfl)⟩
    simp [results, Try.f17, go_sem, r0, r1]
  case stop =>
    rintro D' c pre W hD ⟨rest, hpre⟩ ⟨⟨rfl, x, rfl, hb0, hb1⟩, hB⟩ hK
    have hhd := keysHeadInt xs x rest hpre
    have HHD := Lib.hid hhd
    clear hhd hpre
    gi_wp2
    refine ⟨by simp, .inl ⟨_, _, rfl, run_takeDeferred hK, ?_⟩⟩
    have hkk := grownBy_putObj' W D' (.deferred none)
    have q0 := blk_keptInt hb0 hkk (fun r e => by cases e; exact ⟨_, hK, rfl⟩)
    have q1 := blk_keptInt hb1 hkk (fun r e => by cases e; exact ⟨_, hK, rfl⟩)
    have r0 := q0.cell 0
    have r1 := q1.cell 0
    simp only [List.getElem?_toArray, List.getElem?_cons_zero] at r0 r1
    refine ⟨.tuple #[ekInt x, .bool true], ?_, by rw [HHD.out]; rfl, hB.trans (belowK_b (w := w) (Nat.le_refl _) W D' _ _ (by omega) hK rfl rfl)⟩
    simp [results, Try.f17, go_sem, r0, r1]
theorem pinsRInt {w : World} {B o n : Nat} {F : List Nat} {L : List (Int × Nat)} (h : IsOrderInt w B o n F L) {k : Int} (hk : okInt k) :
    Calls Try.prog 15 #[.pointer (some ⟨o, 0, none⟩), ekInt k] w fun e w' => e = .returned (.int .i64 (aPins L k : Nat)) ∧ w = w' := by
  obtain ⟨mb, N, D, st, ps, hN, h, rfl, rfl⟩ := h
  rw [pins_row]
  exact (pinsInt h hk).mono fun _ _ ⟨h1, h2⟩ => ⟨h1, h2.symm⟩
theorem lenRInt {w : World} {B o n : Nat} {F : List Nat} {L : List (Int × Nat)} (h : IsOrderInt w B o n F L) :
    Calls Try.prog 20 #[.pointer (some ⟨o, 0, none⟩)] w fun e w' => e = .returned (.int .i64 (L.length : Nat)) ∧ w = w' := by
  obtain ⟨mb, N, D, st, ps, hN, h, rfl, rfl⟩ := h
  have : (rowOf st ps).length = ps.length := List.length_map _
  rw [this]
  exact (lenInt h).mono fun _ _ ⟨h1, h2⟩ => ⟨h1, h2.symm⟩
theorem IsOrderInt.keeps {w w' : World} {B o n : Nat} {F F' : List Nat} {L : List (Int × Nat)} (h : IsOrderInt w B o n F L) (hk : Keeps F' w w') (hd : ∀ x ∈ F, x ∉ F') : IsOrderInt w' B o n F L := by
  obtain ⟨mb, N, D, st, ps, hN, h, rfl, rfl⟩ := h
  exact ⟨mb, N, D, st, ps, hN, h.turn (h.rep.keeps hk (hd o (by simp)) (fun p hp => hd p (by simp [hp]))) h.chain hk (hd mb (by simp)) (fun _ => Iff.rfl) rfl rfl h.pin, rfl, rfl⟩
theorem IsOrderInt.below {w w' : World} {B o n : Nat} {F : List Nat} {L : List (Int × Nat)} (h : IsOrderInt w B o n F L) (hb : Below w.heap.size w w') : IsOrderInt w' B o n F L :=
  h.keeps (F' := []) ⟨hb.os, hb.tape, hb.output, hb.size, fun k hk _ => hb.block k hk⟩ (fun _ _ => by simp)
theorem IsOrderInt.lt {w : World} {B o n : Nat} {F : List Nat} {L : List (Int × Nat)} (h : IsOrderInt w B o n F L) : ∀ x ∈ F, B ≤ x ∧ x < w.heap.size := by
  obtain ⟨mb, N, D, st, ps, hN, h, rfl, rfl⟩ := h
  intro x hx
  simp only [List.mem_cons] at hx
  rcases hx with rfl | rfl | hx
  · exact ⟨h.base.1, h.rep.ord.lt⟩
  · exact ⟨h.base.2.1, h.map.lt⟩
  · exact ⟨h.base.2.2 x hx, (h.rep.pl x hx).lt⟩
theorem IsOrderInt.more {w : World} {B o n n' : Nat} {F : List Nat} {L : List (Int × Nat)} (h : IsOrderInt w B o n F L) (hn : n ≤ n') : IsOrderInt w B o n' F L := by
  obtain ⟨mb, N, D, st, ps, hN, h, h1, h2⟩ := h
  exact ⟨mb, N, D, st, ps, by omega, h, h1, h2⟩
theorem oldestInt {w : World} {B o n : Nat} {F : List Nat} {L : List (Int × Nat)} (h : IsOrderInt w B o n F L) (hn : n ≤ 17592186043904) :
    Calls Try.prog 17 #[.pointer (some ⟨o, 0, none⟩)] w fun e w' => e = .returned (oldVInt (aKeysInt true L).head?) ∧ Below w.heap.size w w' :=
  oldestOfInt (h.keysAre hn 4 true).1 (h.keysAre hn 4 true).2
end Go.Proofs.Ytjddjjfcongnlaa
