/- One act on both orders; what both tell. -/
import Derived.Test.YtjddjjfcongnlaaTold
namespace Go.Proofs.Ytjddjjfcongnlaa
open Go.RowKit Go.Maps
/-- A row behind an act. -/
def aStep (L : List (Int × Nat)) (x : Int × Int) : List (Int × Nat) :=
  if x.1 = 1 then aAdd L x.2 else if x.1 = 2 then aTouch L x.2 else if x.1 = 3 then aDrop L x.2 else if x.1 = 4 then aPin L x.2 else if x.1 = 5 then aUnpin L x.2 else L
section
variable {w : World} {B o n d : Nat} {F : List Nat} {v : Value} {L : List (Int × Nat)} {k : Int}
set_option maxRecDepth 20000 in
set_option maxHeartbeats 4000000 in
theorem playNone_any {j : Int} (h : Both w B o n d L F v) (h1 : j ≠ 1) (h2 : j ≠ 2) (h3 : j ≠ 3) (h4 : j ≠ 4) (h5 : j ≠ 5) :
    Calls Try.prog 26 #[.pointer (some ⟨o, 0, none⟩), .pointer (some ⟨d, 0, none⟩), .agg #[.int .i64 j, .int .i64 k]] w fun e w' => e = .returned (.bool true) ∧ PlayPost w w' B o n d L F v := by
  have HW : Hid (Both (w.alloc (.cells #[.int .i64 j, .int .i64 k] 45)) B o n d L F v) := Lib.hid ⟨h.1.below ((Below.refl _ _).alloc (Nat.le_refl _) _), h.2.below ((Below.refl _ _).alloc (Nat.le_refl _) _)⟩
  have hbox := Blk.new w 45 #[.int .i64 j, .int .i64 k]
  have hkw : Keeps (F ++ FD d v) w (w.alloc (.cells #[.int .i64 j, .int .i64 k] 45)) := (Keeps.refl _ _).alloc _
  have e0 := hbox.cell 0
  have e1 := hbox.cell 1
  simp only [List.getElem?_toArray, List.getElem?_cons_zero, List.getElem?_cons_succ] at e0 e1
  have d1 : (j == 1) = false := by simp [h1]
  have d2 : (j == 2) = false := by simp [h2]
  have d3 : (j == 3) = false := by simp [h3]
  have d4 : (j == 4) = false := by simp [h4]
  have d5 : (j == 5) = false := by simp [h5]
  have HKW := Lib.hid hkw
  clear hbox hkw h h1 h2 h3 h4 h5
  go_enter Try.func26, Try.ntmps26
  go_wp2
  generalize w.alloc (.cells #[.int .i64 j, .int .i64 k] 45) = W at *
  go_wp2
  go_ret
  exact ⟨rfl, _, _, HW.out, HKW.out, fun x hx => .inl hx⟩
theorem oc_add (hk : okInt k) (hn : n < 140737488355327) : OC 13 B o n (n + 1) k L (aAdd L k) (!aHas L k) := fun _ _ h hB =>
  (addInt h hk hn hB).mono fun _ _ ⟨a, ⟨F', b, s, _⟩, c⟩ => ⟨a, ⟨F', b, s⟩, c⟩
theorem oc_touch (hk : okInt k) : OC 19 B o n (n + 1) k L (aTouch L k) (aHas L k) := fun _ _ h _ =>
  (touchInt h hk).mono fun _ _ ⟨a, ⟨F', b, s⟩, c⟩ => ⟨a, ⟨F', b.more (Nat.le_succ _), fun x hx => .inl ((s x).1 hx)⟩, c⟩
theorem oc_drop (hk : okInt k) : OC 21 B o n (n + 1) k L (aDrop L k) (aHas L k) := fun _ _ h _ =>
  (dropInt h hk).mono fun _ _ ⟨a, ⟨F', b, s⟩, c⟩ => ⟨a, ⟨F', b.more (Nat.le_succ _), fun x hx => .inl (s x hx)⟩, c⟩
theorem oc_pin (hk : okInt k) : OC 14 B o n (n + 1) k L (aPin L k) (aPinOk L k) := fun _ _ h _ =>
  (pinInt h hk).mono fun _ _ ⟨a, b, c⟩ => ⟨a, ⟨_, b.more (Nat.le_succ _), fun _ hx => .inl hx⟩, c⟩
theorem oc_unpin (hk : okInt k) : OC 16 B o n (n + 1) k L (aUnpin L k) (aUnpinOk L k) := fun _ _ h _ =>
  (unpinInt h hk).mono fun _ _ ⟨a, b, c⟩ => ⟨a, ⟨_, b.more (Nat.le_succ _), fun _ hx => .inl hx⟩, c⟩
theorem dc_add (hn : KOk L) (hl : L.length ≤ 8796093022207) : DC 35 B d k L (aAdd L k) (!aHas L k) := fun _ _ h hB => by
  have := dadd_any h hn k hl hB
  simpa using this
theorem dc_touch (hn : KOk L) (hl : L.length ≤ 8796093022207) : DC 37 B d k L (aTouch L k) (aHas L k) := fun _ _ h hB => dtouch_any h hn k hl hB
theorem dc_drop (hn : KOk L) (hl : L.length ≤ 8796093022207) : DC 39 B d k L (aDrop L k) (aHas L k) := fun _ _ h hB => ddrop_any h hn k hl hB
theorem dc_pin (hn : KOk L) (hl : L.length ≤ 8796093022207) : DC 41 B d k L (aPin L k) (aPinOk L k) := fun _ _ h _ =>
  (dpin_any h hn k (by omega)).mono fun _ _ ⟨a, b, c⟩ => ⟨a, _, b, fun _ hx => .inl hx, c⟩
theorem dc_unpin (hn : KOk L) (hl : L.length ≤ 8796093022207) (hp : ∀ x ∈ L, x.2 ≤ 2147483647) : DC 43 B d k L (aUnpin L k) (aUnpinOk L k) := fun _ _ h _ =>
  (dunpin_any h hn k (by omega) hp).mono fun _ _ ⟨a, b, c⟩ => ⟨a, _, b, fun _ hx => .inl hx, c⟩
/-- The law's play, any act. -/
theorem play_any (h : Both w B o n d L F v) (hB : B ≤ w.heap.size) (j : Int) (hk : okInt k) (hn : n ≤ 8796093022207) :
    Calls Try.prog 26 #[.pointer (some ⟨o, 0, none⟩), .pointer (some ⟨d, 0, none⟩), .agg #[.int .i64 j, .int .i64 k]] w fun e w' => e = .returned (.bool true) ∧ PlayPost w w' B o (n + 1) d (aStep L (j, k)) F v := by
  have hko := h.1.kok
  have hl : L.length ≤ 8796093022207 := Nat.le_trans h.1.len hn
  unfold aStep
  by_cases h1 : j = 1
  · subst h1
    rw [if_pos rfl]
    exact playAdd_any h hB (oc_add hk (by omega)) (dc_add hko hl)
  by_cases h2 : j = 2
  · subst h2
    rw [if_neg (show ¬ ((2 : Int), k).1 = 1 from (by decide : ¬ (2 : Int) = 1)), if_pos rfl]
    exact playTouch_any h hB (oc_touch hk) (dc_touch hko hl)
  by_cases h3 : j = 3
  · subst h3
    rw [if_neg (show ¬ ((3 : Int), k).1 = 1 from (by decide : ¬ (3 : Int) = 1)), if_neg (show ¬ ((3 : Int), k).1 = 2 from (by decide : ¬ (3 : Int) = 2)), if_pos rfl]
    exact playDrop_any h hB (oc_drop hk) (dc_drop hko hl)
  by_cases h4 : j = 4
  · subst h4
    rw [if_neg (show ¬ ((4 : Int), k).1 = 1 from (by decide : ¬ (4 : Int) = 1)), if_neg (show ¬ ((4 : Int), k).1 = 2 from (by decide : ¬ (4 : Int) = 2)), if_neg (show ¬ ((4 : Int), k).1 = 3 from (by decide : ¬ (4 : Int) = 3)), if_pos rfl]
    exact playPin_any h hB (oc_pin hk) (dc_pin hko hl)
  by_cases h5 : j = 5
  · subst h5
    rw [if_neg (show ¬ ((5 : Int), k).1 = 1 from (by decide : ¬ (5 : Int) = 1)), if_neg (show ¬ ((5 : Int), k).1 = 2 from (by decide : ¬ (5 : Int) = 2)), if_neg (show ¬ ((5 : Int), k).1 = 3 from (by decide : ¬ (5 : Int) = 3)), if_neg (show ¬ ((5 : Int), k).1 = 4 from (by decide : ¬ (5 : Int) = 4)), if_pos rfl]
    exact playUnpin_any h hB (oc_unpin hk) (dc_unpin hko hl h.1.pinle)
  rw [if_neg h1, if_neg h2, if_neg h3, if_neg h4, if_neg h5]
  refine (playNone_any (k := k) h h1 h2 h3 h4 h5).mono ?_
  rintro e w' ⟨rfl, F', v', hb, hk'⟩
  exact ⟨rfl, F', v', ⟨hb.1.more (Nat.le_succ _), hb.2⟩, hk'⟩
theorem tells_o (h : IsOrderInt w B o n F L) (hn : n ≤ 8796093022207) (hk : okInt k) : TellsO w (some ⟨o, 0, none⟩) L k := fun w1 hb => by
  have h1 := h.below hb
  refine ⟨oldestInt h1 (by omega), pinsRInt h1 hk, hasInt h1 hk, lenRInt h1, ?_, ?_⟩
  · exact allOfInt (h1.keysAre (by omega) 4 false).1 (h1.keysAre (by omega) 4 false).2
  · exact freeOfInt (h1.keysAre (by omega) 4 true).1 (h1.keysAre (by omega) 4 true).2
theorem tells_d {made : Bool} (h : IsDoc w B d made L v) (hn : KOk L) (hl : L.length ≤ 8796093022207) : TellsD w d L k := fun w1 hb => by
  have h1 := h.below hb
  refine ⟨dold_any h1 hl, dpins_any h1 hn k (by omega), dhas_any h1 hn k (by omega), ?_, dall_any h1 hl, dfree_any h1 hl⟩
  obtain ⟨A, c, rfl⟩ := h1.form
  exact ⟨A, c, h1.blk.cell 1⟩
theorem told_both (h : Both w B o n d L F v) (hn : n ≤ 8796093022207) (hk : okInt k) :
    Calls Try.prog 31 #[.pointer (some ⟨o, 0, none⟩), .pointer (some ⟨d, 0, none⟩), .int .i64 k] w fun e w' => e = .returned (.bool true) ∧ Below w.heap.size w w' :=
  told_any (tells_o h.1 hn hk) (tells_d h.2 h.1.kok (Nat.le_trans h.1.len hn)) (by have := h.1.len; omega)
theorem Both.below {w' : World} (h : Both w B o n d L F v) (hb : Below w.heap.size w w') : Both w' B o n d L F v := ⟨h.1.below hb, h.2.below hb⟩
/-- What a play leaves below. -/
theorem PlayPost.below {w' : World} {n' : Nat} {L' : List (Int × Nat)} (h : Both w B o n d L F v) (hB : B ≤ w.heap.size) (hp : PlayPost w w' B o n' d L' F v) : Below B w w' := by
  obtain ⟨F', v', _, hk, _⟩ := hp
  refine hk.below (fun x hx => ?_) hB
  rcases List.mem_append.1 hx with hx | hx
  · exact (h.1.lt x hx).1
  · unfold FD at hx
    rcases List.mem_cons.1 hx with rfl | hx
    · exact h.2.base
    · exact (h.2.row.lt x (by simpa using hx)).1
end
end Go.Proofs.Ytjddjjfcongnlaa
