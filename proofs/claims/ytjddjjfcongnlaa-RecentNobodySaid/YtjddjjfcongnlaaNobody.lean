/- An order that no call made, nil or plain: what its methods answer; the law's play on it. -/
import Derived.Test.YtjddjjfcongnlaaStep
namespace Go.Proofs.Ytjddjjfcongnlaa
open Go.RowKit Go.Maps Go.Shelf
def NilO (w : World) (a : Option Addr) : Prop := a = none ∨ ∃ o, a = some ⟨o, 0, none⟩ ∧ Blk w o 70 #[.map none, .pointer none, .pointer none]
section
variable {w w' : World} {a : Option Addr} {k : Int}
theorem NilO.below (h : NilO w a) (hb : Below w.heap.size w w') : NilO w' a := by
  rcases h with h | ⟨o, h, hB⟩
  · exact .inl h
  · exact .inr ⟨o, h, hB.below hb hB.lt⟩
theorem nfind (h : NilO w a) (hk : okInt k) : Calls Try.prog 51 #[.pointer a, .int .i64 k] w fun e w' => e = .returned (.pointer none) ∧ w = w' := by
  rcases h with rfl | ⟨o, rfl, hB⟩
  · go_enter Try.func51, Try.ntmps51
    go_wp2
    go_ret
    exact ⟨rfl, rfl⟩
  · have o0 := Blk.cell hB 0
    simp only [List.getElem?_toArray, List.getElem?_cons_zero] at o0
    have hl : ∀ w, (Instr.lookup 65 (.map none) (.int .i64 k) false).run Try.prog w = .ok (.pointer none) w := fun w => Maps.look_nil (w := w) false keyedInt Try.underlying65 (zeroInt w) (keyInt hk)
    clear hk
    go_enter Try.func51, Try.ntmps51
    go_wp2
    go_ret
    exact ⟨rfl, rfl⟩
theorem ntouch (h : NilO w a) (hk : okInt k) : Calls Try.prog 19 #[.pointer a, .int .i64 k] w fun e w' => e = .returned (.bool false) ∧ w = w' := by
  have hf := nfind h hk
  clear h
  go_enter Try.func19, Try.ntmps19
  go_wp2_with fail
  refine hf.mono ?_
  rintro e w1 ⟨rfl, rfl⟩
  go_wp2
  go_ret
  exact ⟨rfl, rfl⟩
theorem ndrop (h : NilO w a) (hk : okInt k) : Calls Try.prog 21 #[.pointer a, .int .i64 k] w fun e w' => e = .returned (.bool false) ∧ w = w' := by
  have hf := nfind h hk
  clear h
  go_enter Try.func21, Try.ntmps21
  go_wp2_with fail
  refine hf.mono ?_
  rintro e w1 ⟨rfl, rfl⟩
  go_wp2
  go_ret
  exact ⟨rfl, rfl⟩
theorem npin (h : NilO w a) (hk : okInt k) : Calls Try.prog 14 #[.pointer a, .int .i64 k] w fun e w' => e = .returned (.bool false) ∧ w = w' := by
  have hf := nfind h hk
  clear h
  go_enter Try.func14, Try.ntmps14
  go_wp2_with fail
  refine hf.mono ?_
  rintro e w1 ⟨rfl, rfl⟩
  go_wp2
  go_ret
  exact ⟨rfl, rfl⟩
theorem nunpin (h : NilO w a) (hk : okInt k) : Calls Try.prog 16 #[.pointer a, .int .i64 k] w fun e w' => e = .returned (.bool false) ∧ w = w' := by
  have hf := nfind h hk
  clear h
  go_enter Try.func16, Try.ntmps16
  go_wp2_with fail
  refine hf.mono ?_
  rintro e w1 ⟨rfl, rfl⟩
  go_wp2
  go_ret
  exact ⟨rfl, rfl⟩
theorem nhas (h : NilO w a) (hk : okInt k) : Calls Try.prog 48 #[.pointer a, .int .i64 k] w fun e w' => e = .returned (.bool false) ∧ w = w' := by
  have hf := nfind h hk
  clear h
  go_enter Try.func48, Try.ntmps48
  go_wp2_with fail
  refine hf.mono ?_
  rintro e w1 ⟨rfl, rfl⟩
  go_wp2
  go_ret
  exact ⟨rfl, rfl⟩
theorem npins (h : NilO w a) (hk : okInt k) : Calls Try.prog 15 #[.pointer a, .int .i64 k] w fun e w' => e = .returned (.int .i64 0) ∧ w = w' := by
  have hf := nfind h hk
  clear h
  go_enter Try.func15, Try.ntmps15
  go_wp2_with fail
  refine hf.mono ?_
  rintro e w1 ⟨rfl, rfl⟩
  go_wp2
  go_ret
  exact ⟨rfl, rfl⟩
theorem nadd (h : NilO w a) (_ : okInt k) : Calls Try.prog 13 #[.pointer a, .int .i64 k] w fun e w' => e = .returned (.bool false) ∧ w = w' := by
  rcases h with rfl | ⟨o, rfl, hB⟩
  · go_enter Try.func13, Try.ntmps13
    go_wp2
    go_ret
    exact ⟨rfl, rfl⟩
  · have o0 := Blk.cell hB 0
    simp only [List.getElem?_toArray, List.getElem?_cons_zero] at o0
    have qT : ∀ w, (binOp .eql 65 (.map none) (.map none)).run Try.prog w = .ok (.bool true) w := fun w => by kernel_rfl
    go_enter Try.func13, Try.ntmps13
    go_wp2
    go_ret
    exact ⟨rfl, rfl⟩
theorem nlen (h : NilO w a) : Calls Try.prog 20 #[.pointer a] w fun e w' => e = .returned (.int .i64 0) ∧ w = w' := by
  rcases h with rfl | ⟨o, rfl, hB⟩
  · go_enter Try.func20, Try.ntmps20
    go_wp2
    go_ret
    exact ⟨rfl, rfl⟩
  · have o0 := Blk.cell hB 0
    simp only [List.getElem?_toArray, List.getElem?_cons_zero] at o0
    go_enter Try.func20, Try.ntmps20
    go_wp2
    go_ret
    exact ⟨rfl, rfl⟩
theorem nkeys (h : NilO w a) (free : Bool) : KeysAreInt Fence.wide 4 w (.pointer a) free [] := fun W hb => by
  have hW := h.below hb
  clear h hb
  refine callsIn_wide.2 ?_
  rcases hW with rfl | ⟨o, rfl, hB⟩
  · go_enter Try.func74, Try.ntmps74
    go_wp2
    go_ret
    exact ⟨_, rfl, ⟨rfl, .inl ⟨rfl, rfl⟩⟩, Below.refl _ _⟩
  · have o2 := Blk.cell hB 2
    simp only [List.getElem?_toArray, List.getElem?_cons_zero, List.getElem?_cons_succ] at o2
    go_enter Try.func74, Try.ntmps74
    go_wp2
    go_loopg [5, 6] 1 (fun gk v pp wx => 0 < gk ∧ pp = .pointer none ∧ v = .slice none 0 0 ∧ W = wx)
    case atStart => exact ⟨by omega, rfl, rfl, rfl⟩
    case round =>
      obtain ⟨hg, rfl, rfl, rfl⟩ := hrel
      go_wp2
      go_ret
      exact ⟨_, rfl, ⟨rfl, .inl ⟨rfl, rfl⟩⟩, Below.refl _ _⟩
theorem tells_n (h : NilO w a) (hk : okInt k) : TellsO w a [] k := fun w1 hb => by
  have h1 := h.below hb
  refine ⟨oldestOfInt (nkeys h1 true) (Nat.zero_le _), npins h1 hk, nhas h1 hk, nlen h1, ?_, ?_⟩
  · exact allOfInt (nkeys h1 false) (Nat.zero_le _)
  · exact freeOfInt (nkeys h1 true) (Nat.zero_le _)
theorem NilO.keeps {B d : Nat} {made : Bool} {v : Value} {L : List (Int × Nat)} (h : NilO w a) (hd : IsDoc w B d made L v) (hk : Keeps (FD d v) w w') : NilO w' a := by
  rcases h with h | ⟨o, h, hB⟩
  · exact .inl h
  · refine .inr ⟨o, h, hk.blk hB (fun hm => ?_)⟩
    obtain ⟨t, cs, ht, hb⟩ := hd.kind _ hm
    exact Blk.ne_ hB hb (by rcases ht with rfl | rfl <;> decide) rfl
end
/-- A call on the document's order that answers false. -/
def DN (f B d : Nat) (k : Int) : Prop :=
  ∀ w v, IsDoc w B d false [] v → B ≤ w.heap.size → Calls Try.prog f #[.pointer (some ⟨d, 0, none⟩), .int .i64 k] w fun e w' => e = .returned (.bool false) ∧ DocTo w w' B d false v []
theorem DN.call {w : World} {f B d : Nat} {k : Int} {v : Value} (h : DN f B d k) (ho : IsDoc w B d false [] v) (hB : B ≤ w.heap.size) :
    Calls Try.prog f #[.pointer (some ⟨d, 0, none⟩), .int .i64 k] w fun e w' => e = .returned (.bool false) ∧ DocTo w w' B d false v [] := h w v ho hB
def NN (f : Nat) (a : Option Addr) (k : Int) : Prop := ∀ w, NilO w a → Calls Try.prog f #[.pointer a, .int .i64 k] w fun e w' => e = .returned (.bool false) ∧ w = w'
theorem NN.call {w : World} {f : Nat} {a : Option Addr} {k : Int} (h : NN f a k) (ho : NilO w a) : Calls Try.prog f #[.pointer a, .int .i64 k] w fun e w' => e = .returned (.bool false) ∧ w = w' := h w ho
def NobPost (w w' : World) (B d : Nat) (a : Option Addr) (v : Value) : Prop := NilO w' a ∧ ∃ v', IsDoc w' B d false [] v' ∧ Keeps (FD d v) w w'
set_option maxRecDepth 20000 in
set_option maxHeartbeats 4000000 in
theorem nplayAdd_any {w : World} {B d : Nat} {a : Option Addr} {v : Value} {k : Int} (h : NilO w a) (hD : IsDoc w B d false [] v) (hB : B ≤ w.heap.size) (ho : NN 13 a k) (hd : DN 35 B d k) :
    Calls Try.prog 26 #[.pointer a, .pointer (some ⟨d, 0, none⟩), .agg #[.int .i64 1, .int .i64 k]] w fun e w' => e = .returned (.bool true) ∧ NobPost w w' B d a v := by
  have hdl : ∀ x ∈ FD d v, x < w.heap.size := fun x hx => by
    obtain ⟨t, cs, _, hb⟩ := hD.kind x hx
    exact hb.lt
  have HN : Hid (NilO (w.alloc (.cells #[.int .i64 1, .int .i64 k] 45)) a) := Lib.hid (h.below ((Below.refl _ _).alloc (Nat.le_refl _) _))
  have HD0 : Hid (IsDoc (w.alloc (.cells #[.int .i64 1, .int .i64 k] 45)) B d false [] v) := Lib.hid (hD.below ((Below.refl _ _).alloc (Nat.le_refl _) _))
  have hbox := Blk.new w 45 #[.int .i64 1, .int .i64 k]
  have hkw : Keeps (FD d v) w (w.alloc (.cells #[.int .i64 1, .int .i64 k] 45)) := (Keeps.refl _ _).alloc _
  have hsw : B ≤ (w.alloc (.cells #[.int .i64 1, .int .i64 k] 45)).heap.size := by rw [World.size_alloc]; omega
  have e0 := hbox.cell 0
  have e1 := hbox.cell 1
  simp only [List.getElem?_toArray, List.getElem?_cons_zero, List.getElem?_cons_succ] at e0 e1
  have HKW := Lib.hid hkw
  have HO := Lib.hid ho; have HD := Lib.hid hd
  clear hbox hkw h hD hdl ho hd
  go_enter Try.func26, Try.ntmps26
  go_wp2
  generalize w.alloc (.cells #[.int .i64 1, .int .i64 k] 45) = W at *
  have HND : Hid (NilO W.drew a) := Lib.hid (HN.out.below (Below.refl _ _).drew)
  have HWE : Hid (IsDoc W.drew B d false [] v) := Lib.hid (HD0.out.below (Below.refl _ _).drew)
  have HSD : Hid (B ≤ W.drew.heap.size) := Lib.hid hsw
  go_region_law
    (first
      | (go_simp; go_at_call 13; (with_reducible refine (NN.call HO.out HND.out).mono ?_)
         rintro e w1 ⟨rfl, rfl⟩)
      | (go_simp; go_at_call 35; (with_reducible refine (DN.call HD.out HWE.out HSD.out).mono ?_)
         rintro e w2 ⟨rfl, hto⟩
         obtain ⟨v', hd2, hf2, hk2⟩ := hto
         have hpost : NobPost w w2 B d a v := by
           have hkd : Keeps (FD d v) w W.drew := HKW.out.drew
           exact ⟨HND.out.keeps HWE.out hk2, v', hd2, hkd.trans hk2 (fun x hx => .inl hx)⟩
         have HP := Lib.hid hpost
         clear hpost hd2 hf2 hk2))
  all_goals
    go_wp2
    go_ret
    exact ⟨rfl, HP.out⟩
set_option maxRecDepth 20000 in
set_option maxHeartbeats 4000000 in
theorem nplayTouch_any {w : World} {B d : Nat} {a : Option Addr} {v : Value} {k : Int} (h : NilO w a) (hD : IsDoc w B d false [] v) (hB : B ≤ w.heap.size) (ho : NN 19 a k) (hd : DN 37 B d k) :
    Calls Try.prog 26 #[.pointer a, .pointer (some ⟨d, 0, none⟩), .agg #[.int .i64 2, .int .i64 k]] w fun e w' => e = .returned (.bool true) ∧ NobPost w w' B d a v := by
  have hdl : ∀ x ∈ FD d v, x < w.heap.size := fun x hx => by
    obtain ⟨t, cs, _, hb⟩ := hD.kind x hx
    exact hb.lt
  have HN : Hid (NilO (w.alloc (.cells #[.int .i64 2, .int .i64 k] 45)) a) := Lib.hid (h.below ((Below.refl _ _).alloc (Nat.le_refl _) _))
  have HD0 : Hid (IsDoc (w.alloc (.cells #[.int .i64 2, .int .i64 k] 45)) B d false [] v) := Lib.hid (hD.below ((Below.refl _ _).alloc (Nat.le_refl _) _))
  have hbox := Blk.new w 45 #[.int .i64 2, .int .i64 k]
  have hkw : Keeps (FD d v) w (w.alloc (.cells #[.int .i64 2, .int .i64 k] 45)) := (Keeps.refl _ _).alloc _
  have hsw : B ≤ (w.alloc (.cells #[.int .i64 2, .int .i64 k] 45)).heap.size := by rw [World.size_alloc]; omega
  have e0 := hbox.cell 0
  have e1 := hbox.cell 1
  simp only [List.getElem?_toArray, List.getElem?_cons_zero, List.getElem?_cons_succ] at e0 e1
  have HKW := Lib.hid hkw
  have HO := Lib.hid ho; have HD := Lib.hid hd
  clear hbox hkw h hD hdl ho hd
  go_enter Try.func26, Try.ntmps26
  go_wp2
  generalize w.alloc (.cells #[.int .i64 2, .int .i64 k] 45) = W at *
  have HND : Hid (NilO W.drew a) := Lib.hid (HN.out.below (Below.refl _ _).drew)
  have HWE : Hid (IsDoc W.drew B d false [] v) := Lib.hid (HD0.out.below (Below.refl _ _).drew)
  have HSD : Hid (B ≤ W.drew.heap.size) := Lib.hid hsw
  go_region_law
    (first
      | (go_simp; go_at_call 19; (with_reducible refine (NN.call HO.out HND.out).mono ?_)
         rintro e w1 ⟨rfl, rfl⟩)
      | (go_simp; go_at_call 37; (with_reducible refine (DN.call HD.out HWE.out HSD.out).mono ?_)
         rintro e w2 ⟨rfl, hto⟩
         obtain ⟨v', hd2, hf2, hk2⟩ := hto
         have hpost : NobPost w w2 B d a v := by
           have hkd : Keeps (FD d v) w W.drew := HKW.out.drew
           exact ⟨HND.out.keeps HWE.out hk2, v', hd2, hkd.trans hk2 (fun x hx => .inl hx)⟩
         have HP := Lib.hid hpost
         clear hpost hd2 hf2 hk2))
  all_goals
    go_wp2
    go_ret
    exact ⟨rfl, HP.out⟩
set_option maxRecDepth 20000 in
set_option maxHeartbeats 4000000 in
theorem nplayDrop_any {w : World} {B d : Nat} {a : Option Addr} {v : Value} {k : Int} (h : NilO w a) (hD : IsDoc w B d false [] v) (hB : B ≤ w.heap.size) (ho : NN 21 a k) (hd : DN 39 B d k) :
    Calls Try.prog 26 #[.pointer a, .pointer (some ⟨d, 0, none⟩), .agg #[.int .i64 3, .int .i64 k]] w fun e w' => e = .returned (.bool true) ∧ NobPost w w' B d a v := by
  have hdl : ∀ x ∈ FD d v, x < w.heap.size := fun x hx => by
    obtain ⟨t, cs, _, hb⟩ := hD.kind x hx
    exact hb.lt
  have HN : Hid (NilO (w.alloc (.cells #[.int .i64 3, .int .i64 k] 45)) a) := Lib.hid (h.below ((Below.refl _ _).alloc (Nat.le_refl _) _))
  have HD0 : Hid (IsDoc (w.alloc (.cells #[.int .i64 3, .int .i64 k] 45)) B d false [] v) := Lib.hid (hD.below ((Below.refl _ _).alloc (Nat.le_refl _) _))
  have hbox := Blk.new w 45 #[.int .i64 3, .int .i64 k]
  have hkw : Keeps (FD d v) w (w.alloc (.cells #[.int .i64 3, .int .i64 k] 45)) := (Keeps.refl _ _).alloc _
  have hsw : B ≤ (w.alloc (.cells #[.int .i64 3, .int .i64 k] 45)).heap.size := by rw [World.size_alloc]; omega
  have e0 := hbox.cell 0
  have e1 := hbox.cell 1
  simp only [List.getElem?_toArray, List.getElem?_cons_zero, List.getElem?_cons_succ] at e0 e1
  have HKW := Lib.hid hkw
  have HO := Lib.hid ho; have HD := Lib.hid hd
  clear hbox hkw h hD hdl ho hd
  go_enter Try.func26, Try.ntmps26
  go_wp2
  generalize w.alloc (.cells #[.int .i64 3, .int .i64 k] 45) = W at *
  have HND : Hid (NilO W.drew a) := Lib.hid (HN.out.below (Below.refl _ _).drew)
  have HWE : Hid (IsDoc W.drew B d false [] v) := Lib.hid (HD0.out.below (Below.refl _ _).drew)
  have HSD : Hid (B ≤ W.drew.heap.size) := Lib.hid hsw
  go_region_law
    (first
      | (go_simp; go_at_call 21; (with_reducible refine (NN.call HO.out HND.out).mono ?_)
         rintro e w1 ⟨rfl, rfl⟩)
      | (go_simp; go_at_call 39; (with_reducible refine (DN.call HD.out HWE.out HSD.out).mono ?_)
         rintro e w2 ⟨rfl, hto⟩
         obtain ⟨v', hd2, hf2, hk2⟩ := hto
         have hpost : NobPost w w2 B d a v := by
           have hkd : Keeps (FD d v) w W.drew := HKW.out.drew
           exact ⟨HND.out.keeps HWE.out hk2, v', hd2, hkd.trans hk2 (fun x hx => .inl hx)⟩
         have HP := Lib.hid hpost
         clear hpost hd2 hf2 hk2))
  all_goals
    go_wp2
    go_ret
    exact ⟨rfl, HP.out⟩
set_option maxRecDepth 20000 in
set_option maxHeartbeats 4000000 in
theorem nplayPin_any {w : World} {B d : Nat} {a : Option Addr} {v : Value} {k : Int} (h : NilO w a) (hD : IsDoc w B d false [] v) (hB : B ≤ w.heap.size) (ho : NN 14 a k) (hd : DN 41 B d k) :
    Calls Try.prog 26 #[.pointer a, .pointer (some ⟨d, 0, none⟩), .agg #[.int .i64 4, .int .i64 k]] w fun e w' => e = .returned (.bool true) ∧ NobPost w w' B d a v := by
  have hdl : ∀ x ∈ FD d v, x < w.heap.size := fun x hx => by
    obtain ⟨t, cs, _, hb⟩ := hD.kind x hx
    exact hb.lt
  have HN : Hid (NilO (w.alloc (.cells #[.int .i64 4, .int .i64 k] 45)) a) := Lib.hid (h.below ((Below.refl _ _).alloc (Nat.le_refl _) _))
  have HD0 : Hid (IsDoc (w.alloc (.cells #[.int .i64 4, .int .i64 k] 45)) B d false [] v) := Lib.hid (hD.below ((Below.refl _ _).alloc (Nat.le_refl _) _))
  have hbox := Blk.new w 45 #[.int .i64 4, .int .i64 k]
  have hkw : Keeps (FD d v) w (w.alloc (.cells #[.int .i64 4, .int .i64 k] 45)) := (Keeps.refl _ _).alloc _
  have hsw : B ≤ (w.alloc (.cells #[.int .i64 4, .int .i64 k] 45)).heap.size := by rw [World.size_alloc]; omega
  have e0 := hbox.cell 0
  have e1 := hbox.cell 1
  simp only [List.getElem?_toArray, List.getElem?_cons_zero, List.getElem?_cons_succ] at e0 e1
  have HKW := Lib.hid hkw
  have HO := Lib.hid ho; have HD := Lib.hid hd
  clear hbox hkw h hD hdl ho hd
  go_enter Try.func26, Try.ntmps26
  go_wp2
  generalize w.alloc (.cells #[.int .i64 4, .int .i64 k] 45) = W at *
  have HND : Hid (NilO W.drew a) := Lib.hid (HN.out.below (Below.refl _ _).drew)
  have HWE : Hid (IsDoc W.drew B d false [] v) := Lib.hid (HD0.out.below (Below.refl _ _).drew)
  have HSD : Hid (B ≤ W.drew.heap.size) := Lib.hid hsw
  go_region_law
    (first
      | (go_simp; go_at_call 14; (with_reducible refine (NN.call HO.out HND.out).mono ?_)
         rintro e w1 ⟨rfl, rfl⟩)
      | (go_simp; go_at_call 41; (with_reducible refine (DN.call HD.out HWE.out HSD.out).mono ?_)
         rintro e w2 ⟨rfl, hto⟩
         obtain ⟨v', hd2, hf2, hk2⟩ := hto
         have hpost : NobPost w w2 B d a v := by
           have hkd : Keeps (FD d v) w W.drew := HKW.out.drew
           exact ⟨HND.out.keeps HWE.out hk2, v', hd2, hkd.trans hk2 (fun x hx => .inl hx)⟩
         have HP := Lib.hid hpost
         clear hpost hd2 hf2 hk2))
  all_goals
    go_wp2
    go_ret
    exact ⟨rfl, HP.out⟩
set_option maxRecDepth 20000 in
set_option maxHeartbeats 4000000 in
theorem nplayUnpin_any {w : World} {B d : Nat} {a : Option Addr} {v : Value} {k : Int} (h : NilO w a) (hD : IsDoc w B d false [] v) (hB : B ≤ w.heap.size) (ho : NN 16 a k) (hd : DN 43 B d k) :
    Calls Try.prog 26 #[.pointer a, .pointer (some ⟨d, 0, none⟩), .agg #[.int .i64 5, .int .i64 k]] w fun e w' => e = .returned (.bool true) ∧ NobPost w w' B d a v := by
  have hdl : ∀ x ∈ FD d v, x < w.heap.size := fun x hx => by
    obtain ⟨t, cs, _, hb⟩ := hD.kind x hx
    exact hb.lt
  have HN : Hid (NilO (w.alloc (.cells #[.int .i64 5, .int .i64 k] 45)) a) := Lib.hid (h.below ((Below.refl _ _).alloc (Nat.le_refl _) _))
  have HD0 : Hid (IsDoc (w.alloc (.cells #[.int .i64 5, .int .i64 k] 45)) B d false [] v) := Lib.hid (hD.below ((Below.refl _ _).alloc (Nat.le_refl _) _))
  have hbox := Blk.new w 45 #[.int .i64 5, .int .i64 k]
  have hkw : Keeps (FD d v) w (w.alloc (.cells #[.int .i64 5, .int .i64 k] 45)) := (Keeps.refl _ _).alloc _
  have hsw : B ≤ (w.alloc (.cells #[.int .i64 5, .int .i64 k] 45)).heap.size := by rw [World.size_alloc]; omega
  have e0 := hbox.cell 0
  have e1 := hbox.cell 1
  simp only [List.getElem?_toArray, List.getElem?_cons_zero, List.getElem?_cons_succ] at e0 e1
  have HKW := Lib.hid hkw
  have HO := Lib.hid ho; have HD := Lib.hid hd
  clear hbox hkw h hD hdl ho hd
  go_enter Try.func26, Try.ntmps26
  go_wp2
  generalize w.alloc (.cells #[.int .i64 5, .int .i64 k] 45) = W at *
  have HND : Hid (NilO W.drew a) := Lib.hid (HN.out.below (Below.refl _ _).drew)
  have HWE : Hid (IsDoc W.drew B d false [] v) := Lib.hid (HD0.out.below (Below.refl _ _).drew)
  have HSD : Hid (B ≤ W.drew.heap.size) := Lib.hid hsw
  go_region_law
    (first
      | (go_simp; go_at_call 16; (with_reducible refine (NN.call HO.out HND.out).mono ?_)
         rintro e w1 ⟨rfl, rfl⟩)
      | (go_simp; go_at_call 43; (with_reducible refine (DN.call HD.out HWE.out HSD.out).mono ?_)
         rintro e w2 ⟨rfl, hto⟩
         obtain ⟨v', hd2, hf2, hk2⟩ := hto
         have hpost : NobPost w w2 B d a v := by
           have hkd : Keeps (FD d v) w W.drew := HKW.out.drew
           exact ⟨HND.out.keeps HWE.out hk2, v', hd2, hkd.trans hk2 (fun x hx => .inl hx)⟩
         have HP := Lib.hid hpost
         clear hpost hd2 hf2 hk2))
  all_goals
    go_wp2
    go_ret
    exact ⟨rfl, HP.out⟩
set_option maxRecDepth 20000 in
set_option maxHeartbeats 4000000 in
theorem nplayNone_any {w : World} {B d : Nat} {a : Option Addr} {v : Value} {k : Int} {j : Int} (h : NilO w a) (hD : IsDoc w B d false [] v) (h1 : j ≠ 1) (h2 : j ≠ 2) (h3 : j ≠ 3) (h4 : j ≠ 4) (h5 : j ≠ 5) :
    Calls Try.prog 26 #[.pointer a, .pointer (some ⟨d, 0, none⟩), .agg #[.int .i64 j, .int .i64 k]] w fun e w' => e = .returned (.bool true) ∧ NobPost w w' B d a v := by
  have hpost : NobPost w (w.alloc (.cells #[.int .i64 j, .int .i64 k] 45)) B d a v := ⟨h.below ((Below.refl _ _).alloc (Nat.le_refl _) _), v, hD.below ((Below.refl _ _).alloc (Nat.le_refl _) _), (Keeps.refl _ _).alloc _⟩
  have hbox := Blk.new w 45 #[.int .i64 j, .int .i64 k]
  have e0 := hbox.cell 0
  have e1 := hbox.cell 1
  simp only [List.getElem?_toArray, List.getElem?_cons_zero, List.getElem?_cons_succ] at e0 e1
  have d1 : (j == 1) = false := by simp [h1]
  have d2 : (j == 2) = false := by simp [h2]
  have d3 : (j == 3) = false := by simp [h3]
  have d4 : (j == 4) = false := by simp [h4]
  have d5 : (j == 5) = false := by simp [h5]
  have HP := Lib.hid hpost
  clear hbox hpost h hD h1 h2 h3 h4 h5
  go_enter Try.func26, Try.ntmps26
  go_wp2
  generalize w.alloc (.cells #[.int .i64 j, .int .i64 k] 45) = W at *
  go_wp2
  go_ret
  exact ⟨rfl, HP.out⟩
theorem nplay_any {w : World} {B d : Nat} {a : Option Addr} {v : Value} {k : Int} (h : NilO w a) (hD : IsDoc w B d false [] v) (hB : B ≤ w.heap.size) (j : Int) (hk : okInt k) :
    Calls Try.prog 26 #[.pointer a, .pointer (some ⟨d, 0, none⟩), .agg #[.int .i64 j, .int .i64 k]] w fun e w' => e = .returned (.bool true) ∧ NobPost w w' B d a v := by
  have hko : KOk [] := List.Pairwise.nil
  by_cases h1 : j = 1
  · subst h1
    exact nplayAdd_any h hD hB (fun _ h => nadd h hk) (fun _ _ h hB => dadd_any h hko k (by simp) hB)
  by_cases h2 : j = 2
  · subst h2
    exact nplayTouch_any h hD hB (fun _ h => ntouch h hk) (fun _ _ h hB => dtouch_any h hko k (by simp) hB)
  by_cases h3 : j = 3
  · subst h3
    exact nplayDrop_any h hD hB (fun _ h => ndrop h hk) (fun _ _ h hB => ddrop_any h hko k (by simp) hB)
  by_cases h4 : j = 4
  · subst h4
    exact nplayPin_any h hD hB (fun _ h => npin h hk) (fun _ _ h hB => (dpin_any h hko k (by simp)).mono fun _ _ ⟨a, b, c⟩ => ⟨a, _, b, fun _ hx => .inl hx, c⟩)
  by_cases h5 : j = 5
  · subst h5
    exact nplayUnpin_any h hD hB (fun _ h => nunpin h hk) (fun _ _ h hB => (dunpin_any h hko k (by simp) (by simp)).mono fun _ _ ⟨a, b, c⟩ => ⟨a, _, b, fun _ hx => .inl hx, c⟩)
  exact nplayNone_any h hD h1 h2 h3 h4 h5
end Go.Proofs.Ytjddjjfcongnlaa

