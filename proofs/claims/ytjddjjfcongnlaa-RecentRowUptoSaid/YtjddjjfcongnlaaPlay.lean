/- The law's play: the contract. -/
import Derived.Test.YtjddjjfcongnlaaBoth
import Derived.Deep.RegionLaw
namespace Go.Proofs.Ytjddjjfcongnlaa
open Go.RowKit Go.Maps
theorem OC.call {w : World} {f B o n n' : Nat} {k : Int} {L L' : List (Int × Nat)} {F : List Nat} {b : Bool} (h : OC f B o n n' k L L' b) (ho : IsOrderInt w B o n F L) (hB : B ≤ w.heap.size) :
    Calls Try.prog f #[.pointer (some ⟨o, 0, none⟩), .int .i64 k] w fun e w' => e = .returned (.bool b) ∧ (∃ F', IsOrderInt w' B o n' F' L' ∧ ∀ x ∈ F', x ∈ F ∨ w.heap.size ≤ x) ∧ Keeps F w w' := h w F ho hB
theorem DC.call {w : World} {f B d : Nat} {k : Int} {L L' : List (Int × Nat)} {v : Value} {b : Bool} (h : DC f B d k L L' b) (ho : IsDoc w B d true L v) (hB : B ≤ w.heap.size) :
    Calls Try.prog f #[.pointer (some ⟨d, 0, none⟩), .int .i64 k] w fun e w' => e = .returned (.bool b) ∧ DocTo w w' B d true v L' := h w v ho hB
def PlayPost (w w' : World) (B o n' d : Nat) (L' : List (Int × Nat)) (F : List Nat) (v : Value) : Prop := ∃ F' v', Both w' B o n' d L' F' v' ∧ Keeps (F ++ FD d v) w w' ∧ ∀ x ∈ F' ++ FD d v', x ∈ F ++ FD d v ∨ w.heap.size ≤ x
set_option maxRecDepth 20000 in
set_option maxHeartbeats 4000000 in
theorem playAdd_any {w : World} {B o n n' d : Nat} {L L' : List (Int × Nat)} {F : List Nat} {v : Value} {k : Int} {b : Bool} (h : Both w B o n d L F v) (hB : B ≤ w.heap.size) (ho : OC 13 B o n n' k L L' b) (hd : DC 35 B d k L L' b) :
    Calls Try.prog 26 #[.pointer (some ⟨o, 0, none⟩), .pointer (some ⟨d, 0, none⟩), .agg #[.int .i64 1, .int .i64 k]] w fun e w' => e = .returned (.bool true) ∧ PlayPost w w' B o n' d L' F v := by
  have hfl : ∀ x ∈ F, x < w.heap.size := fun x hx => (h.1.lt x hx).2
  have hdl : ∀ x ∈ FD d v, x < w.heap.size := fun x hx => by
    obtain ⟨t, cs, _, hb⟩ := h.2.kind x hx
    exact hb.lt
  have HW : Hid (Both (w.alloc (.cells #[.int .i64 1, .int .i64 k] 45)) B o n d L F v) := Lib.hid ⟨h.1.below ((Below.refl _ _).alloc (Nat.le_refl _) _), h.2.below ((Below.refl _ _).alloc (Nat.le_refl _) _)⟩
  have hbox := Blk.new w 45 #[.int .i64 1, .int .i64 k]
  have hkw : Keeps (F ++ FD d v) w (w.alloc (.cells #[.int .i64 1, .int .i64 k] 45)) := (Keeps.refl _ _).alloc _
  have hsw : B ≤ (w.alloc (.cells #[.int .i64 1, .int .i64 k] 45)).heap.size := by rw [World.size_alloc]; omega
  have hbe : (b == b) = true := by simp
  have e0 := hbox.cell 0
  have e1 := hbox.cell 1
  simp only [List.getElem?_toArray, List.getElem?_cons_zero, List.getElem?_cons_succ] at e0 e1
  have HBX := Lib.hid hbox; have HKW := Lib.hid hkw
  have HFL := Lib.hid hfl; have HDL := Lib.hid hdl; have HO := Lib.hid ho; have HD := Lib.hid hd
  clear hbox hkw h hfl hdl ho hd
  go_enter Try.func26, Try.ntmps26
  go_wp2
  generalize w.alloc (.cells #[.int .i64 1, .int .i64 k] 45) = W at *
  have HWD : Hid (Both W.drew B o n d L F v) := Lib.hid ⟨HW.out.1.below (Below.refl _ _).drew, HW.out.2.below (Below.refl _ _).drew⟩
  have HWO : Hid (IsOrderInt W.drew B o n F L) := Lib.hid HWD.out.1
  have HWE : Hid (IsDoc W.drew B d true L v) := Lib.hid HWD.out.2
  have HSD : Hid (B ≤ W.drew.heap.size) := Lib.hid hsw
  go_region_law
    (first
      | (go_simp; go_at_call 13; (with_reducible refine (OC.call HO.out HWO.out HSD.out).mono ?_)
         rintro e w1 ⟨rfl, ⟨F', ho1, hf1⟩, hk1⟩
         have hbx1 := Keeps.blk (F := F) (w := W.drew) hk1 HBX.out (fun hm => by have := HFL.out _ hm; omega)
         have hd1 := Both.afterO (w := W.drew) HWD.out hk1
         have hs1 : B ≤ w1.heap.size := Nat.le_trans hsw hk1.size
         have c1 := hbx1.cell 1
         simp only [List.getElem?_toArray, List.getElem?_cons_zero, List.getElem?_cons_succ] at c1)
      | (go_simp; go_at_call 35; (with_reducible refine (DC.call HD.out hd1 hs1).mono ?_)
         rintro e w2 ⟨rfl, hto⟩
         obtain ⟨v', hd2, hf2, hk2⟩ := hto
         have hpost : PlayPost w w2 B o n' d L' F v := by
           refine ⟨F', v', ⟨ho1.keeps hk2 (od_dis ho1 hd1), hd2⟩, ?_, fun x hx => ?_⟩
           rotate_left
           · have z1 := HKW.out.size
             have z2 := hk1.size
             have z3 : W.drew.heap.size = W.heap.size := rfl
             rcases List.mem_append.1 hx with hx | hx
             · rcases hf1 x hx with h | h
               · exact .inl (List.mem_append_left _ h)
               · exact .inr (by omega)
             · rcases hf2 x hx with h | h
               · exact .inl (List.mem_append_right _ h)
               · exact .inr (by omega)
           have hkd : Keeps (F ++ FD d v) w W.drew := HKW.out.drew
           have hkd1 : Keeps (F ++ FD d v) W.drew w1 := Keeps.mono hk1 (fun x hx => .inl (List.mem_append_left _ hx))
           exact (hkd.trans hkd1 (fun x hx => .inl hx)).trans hk2 (fun x hx => .inl (List.mem_append_right _ hx))
         have HP := Lib.hid hpost
         have hbx2 := hk2.blk hbx1 (fun hm => by have := HDL.out _ hm; omega)
         have c2 := hbx2.cell 1
         simp only [List.getElem?_toArray, List.getElem?_cons_zero, List.getElem?_cons_succ] at c2
         clear hpost))
  all_goals
    go_wp2
    go_ret
    exact ⟨rfl, HP.out⟩
set_option maxRecDepth 20000 in
set_option maxHeartbeats 4000000 in
theorem playTouch_any {w : World} {B o n n' d : Nat} {L L' : List (Int × Nat)} {F : List Nat} {v : Value} {k : Int} {b : Bool} (h : Both w B o n d L F v) (hB : B ≤ w.heap.size) (ho : OC 19 B o n n' k L L' b) (hd : DC 37 B d k L L' b) :
    Calls Try.prog 26 #[.pointer (some ⟨o, 0, none⟩), .pointer (some ⟨d, 0, none⟩), .agg #[.int .i64 2, .int .i64 k]] w fun e w' => e = .returned (.bool true) ∧ PlayPost w w' B o n' d L' F v := by
  have hfl : ∀ x ∈ F, x < w.heap.size := fun x hx => (h.1.lt x hx).2
  have hdl : ∀ x ∈ FD d v, x < w.heap.size := fun x hx => by
    obtain ⟨t, cs, _, hb⟩ := h.2.kind x hx
    exact hb.lt
  have HW : Hid (Both (w.alloc (.cells #[.int .i64 2, .int .i64 k] 45)) B o n d L F v) := Lib.hid ⟨h.1.below ((Below.refl _ _).alloc (Nat.le_refl _) _), h.2.below ((Below.refl _ _).alloc (Nat.le_refl _) _)⟩
  have hbox := Blk.new w 45 #[.int .i64 2, .int .i64 k]
  have hkw : Keeps (F ++ FD d v) w (w.alloc (.cells #[.int .i64 2, .int .i64 k] 45)) := (Keeps.refl _ _).alloc _
  have hsw : B ≤ (w.alloc (.cells #[.int .i64 2, .int .i64 k] 45)).heap.size := by rw [World.size_alloc]; omega
  have hbe : (b == b) = true := by simp
  have e0 := hbox.cell 0
  have e1 := hbox.cell 1
  simp only [List.getElem?_toArray, List.getElem?_cons_zero, List.getElem?_cons_succ] at e0 e1
  have HBX := Lib.hid hbox; have HKW := Lib.hid hkw
  have HFL := Lib.hid hfl; have HDL := Lib.hid hdl; have HO := Lib.hid ho; have HD := Lib.hid hd
  clear hbox hkw h hfl hdl ho hd
  go_enter Try.func26, Try.ntmps26
  go_wp2
  generalize w.alloc (.cells #[.int .i64 2, .int .i64 k] 45) = W at *
  have HWD : Hid (Both W.drew B o n d L F v) := Lib.hid ⟨HW.out.1.below (Below.refl _ _).drew, HW.out.2.below (Below.refl _ _).drew⟩
  have HWO : Hid (IsOrderInt W.drew B o n F L) := Lib.hid HWD.out.1
  have HWE : Hid (IsDoc W.drew B d true L v) := Lib.hid HWD.out.2
  have HSD : Hid (B ≤ W.drew.heap.size) := Lib.hid hsw
  go_region_law
    (first
      | (go_simp; go_at_call 19; (with_reducible refine (OC.call HO.out HWO.out HSD.out).mono ?_)
         rintro e w1 ⟨rfl, ⟨F', ho1, hf1⟩, hk1⟩
         have hbx1 := Keeps.blk (F := F) (w := W.drew) hk1 HBX.out (fun hm => by have := HFL.out _ hm; omega)
         have hd1 := Both.afterO (w := W.drew) HWD.out hk1
         have hs1 : B ≤ w1.heap.size := Nat.le_trans hsw hk1.size
         have c1 := hbx1.cell 1
         simp only [List.getElem?_toArray, List.getElem?_cons_zero, List.getElem?_cons_succ] at c1)
      | (go_simp; go_at_call 37; (with_reducible refine (DC.call HD.out hd1 hs1).mono ?_)
         rintro e w2 ⟨rfl, hto⟩
         obtain ⟨v', hd2, hf2, hk2⟩ := hto
         have hpost : PlayPost w w2 B o n' d L' F v := by
           refine ⟨F', v', ⟨ho1.keeps hk2 (od_dis ho1 hd1), hd2⟩, ?_, fun x hx => ?_⟩
           rotate_left
           · have z1 := HKW.out.size
             have z2 := hk1.size
             have z3 : W.drew.heap.size = W.heap.size := rfl
             rcases List.mem_append.1 hx with hx | hx
             · rcases hf1 x hx with h | h
               · exact .inl (List.mem_append_left _ h)
               · exact .inr (by omega)
             · rcases hf2 x hx with h | h
               · exact .inl (List.mem_append_right _ h)
               · exact .inr (by omega)
           have hkd : Keeps (F ++ FD d v) w W.drew := HKW.out.drew
           have hkd1 : Keeps (F ++ FD d v) W.drew w1 := Keeps.mono hk1 (fun x hx => .inl (List.mem_append_left _ hx))
           exact (hkd.trans hkd1 (fun x hx => .inl hx)).trans hk2 (fun x hx => .inl (List.mem_append_right _ hx))
         have HP := Lib.hid hpost
         have hbx2 := hk2.blk hbx1 (fun hm => by have := HDL.out _ hm; omega)
         have c2 := hbx2.cell 1
         simp only [List.getElem?_toArray, List.getElem?_cons_zero, List.getElem?_cons_succ] at c2
         clear hpost))
  all_goals
    go_wp2
    go_ret
    exact ⟨rfl, HP.out⟩
set_option maxRecDepth 20000 in
set_option maxHeartbeats 4000000 in
theorem playDrop_any {w : World} {B o n n' d : Nat} {L L' : List (Int × Nat)} {F : List Nat} {v : Value} {k : Int} {b : Bool} (h : Both w B o n d L F v) (hB : B ≤ w.heap.size) (ho : OC 21 B o n n' k L L' b) (hd : DC 39 B d k L L' b) :
    Calls Try.prog 26 #[.pointer (some ⟨o, 0, none⟩), .pointer (some ⟨d, 0, none⟩), .agg #[.int .i64 3, .int .i64 k]] w fun e w' => e = .returned (.bool true) ∧ PlayPost w w' B o n' d L' F v := by
  have hfl : ∀ x ∈ F, x < w.heap.size := fun x hx => (h.1.lt x hx).2
  have hdl : ∀ x ∈ FD d v, x < w.heap.size := fun x hx => by
    obtain ⟨t, cs, _, hb⟩ := h.2.kind x hx
    exact hb.lt
  have HW : Hid (Both (w.alloc (.cells #[.int .i64 3, .int .i64 k] 45)) B o n d L F v) := Lib.hid ⟨h.1.below ((Below.refl _ _).alloc (Nat.le_refl _) _), h.2.below ((Below.refl _ _).alloc (Nat.le_refl _) _)⟩
  have hbox := Blk.new w 45 #[.int .i64 3, .int .i64 k]
  have hkw : Keeps (F ++ FD d v) w (w.alloc (.cells #[.int .i64 3, .int .i64 k] 45)) := (Keeps.refl _ _).alloc _
  have hsw : B ≤ (w.alloc (.cells #[.int .i64 3, .int .i64 k] 45)).heap.size := by rw [World.size_alloc]; omega
  have hbe : (b == b) = true := by simp
  have e0 := hbox.cell 0
  have e1 := hbox.cell 1
  simp only [List.getElem?_toArray, List.getElem?_cons_zero, List.getElem?_cons_succ] at e0 e1
  have HBX := Lib.hid hbox; have HKW := Lib.hid hkw
  have HFL := Lib.hid hfl; have HDL := Lib.hid hdl; have HO := Lib.hid ho; have HD := Lib.hid hd
  clear hbox hkw h hfl hdl ho hd
  go_enter Try.func26, Try.ntmps26
  go_wp2
  generalize w.alloc (.cells #[.int .i64 3, .int .i64 k] 45) = W at *
  have HWD : Hid (Both W.drew B o n d L F v) := Lib.hid ⟨HW.out.1.below (Below.refl _ _).drew, HW.out.2.below (Below.refl _ _).drew⟩
  have HWO : Hid (IsOrderInt W.drew B o n F L) := Lib.hid HWD.out.1
  have HWE : Hid (IsDoc W.drew B d true L v) := Lib.hid HWD.out.2
  have HSD : Hid (B ≤ W.drew.heap.size) := Lib.hid hsw
  go_region_law
    (first
      | (go_simp; go_at_call 21; (with_reducible refine (OC.call HO.out HWO.out HSD.out).mono ?_)
         rintro e w1 ⟨rfl, ⟨F', ho1, hf1⟩, hk1⟩
         have hbx1 := Keeps.blk (F := F) (w := W.drew) hk1 HBX.out (fun hm => by have := HFL.out _ hm; omega)
         have hd1 := Both.afterO (w := W.drew) HWD.out hk1
         have hs1 : B ≤ w1.heap.size := Nat.le_trans hsw hk1.size
         have c1 := hbx1.cell 1
         simp only [List.getElem?_toArray, List.getElem?_cons_zero, List.getElem?_cons_succ] at c1)
      | (go_simp; go_at_call 39; (with_reducible refine (DC.call HD.out hd1 hs1).mono ?_)
         rintro e w2 ⟨rfl, hto⟩
         obtain ⟨v', hd2, hf2, hk2⟩ := hto
         have hpost : PlayPost w w2 B o n' d L' F v := by
           refine ⟨F', v', ⟨ho1.keeps hk2 (od_dis ho1 hd1), hd2⟩, ?_, fun x hx => ?_⟩
           rotate_left
           · have z1 := HKW.out.size
             have z2 := hk1.size
             have z3 : W.drew.heap.size = W.heap.size := rfl
             rcases List.mem_append.1 hx with hx | hx
             · rcases hf1 x hx with h | h
               · exact .inl (List.mem_append_left _ h)
               · exact .inr (by omega)
             · rcases hf2 x hx with h | h
               · exact .inl (List.mem_append_right _ h)
               · exact .inr (by omega)
           have hkd : Keeps (F ++ FD d v) w W.drew := HKW.out.drew
           have hkd1 : Keeps (F ++ FD d v) W.drew w1 := Keeps.mono hk1 (fun x hx => .inl (List.mem_append_left _ hx))
           exact (hkd.trans hkd1 (fun x hx => .inl hx)).trans hk2 (fun x hx => .inl (List.mem_append_right _ hx))
         have HP := Lib.hid hpost
         have hbx2 := hk2.blk hbx1 (fun hm => by have := HDL.out _ hm; omega)
         have c2 := hbx2.cell 1
         simp only [List.getElem?_toArray, List.getElem?_cons_zero, List.getElem?_cons_succ] at c2
         clear hpost))
  all_goals
    go_wp2
    go_ret
    exact ⟨rfl, HP.out⟩
set_option maxRecDepth 20000 in
set_option maxHeartbeats 4000000 in
theorem playPin_any {w : World} {B o n n' d : Nat} {L L' : List (Int × Nat)} {F : List Nat} {v : Value} {k : Int} {b : Bool} (h : Both w B o n d L F v) (hB : B ≤ w.heap.size) (ho : OC 14 B o n n' k L L' b) (hd : DC 41 B d k L L' b) :
    Calls Try.prog 26 #[.pointer (some ⟨o, 0, none⟩), .pointer (some ⟨d, 0, none⟩), .agg #[.int .i64 4, .int .i64 k]] w fun e w' => e = .returned (.bool true) ∧ PlayPost w w' B o n' d L' F v := by
  have hfl : ∀ x ∈ F, x < w.heap.size := fun x hx => (h.1.lt x hx).2
  have hdl : ∀ x ∈ FD d v, x < w.heap.size := fun x hx => by
    obtain ⟨t, cs, _, hb⟩ := h.2.kind x hx
    exact hb.lt
  have HW : Hid (Both (w.alloc (.cells #[.int .i64 4, .int .i64 k] 45)) B o n d L F v) := Lib.hid ⟨h.1.below ((Below.refl _ _).alloc (Nat.le_refl _) _), h.2.below ((Below.refl _ _).alloc (Nat.le_refl _) _)⟩
  have hbox := Blk.new w 45 #[.int .i64 4, .int .i64 k]
  have hkw : Keeps (F ++ FD d v) w (w.alloc (.cells #[.int .i64 4, .int .i64 k] 45)) := (Keeps.refl _ _).alloc _
  have hsw : B ≤ (w.alloc (.cells #[.int .i64 4, .int .i64 k] 45)).heap.size := by rw [World.size_alloc]; omega
  have hbe : (b == b) = true := by simp
  have e0 := hbox.cell 0
  have e1 := hbox.cell 1
  simp only [List.getElem?_toArray, List.getElem?_cons_zero, List.getElem?_cons_succ] at e0 e1
  have HBX := Lib.hid hbox; have HKW := Lib.hid hkw
  have HFL := Lib.hid hfl; have HDL := Lib.hid hdl; have HO := Lib.hid ho; have HD := Lib.hid hd
  clear hbox hkw h hfl hdl ho hd
  go_enter Try.func26, Try.ntmps26
  go_wp2
  generalize w.alloc (.cells #[.int .i64 4, .int .i64 k] 45) = W at *
  have HWD : Hid (Both W.drew B o n d L F v) := Lib.hid ⟨HW.out.1.below (Below.refl _ _).drew, HW.out.2.below (Below.refl _ _).drew⟩
  have HWO : Hid (IsOrderInt W.drew B o n F L) := Lib.hid HWD.out.1
  have HWE : Hid (IsDoc W.drew B d true L v) := Lib.hid HWD.out.2
  have HSD : Hid (B ≤ W.drew.heap.size) := Lib.hid hsw
  go_region_law
    (first
      | (go_simp; go_at_call 14; (with_reducible refine (OC.call HO.out HWO.out HSD.out).mono ?_)
         rintro e w1 ⟨rfl, ⟨F', ho1, hf1⟩, hk1⟩
         have hbx1 := Keeps.blk (F := F) (w := W.drew) hk1 HBX.out (fun hm => by have := HFL.out _ hm; omega)
         have hd1 := Both.afterO (w := W.drew) HWD.out hk1
         have hs1 : B ≤ w1.heap.size := Nat.le_trans hsw hk1.size
         have c1 := hbx1.cell 1
         simp only [List.getElem?_toArray, List.getElem?_cons_zero, List.getElem?_cons_succ] at c1)
      | (go_simp; go_at_call 41; (with_reducible refine (DC.call HD.out hd1 hs1).mono ?_)
         rintro e w2 ⟨rfl, hto⟩
         obtain ⟨v', hd2, hf2, hk2⟩ := hto
         have hpost : PlayPost w w2 B o n' d L' F v := by
           refine ⟨F', v', ⟨ho1.keeps hk2 (od_dis ho1 hd1), hd2⟩, ?_, fun x hx => ?_⟩
           rotate_left
           · have z1 := HKW.out.size
             have z2 := hk1.size
             have z3 : W.drew.heap.size = W.heap.size := rfl
             rcases List.mem_append.1 hx with hx | hx
             · rcases hf1 x hx with h | h
               · exact .inl (List.mem_append_left _ h)
               · exact .inr (by omega)
             · rcases hf2 x hx with h | h
               · exact .inl (List.mem_append_right _ h)
               · exact .inr (by omega)
           have hkd : Keeps (F ++ FD d v) w W.drew := HKW.out.drew
           have hkd1 : Keeps (F ++ FD d v) W.drew w1 := Keeps.mono hk1 (fun x hx => .inl (List.mem_append_left _ hx))
           exact (hkd.trans hkd1 (fun x hx => .inl hx)).trans hk2 (fun x hx => .inl (List.mem_append_right _ hx))
         have HP := Lib.hid hpost
         have hbx2 := hk2.blk hbx1 (fun hm => by have := HDL.out _ hm; omega)
         have c2 := hbx2.cell 1
         simp only [List.getElem?_toArray, List.getElem?_cons_zero, List.getElem?_cons_succ] at c2
         clear hpost))
  all_goals
    go_wp2
    go_ret
    exact ⟨rfl, HP.out⟩
set_option maxRecDepth 20000 in
set_option maxHeartbeats 4000000 in
theorem playUnpin_any {w : World} {B o n n' d : Nat} {L L' : List (Int × Nat)} {F : List Nat} {v : Value} {k : Int} {b : Bool} (h : Both w B o n d L F v) (hB : B ≤ w.heap.size) (ho : OC 16 B o n n' k L L' b) (hd : DC 43 B d k L L' b) :
    Calls Try.prog 26 #[.pointer (some ⟨o, 0, none⟩), .pointer (some ⟨d, 0, none⟩), .agg #[.int .i64 5, .int .i64 k]] w fun e w' => e = .returned (.bool true) ∧ PlayPost w w' B o n' d L' F v := by
  have hfl : ∀ x ∈ F, x < w.heap.size := fun x hx => (h.1.lt x hx).2
  have hdl : ∀ x ∈ FD d v, x < w.heap.size := fun x hx => by
    obtain ⟨t, cs, _, hb⟩ := h.2.kind x hx
    exact hb.lt
  have HW : Hid (Both (w.alloc (.cells #[.int .i64 5, .int .i64 k] 45)) B o n d L F v) := Lib.hid ⟨h.1.below ((Below.refl _ _).alloc (Nat.le_refl _) _), h.2.below ((Below.refl _ _).alloc (Nat.le_refl _) _)⟩
  have hbox := Blk.new w 45 #[.int .i64 5, .int .i64 k]
  have hkw : Keeps (F ++ FD d v) w (w.alloc (.cells #[.int .i64 5, .int .i64 k] 45)) := (Keeps.refl _ _).alloc _
  have hsw : B ≤ (w.alloc (.cells #[.int .i64 5, .int .i64 k] 45)).heap.size := by rw [World.size_alloc]; omega
  have hbe : (b == b) = true := by simp
  have e0 := hbox.cell 0
  have e1 := hbox.cell 1
  simp only [List.getElem?_toArray, List.getElem?_cons_zero, List.getElem?_cons_succ] at e0 e1
  have HBX := Lib.hid hbox; have HKW := Lib.hid hkw
  have HFL := Lib.hid hfl; have HDL := Lib.hid hdl; have HO := Lib.hid ho; have HD := Lib.hid hd
  clear hbox hkw h hfl hdl ho hd
  go_enter Try.func26, Try.ntmps26
  go_wp2
  generalize w.alloc (.cells #[.int .i64 5, .int .i64 k] 45) = W at *
  have HWD : Hid (Both W.drew B o n d L F v) := Lib.hid ⟨HW.out.1.below (Below.refl _ _).drew, HW.out.2.below (Below.refl _ _).drew⟩
  have HWO : Hid (IsOrderInt W.drew B o n F L) := Lib.hid HWD.out.1
  have HWE : Hid (IsDoc W.drew B d true L v) := Lib.hid HWD.out.2
  have HSD : Hid (B ≤ W.drew.heap.size) := Lib.hid hsw
  go_region_law
    (first
      | (go_simp; go_at_call 16; (with_reducible refine (OC.call HO.out HWO.out HSD.out).mono ?_)
         rintro e w1 ⟨rfl, ⟨F', ho1, hf1⟩, hk1⟩
         have hbx1 := Keeps.blk (F := F) (w := W.drew) hk1 HBX.out (fun hm => by have := HFL.out _ hm; omega)
         have hd1 := Both.afterO (w := W.drew) HWD.out hk1
         have hs1 : B ≤ w1.heap.size := Nat.le_trans hsw hk1.size
         have c1 := hbx1.cell 1
         simp only [List.getElem?_toArray, List.getElem?_cons_zero, List.getElem?_cons_succ] at c1)
      | (go_simp; go_at_call 43; (with_reducible refine (DC.call HD.out hd1 hs1).mono ?_)
         rintro e w2 ⟨rfl, hto⟩
         obtain ⟨v', hd2, hf2, hk2⟩ := hto
         have hpost : PlayPost w w2 B o n' d L' F v := by
           refine ⟨F', v', ⟨ho1.keeps hk2 (od_dis ho1 hd1), hd2⟩, ?_, fun x hx => ?_⟩
           rotate_left
           · have z1 := HKW.out.size
             have z2 := hk1.size
             have z3 : W.drew.heap.size = W.heap.size := rfl
             rcases List.mem_append.1 hx with hx | hx
             · rcases hf1 x hx with h | h
               · exact .inl (List.mem_append_left _ h)
               · exact .inr (by omega)
             · rcases hf2 x hx with h | h
               · exact .inl (List.mem_append_right _ h)
               · exact .inr (by omega)
           have hkd : Keeps (F ++ FD d v) w W.drew := HKW.out.drew
           have hkd1 : Keeps (F ++ FD d v) W.drew w1 := Keeps.mono hk1 (fun x hx => .inl (List.mem_append_left _ hx))
           exact (hkd.trans hkd1 (fun x hx => .inl hx)).trans hk2 (fun x hx => .inl (List.mem_append_right _ hx))
         have HP := Lib.hid hpost
         have hbx2 := hk2.blk hbx1 (fun hm => by have := HDL.out _ hm; omega)
         have c2 := hbx2.cell 1
         simp only [List.getElem?_toArray, List.getElem?_cons_zero, List.getElem?_cons_succ] at c2
         clear hpost))
  all_goals
    go_wp2
    go_ret
    exact ⟨rfl, HP.out⟩
end Go.Proofs.Ytjddjjfcongnlaa

