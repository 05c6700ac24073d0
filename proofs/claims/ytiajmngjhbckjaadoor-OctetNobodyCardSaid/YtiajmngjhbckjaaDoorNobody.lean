/- Writers and readers that no call made, nil or plain: what their methods answer; the law OctetNobody. -/
import Derived.Test.YtiajmngjhbckjaaDoorHeads
import Derived.Test.YtiajmngjhbckjaaDoorWritten
namespace Go.Proofs.YtiajmngjhbckjaaDoor
open Go.RowKit
def DeadW (w : World) (a : Option Addr) : Prop := a = none ∨ ∃ o, a = some ⟨o, 0, none⟩ ∧ Blk w o 76 #[.bool false, .slice none 0 0]
def DeadR (w : World) (a : Option Addr) : Prop := a = none ∨ ∃ o, a = some ⟨o, 0, none⟩ ∧ Blk w o 79 #[.bool false, .slice none 0 0, .int .i64 0]
section
variable {w w' : World} {a : Option Addr}
theorem DeadW.below (h : DeadW w a) (hb : Below w.heap.size w w') : DeadW w' a := by
  rcases h with h | ⟨o, h, hB⟩
  · exact .inl h
  · exact .inr ⟨o, h, hB.below hb hB.lt⟩
theorem DeadR.below (h : DeadR w a) (hb : Below w.heap.size w w') : DeadR w' a := by
  rcases h with h | ⟨o, h, hB⟩
  · exact .inl h
  · exact .inr ⟨o, h, hB.below hb hB.lt⟩
theorem deadW (h : DeadW w a) : Calls Tryd.prog 53 #[.pointer a] w fun e w' => e = .returned (.bool false) ∧ w = w' := by
  rcases h with rfl | ⟨o, rfl, hB⟩
  · go_enter Tryd.func53, Tryd.ntmps53
    go_wp2
    go_ret
    exact ⟨rfl, rfl⟩
  · have o0 := Blk.cell hB 0
    simp only [List.getElem?_toArray, List.getElem?_cons_zero] at o0
    go_enter Tryd.func53, Tryd.ntmps53
    go_wp2
    go_ret
    exact ⟨rfl, rfl⟩
theorem deadR (h : DeadR w a) : Calls Tryd.prog 59 #[.pointer a] w fun e w' => e = .returned (.bool false) ∧ w = w' := by
  rcases h with rfl | ⟨o, rfl, hB⟩
  · go_enter Tryd.func59, Tryd.ntmps59
    go_wp2
    go_ret
    exact ⟨rfl, rfl⟩
  · have o0 := Blk.cell hB 0
    simp only [List.getElem?_toArray, List.getElem?_cons_zero] at o0
    go_enter Tryd.func59, Tryd.ntmps59
    go_wp2
    go_ret
    exact ⟨rfl, rfl⟩
theorem dnum (h : DeadW w a) (z n : Int) : Calls Tryd.prog 60 #[.pointer a, .int .u64 z, .int .i64 n] w fun e w' => e = .returned (.tuple #[]) ∧ w = w' := by
  have hc := deadW h
  have HC := Lib.hid hc
  clear h hc
  go_enter Tryd.func60, Tryd.ntmps60
  go_wp2_with fail
  refine HC.out.mono ?_
  rintro e w1 ⟨rfl, rfl⟩
  go_wp2
  refine bodyPost_ret (results_none rfl _ _ _) rfl ?_
  exact ⟨rfl, rfl⟩
theorem dwu8 (h : DeadW w a) (z : Int) (hz : 0 ≤ z ∧ z ≤ 255) : Calls Tryd.prog 28 #[.pointer a, .int .u8 z] w fun e w' => e = .returned (.tuple #[]) ∧ w = w' := by
  have hc := dnum h z 1
  have HC := Lib.hid hc
  clear h hc
  have hz0 := hz.1
  have hz1 := hz.2
  have hwz : IntKind.u64.wrap z = z := IntWalk.u64_in _ (by omega)
  clear hz
  go_enter Tryd.func28, Tryd.ntmps28
  go_wp2_with fail
  refine HC.out.mono ?_
  rintro e w1 ⟨rfl, rfl⟩
  go_wp2
  go_end0
  exact ⟨rfl, rfl⟩
theorem dwu16 (h : DeadW w a) (z : Int) (hz : 0 ≤ z ∧ z ≤ 65535) : Calls Tryd.prog 29 #[.pointer a, .int .u16 z] w fun e w' => e = .returned (.tuple #[]) ∧ w = w' := by
  have hc := dnum h z 2
  have HC := Lib.hid hc
  clear h hc
  have hz0 := hz.1
  have hz1 := hz.2
  have hwz : IntKind.u64.wrap z = z := IntWalk.u64_in _ (by omega)
  clear hz
  go_enter Tryd.func29, Tryd.ntmps29
  go_wp2_with fail
  refine HC.out.mono ?_
  rintro e w1 ⟨rfl, rfl⟩
  go_wp2
  go_end0
  exact ⟨rfl, rfl⟩
theorem dwu32 (h : DeadW w a) (z : Int) (hz : 0 ≤ z ∧ z ≤ 4294967295) : Calls Tryd.prog 30 #[.pointer a, .int .u32 z] w fun e w' => e = .returned (.tuple #[]) ∧ w = w' := by
  have hc := dnum h z 4
  have HC := Lib.hid hc
  clear h hc
  have hz0 := hz.1
  have hz1 := hz.2
  have hwz : IntKind.u64.wrap z = z := IntWalk.u64_in _ (by omega)
  clear hz
  go_enter Tryd.func30, Tryd.ntmps30
  go_wp2_with fail
  refine HC.out.mono ?_
  rintro e w1 ⟨rfl, rfl⟩
  go_wp2
  go_end0
  exact ⟨rfl, rfl⟩
theorem dwu64 (h : DeadW w a) (z : Int) : Calls Tryd.prog 31 #[.pointer a, .int .u64 z] w fun e w' => e = .returned (.tuple #[]) ∧ w = w' := by
  have hc := dnum h z 8
  have HC := Lib.hid hc
  clear h hc
  go_enter Tryd.func31, Tryd.ntmps31
  go_wp2_with fail
  refine HC.out.mono ?_
  rintro e w1 ⟨rfl, rfl⟩
  go_wp2
  go_end0
  exact ⟨rfl, rfl⟩
theorem dwraw (h : DeadW w a) (u : Value) : Calls Tryd.prog 32 #[.pointer a, u] w fun e w' => e = .returned (.tuple #[]) ∧ w = w' := by
  have hc := deadW h
  have HC := Lib.hid hc
  clear h hc
  go_enter Tryd.func32, Tryd.ntmps32
  go_wp2_with fail
  refine HC.out.mono ?_
  rintro e w1 ⟨rfl, rfl⟩
  go_wp2
  go_end0
  exact ⟨rfl, rfl⟩
theorem dwzeros (h : DeadW w a) (n : Int) : Calls Tryd.prog 50 #[.pointer a, .int .i64 n] w fun e w' => e = .returned (.int .i64 1) ∧ w = w' := by
  have hc := deadW h
  have HC := Lib.hid hc
  clear h hc
  go_enter Tryd.func50, Tryd.ntmps50
  go_wp2_with fail
  refine HC.out.mono ?_
  rintro e w1 ⟨rfl, rfl⟩
  go_wp2
  go_ret
  exact ⟨rfl, rfl⟩
theorem dwtext (h : DeadW w a) (s : ByteArray) : Calls Tryd.prog 33 #[.pointer a, .string s] w fun e w' => e = .returned (.int .i64 1) ∧ w = w' := by
  have hc := deadW h
  have HC := Lib.hid hc
  clear h hc
  go_enter Tryd.func33, Tryd.ntmps33
  go_wp2_with fail
  refine HC.out.mono ?_
  rintro e w1 ⟨rfl, rfl⟩
  go_wp2
  go_ret
  exact ⟨rfl, rfl⟩
theorem dwlen (h : DeadW w a) : Calls Tryd.prog 14 #[.pointer a] w fun e w' => e = .returned (.int .i64 0) ∧ w = w' := by
  have hc := deadW h
  have HC := Lib.hid hc
  clear h hc
  go_enter Tryd.func14, Tryd.ntmps14
  go_wp2_with fail
  refine HC.out.mono ?_
  rintro e w1 ⟨rfl, rfl⟩
  go_wp2
  go_ret
  exact ⟨rfl, rfl⟩
theorem dwout (h : DeadW w a) : Calls Tryd.prog 16 #[.pointer a] w fun e w' => e = .returned (.slice none 0 0) ∧ w = w' := by
  have hc := deadW h
  have HC := Lib.hid hc
  clear h hc
  go_enter Tryd.func16, Tryd.ntmps16
  go_wp2_with fail
  refine HC.out.mono ?_
  rintro e w1 ⟨rfl, rfl⟩
  go_wp2
  go_ret
  exact ⟨rfl, rfl⟩
theorem drnum (h : DeadR w a) (n : Int) : Calls Tryd.prog 61 #[.pointer a, .int .i64 n] w fun e w' => e = .returned (.tuple #[.int .u64 0, .int .i64 1]) ∧ w = w' := by
  have hc := deadR h
  have HC := Lib.hid hc
  clear h hc
  go_enter Tryd.func61, Tryd.ntmps61
  go_wp2_with fail
  refine HC.out.mono ?_
  rintro e w1 ⟨rfl, rfl⟩
  go_wp2
  go_ret2
  exact ⟨rfl, rfl⟩
theorem dru8 (h : DeadR w a) : Calls Tryd.prog 34 #[.pointer a] w fun e w' => e = .returned (.tuple #[.int .u8 0, .int .i64 1]) ∧ w = w' := by
  have hc := drnum h 1
  have HC := Lib.hid hc
  clear h hc
  go_enter Tryd.func34, Tryd.ntmps34
  go_wp2_with fail
  refine HC.out.mono ?_
  rintro e w1 ⟨rfl, rfl⟩
  go_wp2
  go_ret2
  exact ⟨rfl, rfl⟩
theorem dru16 (h : DeadR w a) : Calls Tryd.prog 35 #[.pointer a] w fun e w' => e = .returned (.tuple #[.int .u16 0, .int .i64 1]) ∧ w = w' := by
  have hc := drnum h 2
  have HC := Lib.hid hc
  clear h hc
  go_enter Tryd.func35, Tryd.ntmps35
  go_wp2_with fail
  refine HC.out.mono ?_
  rintro e w1 ⟨rfl, rfl⟩
  go_wp2
  go_ret2
  exact ⟨rfl, rfl⟩
theorem dru32 (h : DeadR w a) : Calls Tryd.prog 36 #[.pointer a] w fun e w' => e = .returned (.tuple #[.int .u32 0, .int .i64 1]) ∧ w = w' := by
  have hc := drnum h 4
  have HC := Lib.hid hc
  clear h hc
  go_enter Tryd.func36, Tryd.ntmps36
  go_wp2_with fail
  refine HC.out.mono ?_
  rintro e w1 ⟨rfl, rfl⟩
  go_wp2
  go_ret2
  exact ⟨rfl, rfl⟩
theorem dru64 (h : DeadR w a) : Calls Tryd.prog 37 #[.pointer a] w fun e w' => e = .returned (.tuple #[.int .u64 0, .int .i64 1]) ∧ w = w' := by
  have hc := drnum h 8
  have HC := Lib.hid hc
  clear h hc
  go_enter Tryd.func37, Tryd.ntmps37
  go_wp2_with fail
  refine HC.out.mono ?_
  rintro e w1 ⟨rfl, rfl⟩
  go_wp2
  go_ret2
  exact ⟨rfl, rfl⟩
theorem drraw (h : DeadR w a) (n : Int) : Calls Tryd.prog 38 #[.pointer a, .int .i64 n] w fun e w' => e = .returned (.tuple #[.slice none 0 0, .int .i64 1]) ∧ w = w' := by
  have hc := deadR h
  have HC := Lib.hid hc
  clear h hc
  go_enter Tryd.func38, Tryd.ntmps38
  go_wp2_with fail
  refine HC.out.mono ?_
  rintro e w1 ⟨rfl, rfl⟩
  go_wp2
  go_ret2
  exact ⟨rfl, rfl⟩
theorem drtext (h : DeadR w a) (n : Int) : Calls Tryd.prog 39 #[.pointer a, .int .i64 n] w fun e w' => e = .returned (.tuple #[.string ⟨#[]⟩, .int .i64 1]) ∧ w = w' := by
  have hc := deadR h
  have HC := Lib.hid hc
  clear h hc
  go_enter Tryd.func39, Tryd.ntmps39
  go_wp2_with fail
  refine HC.out.mono ?_
  rintro e w1 ⟨rfl, rfl⟩
  go_wp2
  go_ret2
  exact ⟨rfl, rfl⟩
theorem drat (h : DeadR w a) : Calls Tryd.prog 24 #[.pointer a] w fun e w' => e = .returned (.int .i64 0) ∧ w = w' := by
  have hc := deadR h
  have HC := Lib.hid hc
  clear h hc
  go_enter Tryd.func24, Tryd.ntmps24
  go_wp2_with fail
  refine HC.out.mono ?_
  rintro e w1 ⟨rfl, rfl⟩
  go_wp2
  go_ret
  exact ⟨rfl, rfl⟩
theorem drleft (h : DeadR w a) : Calls Tryd.prog 25 #[.pointer a] w fun e w' => e = .returned (.int .i64 0) ∧ w = w' := by
  have hc := deadR h
  have HC := Lib.hid hc
  clear h hc
  go_enter Tryd.func25, Tryd.ntmps25
  go_wp2_with fail
  refine HC.out.mono ?_
  rintro e w1 ⟨rfl, rfl⟩
  go_wp2
  go_ret
  exact ⟨rfl, rfl⟩
theorem drend (h : DeadR w a) : Calls Tryd.prog 26 #[.pointer a] w fun e w' => e = .returned (.int .i64 1) ∧ w = w' := by
  have hc := deadR h
  have HC := Lib.hid hc
  clear h hc
  go_enter Tryd.func26, Tryd.ntmps26
  go_wp2_with fail
  refine HC.out.mono ?_
  rintro e w1 ⟨rfl, rfl⟩
  go_wp2
  go_ret
  exact ⟨rfl, rfl⟩
set_option maxRecDepth 20000 in
set_option maxHeartbeats 4000000 in
theorem nobW (h : DeadW w a) (j n : Int) (z : Nat) (A : Option Addr) (m c : Nat) (s : ByteArray) :
    Calls Tryd.prog 40 #[.pointer a, .agg (wArg j z n A m c s)] w fun e w' => e = .returned (.bool true) ∧ Below w.heap.size w w' := by
  unfold wArg
  have ha : Below w.heap.size w (w.alloc (.cells #[.int .i64 j, .int .u64 z, .int .i64 n, .slice A m c, .string s] 32)) := (Below.refl _ _).alloc (Nat.le_refl _) _
  have hbox := Blk.new w 32 #[.int .i64 j, .int .u64 z, .int .i64 n, .slice A m c, .string s]
  have b1 := hbox.cell 1
  have b2 := hbox.cell 2
  have b3 := hbox.cell 3
  have b4 := hbox.cell 4
  simp only [List.getElem?_toArray, List.getElem?_cons_zero, List.getElem?_cons_succ] at b1 b2 b3 b4
  have h8 : IntKind.u8.wrap (z : Int) = ((z % 256 : Nat) : Int) := by rw [IntKind.wrap_u8]; omega
  have h16 : IntKind.u16.wrap (z : Int) = ((z % 65536 : Nat) : Int) := by rw [IntKind.wrap_u16]; omega
  have h32 : IntKind.u32.wrap (z : Int) = ((z % 4294967296 : Nat) : Int) := by rw [IntKind.wrap_u32]; omega
  have HD := Lib.hid (h.below ha); have HA := Lib.hid ha
  clear h ha hbox
  go_enter Tryd.func40, Tryd.ntmps40
  go_wp2_with fail
  generalize w.alloc (.cells #[.int .i64 j, .int .u64 z, .int .i64 n, .slice A m c, .string s] 32) = W at *
  refine (dwu8 HD.out _ (by omega)).mono ?_
  rintro e w1 ⟨rfl, rfl⟩
  go_wp2_with fail
  refine (dwu16 HD.out _ (by omega)).mono ?_
  rintro e w1 ⟨rfl, rfl⟩
  go_wp2_with fail
  refine (dwu32 HD.out _ (by omega)).mono ?_
  rintro e w1 ⟨rfl, rfl⟩
  go_wp2_with fail
  refine (dwu64 HD.out _).mono ?_
  rintro e w1 ⟨rfl, rfl⟩
  go_wp2_with fail
  refine (dwraw HD.out _).mono ?_
  rintro e w1 ⟨rfl, rfl⟩
  go_wp2_with fail
  refine (dwzeros HD.out _).mono ?_
  rintro e w1 ⟨rfl, rfl⟩
  go_wp2_with fail
  refine (dwtext HD.out _).mono ?_
  rintro e w1 ⟨rfl, rfl⟩
  go_wp2_with fail
  refine (dwlen HD.out).mono ?_
  rintro e w1 ⟨rfl, rfl⟩
  go_wp2_with fail
  refine (dwout HD.out).mono ?_
  rintro e w1 ⟨rfl, rfl⟩
  go_wp2
  go_ret
  exact ⟨rfl, HA.out⟩
set_option maxRecDepth 20000 in
set_option maxHeartbeats 4000000 in
theorem nobR (h : DeadR w a) (j n : Int) :
    Calls Tryd.prog 41 #[.pointer a, .agg #[.int .i64 j, .int .i64 n]] w fun e w' => e = .returned (.bool true) ∧ Below w.heap.size w w' := by
  have ha : Below w.heap.size w (w.alloc (.cells #[.int .i64 j, .int .i64 n] 48)) := (Below.refl _ _).alloc (Nat.le_refl _) _
  have hbox := Blk.new w 48 #[.int .i64 j, .int .i64 n]
  have b1 := hbox.cell 1
  simp only [List.getElem?_toArray, List.getElem?_cons_zero, List.getElem?_cons_succ] at b1
  have HD := Lib.hid (h.below ha); have HA := Lib.hid ha
  clear h ha hbox
  go_enter Tryd.func41, Tryd.ntmps41
  go_wp2_with fail
  generalize w.alloc (.cells #[.int .i64 j, .int .i64 n] 48) = W at *
  refine (dru8 HD.out).mono ?_
  rintro e w1 ⟨rfl, rfl⟩
  go_wp2_with fail
  refine (dru16 HD.out).mono ?_
  rintro e w1 ⟨rfl, rfl⟩
  go_wp2_with fail
  refine (dru32 HD.out).mono ?_
  rintro e w1 ⟨rfl, rfl⟩
  go_wp2_with fail
  refine (dru64 HD.out).mono ?_
  rintro e w1 ⟨rfl, rfl⟩
  go_wp2_with fail
  refine (drraw HD.out _).mono ?_
  rintro e w1 ⟨rfl, rfl⟩
  go_wp2_with fail
  refine (drtext HD.out _).mono ?_
  rintro e w1 ⟨rfl, rfl⟩
  go_wp2_with fail
  refine (drat HD.out).mono ?_
  rintro e w1 ⟨rfl, rfl⟩
  go_wp2_with fail
  refine (drleft HD.out).mono ?_
  rintro e w1 ⟨rfl, rfl⟩
  go_wp2_with fail
  refine (drend HD.out).mono ?_
  rintro e w1 ⟨rfl, rfl⟩
  go_wp2
  go_ret
  exact ⟨rfl, HA.out⟩
set_option maxRecDepth 20000 in
set_option maxHeartbeats 4000000 in
theorem nobody_any (j n : Int) (z : Nat) (A : Option Addr) (m c : Nat) (s : ByteArray) (j2 n2 : Int) (w : World) (hT : Lib.Utf8Tabs 0 1 w) (h2 : 2 ≤ w.heap.size) :
    Calls Tryd.prog 8 #[.agg (wArg j z n A m c s), .agg #[.int .i64 j2, .int .i64 n2]] w fun e w' => e = .returned (.bool true) ∧ Below w.heap.size w w' := by
  have hb1 : Below w.heap.size w (w.alloc (.cells (wArg j z n A m c s) 32)) := (Below.refl _ _).alloc (Nat.le_refl _) _
  have hb2 : Below w.heap.size w ((w.alloc (.cells (wArg j z n A m c s) 32)).alloc (.cells #[.int .i64 j2, .int .i64 n2] 48)) := hb1.alloc hb1.size _
  have hb3 : Below w.heap.size w (((w.alloc (.cells (wArg j z n A m c s) 32)).alloc (.cells #[.int .i64 j2, .int .i64 n2] 48)).alloc (.cells #[.bool false, .slice none 0 0] 76)) := hb2.alloc hb2.size _
  have hbx1 : Blk (((w.alloc (.cells (wArg j z n A m c s) 32)).alloc (.cells #[.int .i64 j2, .int .i64 n2] 48)).alloc (.cells #[.bool false, .slice none 0 0] 76)) w.heap.size 32 (wArg j z n A m c s) := ((Blk.new w 32 _).alloc _).alloc _
  have hbx2 : Blk (((w.alloc (.cells (wArg j z n A m c s) 32)).alloc (.cells #[.int .i64 j2, .int .i64 n2] 48)).alloc (.cells #[.bool false, .slice none 0 0] 76)) (w.heap.size + 1) 48 #[.int .i64 j2, .int .i64 n2] := by
    have := (Blk.new (w.alloc (.cells (wArg j z n A m c s) 32)) 48 #[.int .i64 j2, .int .i64 n2]).alloc (.cells #[.bool false, .slice none 0 0] 76)
    rwa [World.size_alloc] at this
  have hd : DeadW (((w.alloc (.cells (wArg j z n A m c s) 32)).alloc (.cells #[.int .i64 j2, .int .i64 n2] 48)).alloc (.cells #[.bool false, .slice none 0 0] 76)) (some ⟨w.heap.size + 1 + 1, 0, none⟩) := .inr ⟨_, rfl, by
    have := Blk.new ((w.alloc (.cells (wArg j z n A m c s) 32)).alloc (.cells #[.int .i64 j2, .int .i64 n2] 48)) 76 #[.bool false, .slice none 0 0]
    rwa [World.size_alloc, World.size_alloc] at this⟩
  have HT := Lib.hid hT; have HB3 := Lib.hid hb3; have HX1 := Lib.hid hbx1; have HX2 := Lib.hid hbx2; have HD := Lib.hid hd
  clear hT hb1 hb2 hb3 hbx1 hbx2 hd
  unfold wArg at *
  have c0 := HX1.out.cell 0
  have c1 := HX1.out.cell 1
  have c2 := HX1.out.cell 2
  have c3 := HX1.out.cell 3
  have c4 := HX1.out.cell 4
  simp only [List.getElem?_toArray, List.getElem?_cons_zero, List.getElem?_cons_succ] at c0 c1 c2 c3 c4
  go_enter Tryd.func8, Tryd.ntmps8
  go_wp2_with fail
  refine (nobW (.inl rfl) j n z A m c s).mono ?_
  rintro e w1 ⟨rfl, hb1⟩
  have hx1 := HX1.out.below hb1 HX1.out.lt
  have hd1 := HD.out.below hb1
  have c0 := hx1.cell 0
  have c1 := hx1.cell 1
  have c2 := hx1.cell 2
  have c3 := hx1.cell 3
  have c4 := hx1.cell 4
  simp only [List.getElem?_toArray, List.getElem?_cons_zero, List.getElem?_cons_succ] at c0 c1 c2 c3 c4
  have HD1 := Lib.hid hd1
  have HX21 := Lib.hid (HX2.out.below hb1 HX2.out.lt)
  have hB1 : Below w.heap.size w w1 := HB3.out.trans (hb1.mono HB3.out.size)
  clear hx1 hd1
  go_wp2_with fail
  refine (nobW HD1.out j n z A m c s).mono ?_
  rintro e w2 ⟨rfl, hb2⟩
  have hB2 : Below w.heap.size w w2 := hB1.trans (hb2.mono hB1.size)
  have hx2 := HX21.out.below hb2 HX21.out.lt
  have hx3 := hx2.alloc (.cells #[.bool false, .slice none 0 0, .int .i64 0] 79)
  have d0 := hx3.cell 0
  have d1 := hx3.cell 1
  simp only [List.getElem?_toArray, List.getElem?_cons_zero, List.getElem?_cons_succ] at d0 d1
  have hB3 : Below w.heap.size w (w2.alloc (.cells #[.bool false, .slice none 0 0, .int .i64 0] 79)) := hB2.alloc hB2.size _
  have hdr : DeadR (w2.alloc (.cells #[.bool false, .slice none 0 0, .int .i64 0] 79)) (some ⟨w2.heap.size, 0, none⟩) := .inr ⟨_, rfl, Blk.new w2 79 _⟩
  have HX3 := Lib.hid hx3; have HB3' := Lib.hid hB3; have HDR := Lib.hid hdr
  clear hx2 hx3 hB3 hdr hB2 hB1 HX21 HD1
  go_wp2_with fail
  refine (nobR (.inl rfl) j2 n2).mono ?_
  rintro e w4 ⟨rfl, hb4⟩
  have hx4 := HX3.out.below hb4 HX3.out.lt
  have f0 := hx4.cell 0
  have f1 := hx4.cell 1
  simp only [List.getElem?_toArray, List.getElem?_cons_zero, List.getElem?_cons_succ] at f0 f1
  have HD4 := Lib.hid (HDR.out.below hb4)
  have hB4 : Below w.heap.size w w4 := HB3'.out.trans (hb4.mono HB3'.out.size)
  clear hx4
  go_wp2_with fail
  refine (nobR HD4.out j2 n2).mono ?_
  rintro e w5 ⟨rfl, hb5⟩
  have hB5 : Below w.heap.size w w5 := hB4.trans (hb5.mono hB4.size)
  go_wp2_with fail
  refine (heads_any w5 (tabs_low HT.out hB5 h2) (Nat.le_trans h2 hB5.size)).mono ?_
  rintro e w6 ⟨rfl, hb6⟩
  have hB6 : Below w.heap.size w w6 := hB5.trans (hb6.mono hB5.size)
  go_wp2
  go_ret
  exact ⟨rfl, hB6⟩
end
end Go.Proofs.YtiajmngjhbckjaaDoor

