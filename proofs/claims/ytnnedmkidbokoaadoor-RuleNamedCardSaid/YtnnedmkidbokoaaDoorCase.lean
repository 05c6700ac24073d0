/- The argument of three laws opened: a case's twenty-two cells. -/
import Derived.Test.YtnnedmkidbokoaaDoorHeads
import Derived.Deep.Slices
namespace Go.Proofs.YtnnedmkidbokoaaDoor
open Go.ChangeShapes Go.WideShapes Go.ChangeAt Go.RowKit
theorem some_at {α : Type} {l : List α} {i n : Nat} (h : l.length = n) (hi : i < n) : ∃ x, l[i]? = some x := ⟨l[i]'(by omega), List.getElem?_eq_getElem (by omega)⟩
theorem list22 {α : Type} (l : List α) (h : l.length = 22) : ∃ a0 a1 a2 a3 a4 a5 a6 a7 a8 a9 b0 b1 b2 b3 b4 b5 b6 b7 b8 b9 c0 c1, l = [a0, a1, a2, a3, a4, a5, a6, a7, a8, a9, b0, b1, b2, b3, b4, b5, b6, b7, b8, b9, c0, c1] := by
  match l, h with
  | [a0, a1, a2, a3, a4, a5, a6, a7, a8, a9, b0, b1, b2, b3, b4, b5, b6, b7, b8, b9, c0, c1], _ => exact ⟨_, _, _, _, _, _, _, _, _, _, _, _, _, _, _, _, _, _, _, _, _, _, rfl⟩
theorem field_at {H : Type} {enc : TypeId × Value → H} {W : World} {fuel : Nat} {t : TypeId} {fs : Array Field} {cs : List Value} {x : DataW H × List MemPlace} (ht : Tryd.prog.underlying t = some (.struct fs))
    (h : DataW.trod enc Tryd.prog W 0 (fun _ => true) true fuel t cs = some x) (i : Nat) (f : Field) (hf : fs[i]? = some f) :
    ∃ n y, DataW.trod enc Tryd.prog W 0 (fun _ => true) true n f.type ((cs.drop f.offset).take (Tryd.prog.cellsOf f.type)) = some y := by
  obtain ⟨xs, n, _, _, _, hxl, hx⟩ := DataW.trod_struct ht h
  obtain ⟨y, hy⟩ := some_at hxl (Array.getElem?_eq_some_iff.1 hf).1
  exact ⟨n, y, (hx i f hf).trans hy⟩
theorem open_case {H : Type} {enc : TypeId × Value → H} {W : World} {r : Reach} {b0 : Nat} {v : Value} {d : DataW H} {p : List MemPlace} (hv : Value.okWide Tryd.prog W r b0 38 v) (h : DataW.Trod enc Tryd.prog W 0 (fun _ => true) true 38 v d p) :
    ∃ (e0 e1 e4 e5 e6 e8 s0 l1 l2 q2 q5 : Value) (sec : Int) (ro st ex : Bool) (min pay fg ty off len : Int) (A : Option Addr) (n c : Nat),
      v = .agg #[e0, e1, .int .i64 sec, .bool ro, e4, e5, e6, .int .u32 min, e8, s0, .bool st, .bool ex, .slice A n c, .int .u32 pay, l1, l2, .int .u16 fg, .int .u16 ty, q2, .int .u64 off, .int .u64 len, q5] ∧
      (0 ≤ min ∧ min ≤ 4294967295) ∧ (0 ≤ pay ∧ pay ≤ 4294967295) ∧ (0 ≤ fg ∧ fg ≤ 65535) ∧ (0 ≤ ty ∧ ty ≤ 65535) ∧ (0 ≤ off ∧ off ≤ 18446744073709551615) ∧ (0 ≤ len ∧ len ≤ 18446744073709551615) := by
  obtain ⟨cs, rfl, hsz⟩ := okWide_struct Tryd.underlying38 hv
  have c38 : Tryd.prog.cellsOf 38 = 22 := by kernel_rfl
  obtain ⟨l⟩ := cs
  obtain ⟨a0, a1, a2, a3, a4, a5, a6, a7, a8, a9, b0, b1, b2, b3, b4, b5, b6, b7, b8, b9, c0, c1, rfl⟩ := list22 l (hsz.trans c38)
  obtain ⟨fuel, hf⟩ := h
  simp only [Value.cells] at hf
  have k27 : Tryd.prog.cellsOf 27 = 9 := by kernel_rfl
  have k30 : Tryd.prog.cellsOf 30 = 4 := by kernel_rfl
  have k32 : Tryd.prog.cellsOf 32 = 3 := by kernel_rfl
  have k36 : Tryd.prog.cellsOf 36 = 6 := by kernel_rfl
  have k3 : Tryd.prog.cellsOf 3 = 1 := by kernel_rfl
  have k4 : Tryd.prog.cellsOf 4 = 1 := by kernel_rfl
  have k25 : Tryd.prog.cellsOf 25 = 1 := by kernel_rfl
  have k28 : Tryd.prog.cellsOf 28 = 1 := by kernel_rfl
  have k22 : Tryd.prog.cellsOf 22 = 1 := by kernel_rfl
  have k33 : Tryd.prog.cellsOf 33 = 1 := by kernel_rfl
  obtain ⟨n0, x0, f0⟩ := field_at Tryd.underlying38 hf 0 _ rfl
  replace f0 : DataW.trod enc Tryd.prog W 0 (fun _ => true) true n0 27 [a0, a1, a2, a3, a4, a5, a6, a7, a8] = some x0 := by simpa [k27] using f0
  obtain ⟨n1, x1, f1⟩ := field_at Tryd.underlying38 hf 1 _ rfl
  replace f1 : DataW.trod enc Tryd.prog W 0 (fun _ => true) true n1 30 [a9, b0, b1, b2] = some x1 := by simpa [k30] using f1
  obtain ⟨n2, x2, f2⟩ := field_at Tryd.underlying38 hf 2 _ rfl
  replace f2 : DataW.trod enc Tryd.prog W 0 (fun _ => true) true n2 32 [b3, b4, b5] = some x2 := by simpa [k32] using f2
  obtain ⟨n3, x3, f3⟩ := field_at Tryd.underlying38 hf 3 _ rfl
  replace f3 : DataW.trod enc Tryd.prog W 0 (fun _ => true) true n3 36 [b6, b7, b8, b9, c0, c1] = some x3 := by simpa [k36] using f3
  obtain ⟨m, y, g⟩ := field_at Tryd.underlying27 f0 2 _ rfl
  replace g : DataW.trod enc Tryd.prog W 0 (fun _ => true) true m 3 [a2] = some y := by simpa [k3] using g
  obtain ⟨sec, hc, _, wfsec⟩ := DataW.trod_int Tryd.underlying3 g
  obtain rfl : a2 = .int .i64 sec := by simpa using hc
  obtain ⟨m, y, g⟩ := field_at Tryd.underlying27 f0 3 _ rfl
  replace g : DataW.trod enc Tryd.prog W 0 (fun _ => true) true m 4 [a3] = some y := by simpa [k4] using g
  obtain ⟨ro, hc, _⟩ := DataW.trod_bool Tryd.underlying4 g
  obtain rfl : a3 = .bool ro := by simpa using hc
  obtain ⟨m, y, g⟩ := field_at Tryd.underlying27 f0 7 _ rfl
  replace g : DataW.trod enc Tryd.prog W 0 (fun _ => true) true m 25 [a7] = some y := by simpa [k25] using g
  obtain ⟨min, hc, _, wfmin⟩ := DataW.trod_int Tryd.underlying25 g
  obtain rfl : a7 = .int .u32 min := by simpa using hc
  obtain ⟨m, y, g⟩ := field_at Tryd.underlying30 f1 1 _ rfl
  replace g : DataW.trod enc Tryd.prog W 0 (fun _ => true) true m 4 [b0] = some y := by simpa [k4] using g
  obtain ⟨st, hc, _⟩ := DataW.trod_bool Tryd.underlying4 g
  obtain rfl : b0 = .bool st := by simpa using hc
  obtain ⟨m, y, g⟩ := field_at Tryd.underlying30 f1 2 _ rfl
  replace g : DataW.trod enc Tryd.prog W 0 (fun _ => true) true m 4 [b1] = some y := by simpa [k4] using g
  obtain ⟨ex, hc, _⟩ := DataW.trod_bool Tryd.underlying4 g
  obtain rfl : b1 = .bool ex := by simpa using hc
  obtain ⟨m, y, g⟩ := field_at Tryd.underlying30 f1 3 _ rfl
  replace g : DataW.trod enc Tryd.prog W 0 (fun _ => true) true m 28 [b2] = some y := by simpa [k28] using g
  obtain ⟨A, n, c, hc⟩ : ∃ (A : Option Addr) (n c : Nat), b2 = .slice A n c := by
    rcases Deep.open_slice Tryd.underlying28 g with ⟨hc, _⟩ | ⟨a, len, cap, _, _, _, _, hc, _⟩
    · exact ⟨none, 0, 0, by simpa using hc⟩
    · exact ⟨some a, len, cap, by simpa using hc⟩
  subst hc
  obtain ⟨m, y, g⟩ := field_at Tryd.underlying32 f2 0 _ rfl
  replace g : DataW.trod enc Tryd.prog W 0 (fun _ => true) true m 25 [b3] = some y := by simpa [k25] using g
  obtain ⟨pay, hc, _, wfpay⟩ := DataW.trod_int Tryd.underlying25 g
  obtain rfl : b3 = .int .u32 pay := by simpa using hc
  obtain ⟨m, y, g⟩ := field_at Tryd.underlying36 f3 0 _ rfl
  replace g : DataW.trod enc Tryd.prog W 0 (fun _ => true) true m 22 [b6] = some y := by simpa [k22] using g
  obtain ⟨fg, hc, _, wffg⟩ := DataW.trod_int Tryd.underlying22 g
  obtain rfl : b6 = .int .u16 fg := by simpa using hc
  obtain ⟨m, y, g⟩ := field_at Tryd.underlying36 f3 1 _ rfl
  replace g : DataW.trod enc Tryd.prog W 0 (fun _ => true) true m 22 [b7] = some y := by simpa [k22] using g
  obtain ⟨ty, hc, _, wfty⟩ := DataW.trod_int Tryd.underlying22 g
  obtain rfl : b7 = .int .u16 ty := by simpa using hc
  obtain ⟨m, y, g⟩ := field_at Tryd.underlying36 f3 3 _ rfl
  replace g : DataW.trod enc Tryd.prog W 0 (fun _ => true) true m 33 [b9] = some y := by simpa [k33] using g
  obtain ⟨off, hc, _, wfoff⟩ := DataW.trod_int Tryd.underlying33 g
  obtain rfl : b9 = .int .u64 off := by simpa using hc
  obtain ⟨m, y, g⟩ := field_at Tryd.underlying36 f3 4 _ rfl
  replace g : DataW.trod enc Tryd.prog W 0 (fun _ => true) true m 33 [c0] = some y := by simpa [k33] using g
  obtain ⟨len, hc, _, wflen⟩ := DataW.trod_int Tryd.underlying33 g
  obtain rfl : c0 = .int .u64 len := by simpa using hc
  exact ⟨_, _, _, _, _, _, _, _, _, _, _, sec, ro, st, ex, min, pay, fg, ty, off, len, A, n, c, rfl, bounds_u32 wfmin, bounds_u32 wfpay, bounds_u16 wffg, bounds_u16 wfty, bounds_u64 wfoff, bounds_u64 wflen⟩
end Go.Proofs.YtnnedmkidbokoaaDoor
