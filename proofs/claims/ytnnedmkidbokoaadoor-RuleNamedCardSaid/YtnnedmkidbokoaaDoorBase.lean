/- The table of commands as the row's list gives it, and the contracts of rule.Known, of, Allowed, Changes and of the document's three; conditions: the table's 24 cells hold what the row lists, the command's number is a u16. -/
import Derived.Test.YtnnedmkidbokoaaDoorRows
import Derived.WalkKit
import Derived.ProofKit
import Derived.OpenShut
import Derived.Below
import Derived.Deep.Strs
import Derived.Lib.LaidTab
import Derived.Laws.ResultCell
import Derived.Lib.Hide
namespace Go.Proofs.YtnnedmkidbokoaaDoor
open Go.RowKit

/-- The flags that a command may have. -/
def fl (c : Int) : Int := if c < 0 then 0 else if 8 ≤ c then 0 else if c = 0 then 5 else if c = 6 then 19 else if c = 7 then 9 else 1
/-- Does it change bytes? -/
def ch (c : Int) : Bool := c == 1 || c == 4 || c == 6
/-- The error beyond the end. -/
def be (c : Int) : Int := if c < 0 then 0 else if 8 ≤ c then 0 else if c = 1 then 28 else if c = 6 then 28 else if c = 2 then 0 else if c = 3 then 0 else 22

/-- The table's cells. -/
def Tab (w : World) : Prop := 0 < w.heap.size ∧ ∀ i : Nat, i < 8 → w.cell? ⟨0, i * 3, none⟩ = some (.int .u16 (fl i)) ∧ w.cell? ⟨0, i * 3 + 1, none⟩ = some (.bool (ch i)) ∧ w.cell? ⟨0, i * 3 + 2, none⟩ = some (.int .u32 (be i))

theorem Tab.below {w w' : World} {n : Nat} (h : Tab w) (hn : 0 < n) (hb : Below n w w') : Tab w' := by
  refine ⟨by have := hb.size; have := h.1; omega, fun i hi => ?_⟩
  obtain ⟨a, b, c⟩ := h.2 i hi
  exact ⟨(hb.cell (p := ⟨0, i * 3, none⟩) hn).trans a, (hb.cell (p := ⟨0, i * 3 + 1, none⟩) hn).trans b, (hb.cell (p := ⟨0, i * 3 + 2, none⟩) hn).trans c⟩

theorem of_in (c F B : Int) (C : Bool) (w : World) (h0 : 0 ≤ c) (h8 : c < 8) (hz : 0 < w.heap.size) (k0 : w.cell? ⟨0, c.toNat * 3, none⟩ = some (.int .u16 F)) (k1 : w.cell? ⟨0, c.toNat * 3 + 1, none⟩ = some (.bool C)) (k2 : w.cell? ⟨0, c.toNat * 3 + 2, none⟩ = some (.int .u32 B)) :
    Calls Tryd.prog 16 #[.int .u16 c] w fun e w' => e = .returned (.agg #[.int .u16 F, .bool C, .int .u32 B]) ∧ Below w.heap.size w w' := by
  have hd : decide (c < 8) = true := by simpa using h8
  go_enter Tryd.func16, Tryd.ntmps16
  go_wp2
  exact bodyPost_ret (v := .agg #[.int .u16 F, .bool C, .int .u32 B]) (by simp [results, Tryd.results16, go_sem]) rfl ⟨rfl, by repeat (first | exact Below.refl _ _ | apply Below.drew | refine Below.alloc ?_ (by simp) _ | refine Below.setCell ?_ (by simp) _)⟩
theorem of_out (c : Int) (w : World) (h8 : 8 ≤ c) (h : c ≤ 65535) :
    Calls Tryd.prog 16 #[.int .u16 c] w fun e w' => e = .returned (.agg #[.int .u16 0, .bool false, .int .u32 0]) ∧ Below w.heap.size w w' := by
  have hd : decide (c < 8) = false := by simpa using h8
  go_enter Tryd.func16, Tryd.ntmps16
  go_wp2
  exact bodyPost_ret (v := .agg #[.int .u16 0, .bool false, .int .u32 0]) (by simp [results, Tryd.results16, go_sem]) rfl ⟨rfl, by repeat (first | exact Below.refl _ _ | apply Below.drew | refine Below.alloc ?_ (by simp) _ | refine Below.setCell ?_ (by simp) _)⟩
theorem of_any (c : Int) (w : World) (h0 : 0 ≤ c) (h : c ≤ 65535) (hT : Tab w) :
    Calls Tryd.prog 16 #[.int .u16 c] w fun e w' => e = .returned (.agg #[.int .u16 (fl c), .bool (ch c), .int .u32 (be c)]) ∧ Below w.heap.size w w' := by
  by_cases h8 : c < 8
  · obtain ⟨i, rfl⟩ := Int.eq_ofNat_of_zero_le h0
    obtain ⟨a, b, d⟩ := hT.2 i (by omega)
    exact of_in i _ _ _ w (by omega) h8 hT.1 (by simpa using a) (by simpa using b) (by simpa using d)
  · have e1 : fl c = 0 := by unfold fl; rw [if_neg (by omega), if_pos (by omega)]
    have e2 : ch c = false := by unfold ch; simp; omega
    have e3 : be c = 0 := by unfold be; rw [if_neg (by omega), if_pos (by omega)]
    rw [e1, e2, e3]
    exact of_out c w (by omega) h

theorem known (c : Int) (w : World) (h0 : 0 ≤ c) (h : c ≤ 65535) :
    Calls Tryd.prog 7 #[.int .u16 c] w fun e w' => e = .returned (.bool (decide (c < 8))) ∧ w = w' := by
  go_enter Tryd.func7, Tryd.ntmps7
  go_wp2
  go_ret
  exact ⟨rfl, rfl⟩
theorem field0 (F B : Int) (C : Bool) (w : World) : (Instr.field 44 (.agg #[.int .u16 F, .bool C, .int .u32 B]) 0).run Tryd.prog w = .ok (.int .u16 F) w := by kernel_rfl
theorem field1 (F B : Int) (C : Bool) (w : World) : (Instr.field 44 (.agg #[.int .u16 F, .bool C, .int .u32 B]) 1).run Tryd.prog w = .ok (.bool C) w := by kernel_rfl
theorem allowed (c : Int) (w : World) (h0 : 0 ≤ c) (h : c ≤ 65535) (hT : Tab w) :
    Calls Tryd.prog 9 #[.int .u16 c] w fun e w' => e = .returned (.int .u16 (fl c)) ∧ Below w.heap.size w w' := by
  have HT := Lib.hid hT; clear hT
  have hf := fun w' => field0 (fl c) (be c) (ch c) w'
  go_enter Tryd.func9, Tryd.ntmps9
  go_wp2_with (go_at_call 16; refine (of_any _ _ (by omega) (by omega) HT.out).mono ?_; rintro e w' ⟨rfl, hb⟩)
  go_ret
  exact ⟨rfl, by assumption⟩
theorem changes (c : Int) (w : World) (h0 : 0 ≤ c) (h : c ≤ 65535) (hT : Tab w) :
    Calls Tryd.prog 11 #[.int .u16 c] w fun e w' => e = .returned (.bool (ch c)) ∧ Below w.heap.size w w' := by
  have HT := Lib.hid hT; clear hT
  have hf := fun w' => field1 (fl c) (be c) (ch c) w'
  go_enter Tryd.func11, Tryd.ntmps11
  go_wp2_with (go_at_call 16; refine (of_any _ _ (by omega) (by omega) HT.out).mono ?_; rintro e w' ⟨rfl, hb⟩)
  go_ret
  exact ⟨rfl, by assumption⟩
theorem rknown (c : Int) (w : World) (h0 : 0 ≤ c) (h : c ≤ 65535) :
    Calls Tryd.prog 8 #[.int .u16 c] w fun e w' => e = .returned (.bool (decide (c < 8))) ∧ w = w' := by
  go_enter Tryd.func8, Tryd.ntmps8
  go_wp2
  go_ret
  exact ⟨by congr 2; simp; omega, rfl⟩
theorem rallowed (c : Int) (w : World) (h0 : 0 ≤ c) (h : c ≤ 65535) :
    Calls Tryd.prog 10 #[.int .u16 c] w fun e w' => e = .returned (.int .u16 (fl c)) ∧ w = w' := by
  by_cases h1 : 7 < c
  · have e : fl c = 0 := by unfold fl; rw [if_neg (by omega), if_pos (by omega)]
    rw [e]; clear e
    go_enter Tryd.func10, Tryd.ntmps10
    go_wp2
    go_ret
    exact ⟨rfl, rfl⟩
  · obtain rfl | rfl | rfl | rfl | rfl | rfl | rfl | rfl : c = 0 ∨ c = 1 ∨ c = 2 ∨ c = 3 ∨ c = 4 ∨ c = 5 ∨ c = 6 ∨ c = 7 := by omega
    all_goals
      go_enter Tryd.func10, Tryd.ntmps10
      go_wp2
      go_ret
      exact ⟨rfl, rfl⟩
theorem rchanges (c : Int) (w : World) (h0 : 0 ≤ c) (h : c ≤ 65535) :
    Calls Tryd.prog 12 #[.int .u16 c] w fun e w' => e = .returned (.bool (ch c)) ∧ w = w' := by
  by_cases h1 : 7 < c
  · have e : ch c = false := by unfold ch; simp; omega
    have e1 : (c == 1) = false := by simp; omega
    have e4 : (c == 4) = false := by simp; omega
    have e6 : (c == 6) = false := by simp; omega
    rw [e]; clear e
    go_enter Tryd.func12, Tryd.ntmps12
    go_wp2
    go_ret
    exact ⟨rfl, rfl⟩
  · obtain rfl | rfl | rfl | rfl | rfl | rfl | rfl | rfl : c = 0 ∨ c = 1 ∨ c = 2 ∨ c = 3 ∨ c = 4 ∨ c = 5 ∨ c = 6 ∨ c = 7 := by omega
    all_goals
      go_enter Tryd.func12, Tryd.ntmps12
      go_wp2
      go_ret
      exact ⟨rfl, rfl⟩

/-- The row's list gives the table. -/
theorem tab_of_laid {W : World} (h : laidMetH Tryd.prog Rows.ruleCommandsRow.laid W) : Tab W := by
  obtain ⟨ps, ⟨g', t', cs, fuel, p, q, hg', ht', hvar, hd, _, _⟩, _⟩ := h
  obtain rfl := Option.some.inj ((show Tryd.prog.globalNamed "spindle/rule.commands" = some 0 by kernel_rfl).symm.trans hg')
  obtain rfl := Option.some.inj ((show (Tryd.prog.globals[0]?).map (·.type) = some 46 by kernel_rfl).symm.trans ht')
  obtain ⟨xs, m, rfl, hx, hl, hn, he⟩ := DataW.trod_array Tryd.underlying46 hd
  have c44 : Tryd.prog.cellsOf 44 = 3 := by kernel_rfl
  suffices hall : ∀ i : Nat, i < 8 → W.cell? ⟨0, i * 3, none⟩ = some (.int .u16 (fl i)) ∧ W.cell? ⟨0, i * 3 + 1, none⟩ = some (.bool (ch i)) ∧ W.cell? ⟨0, i * 3 + 2, none⟩ = some (.int .u32 (be i)) by
    refine ⟨?_, hall⟩
    have h1 := (hall 0 (by decide)).1
    cases hs : W.heap[0]? with
    | none => simp [World.cell?, hs] at h1
    | some o => exact (Array.getElem?_eq_some_iff.1 hs).1
  intro i hi
  have h1 := he i hi
  rw [c44] at h1
  obtain ⟨x, hxi⟩ : ∃ x, xs[i]? = some x := ⟨xs[i]'(by omega), List.getElem?_eq_getElem (by omega)⟩
  rw [hxi] at h1
  obtain ⟨y0, y1, y2, n, rfl, hl3, e0, e1, e2⟩ := Deep.trod_struct3 Tryd.underlying44 h1
  have c22 : Tryd.prog.cellsOf 22 = 1 := by kernel_rfl
  have c4 : Tryd.prog.cellsOf 4 = 1 := by kernel_rfl
  have c25 : Tryd.prog.cellsOf 25 = 1 := by kernel_rfl
  simp only [c22, c4, c25] at e0 e1 e2
  obtain ⟨a, g0, rfl, _⟩ := DataW.trod_int Tryd.underlying22 e0
  obtain ⟨b, g1, rfl⟩ := DataW.trod_bool Tryd.underlying4 e1
  obtain ⟨d, g2, rfl, _⟩ := DataW.trod_int Tryd.underlying25 e2
  have r0 : cs[i * 3]? = some (.int .u16 a) := by
    have := congrArg (·[0]?) g0
    simpa [List.getElem?_take, List.getElem?_drop] using this
  have r1 : cs[i * 3 + 1]? = some (.bool b) := by
    have := congrArg (·[0]?) g1
    simpa [List.getElem?_take, List.getElem?_drop] using this
  have r2 : cs[i * 3 + 2]? = some (.int .u32 d) := by
    have := congrArg (·[0]?) g2
    simpa [List.getElem?_take, List.getElem?_drop] using this
  have hd : (DataW.agg [.lit (.int .u16 a), .lit (.bool b), .lit (.int .u32 d)] : DataW Unit) = .agg [.lit (.int .u16 (fl i)), .lit (.bool (ch i)), .lit (.int .u32 (be i))] := by
    have h3 := congrArg (fun z : DataW Unit × List MemPlace => match z.1 with | .agg l => l[i]? | _ => none) hx
    simp only [List.getElem?_map, hxi, Option.map_some] at h3
    refine Option.some.inj (h3.symm.trans ?_)
    obtain rfl | rfl | rfl | rfl | rfl | rfl | rfl | rfl : i = 0 ∨ i = 1 ∨ i = 2 ∨ i = 3 ∨ i = 4 ∨ i = 5 ∨ i = 6 ∨ i = 7 := by omega
    all_goals rfl
  simp only [DataW.agg.injEq, List.cons.injEq, DataW.lit.injEq, Lit.int.injEq, Lit.bool.injEq, true_and, and_true] at hd
  obtain ⟨rfl, rfl, rfl⟩ := hd
  refine ⟨(World.var?_cell hg' hvar _).trans r0, (World.var?_cell hg' hvar _).trans r1, (World.var?_cell hg' hvar _).trans r2⟩
end Go.Proofs.YtnnedmkidbokoaaDoor
