/- The law's told: the order tells just what the document's holds. -/
import Derived.Test.YtjddjjfcongnlaaPlay
import Derived.Test.YtjddjjfcongnlaaOrdKInt
import Derived.Test.YtjddjjfcongnlaaSame
import Derived.Deep.RegionHeld3
namespace Go.Proofs.Ytjddjjfcongnlaa
open Go.RowKit Go.Maps
/-- What an order tells of a row, in every world that keeps it. -/
def TellsO (w0 : World) (a : Option Addr) (L : List (Int × Nat)) (k : Int) : Prop := ∀ w, Below w0.heap.size w0 w →
  Calls Try.prog 17 #[.pointer a] w (fun e w' => e = .returned (oldVInt (aKeysInt true L).head?) ∧ Below w.heap.size w w') ∧
  Calls Try.prog 15 #[.pointer a, .int .i64 k] w (fun e w' => e = .returned (.int .i64 (aPins L k : Nat)) ∧ w = w') ∧
  Calls Try.prog 48 #[.pointer a, .int .i64 k] w (fun e w' => e = .returned (.bool (aHas L k)) ∧ w = w') ∧
  Calls Try.prog 20 #[.pointer a] w (fun e w' => e = .returned (.int .i64 (L.length : Nat)) ∧ w = w') ∧
  Calls Try.prog 23 #[.pointer a] w (fun e w' => ∃ v, e = .returned v ∧ w'.ownsRow w.heap.size 3 1 v (aKeysInt false L).length ((aKeysInt false L).map ekInt) ∧ Below w.heap.size w w') ∧
  Calls Try.prog 49 #[.pointer a] w (fun e w' => ∃ v, e = .returned v ∧ w'.ownsRow w.heap.size 3 1 v (aKeysInt true L).length ((aKeysInt true L).map ekInt) ∧ Below w.heap.size w w')
/-- What the document's order tells. -/
def TellsD (w0 : World) (d : Nat) (L : List (Int × Nat)) (k : Int) : Prop := ∀ w, Below w0.heap.size w0 w →
  Calls Try.prog 61 #[.pointer (some ⟨d, 0, none⟩)] w (fun e w' => e = .returned (oldVInt (aKeysInt true L).head?) ∧ Below w.heap.size w w') ∧
  Calls Try.prog 62 #[.pointer (some ⟨d, 0, none⟩), .int .i64 k] w (fun e w' => e = .returned (.int .i64 (aPins L k : Nat)) ∧ w = w') ∧
  Calls Try.prog 45 #[.pointer (some ⟨d, 0, none⟩), .int .i64 k] w (fun e w' => e = .returned (.bool (aHas L k)) ∧ w = w') ∧
  (∃ A c, w.cell? ⟨d, 1, none⟩ = some (.slice A L.length c)) ∧
  Calls Try.prog 27 #[.pointer (some ⟨d, 0, none⟩)] w (fun e w' => ∃ v, e = .returned v ∧ w'.ownsRow w.heap.size 3 1 v (aKeysInt false L).length ((aKeysInt false L).map ekInt) ∧ Below w.heap.size w w') ∧
  Calls Try.prog 28 #[.pointer (some ⟨d, 0, none⟩)] w (fun e w' => ∃ v, e = .returned v ∧ w'.ownsRow w.heap.size 3 1 v (aKeysInt true L).length ((aKeysInt true L).map ekInt) ∧ Below w.heap.size w w')
theorem oldV_parts (x : Option Int) : ∃ q b, oldVInt x = .tuple #[.int .i64 q, .bool b] := by
  cases x with
  | none => exact ⟨_, _, rfl⟩
  | some k => exact ⟨_, _, rfl⟩
/-- The two rows of one list are alike. -/
theorem same_rows {w1 w2 w3 w4 : World} {v1 v2 : Value} {l : List Int} (h1 : w2.ownsRow w1.heap.size 3 1 v1 l.length (l.map ekInt)) (h2 : w4.ownsRow w3.heap.size 3 1 v2 l.length (l.map ekInt)) (hb : Below w2.heap.size w2 w4) (hl : l.length ≤ 9223372036854775807) :
    Calls Try.prog 22 #[v1, v2] w4 fun e w' => e = .returned (.bool true) ∧ Below w4.heap.size w4 w' := by
  obtain ⟨A1, c1, rfl⟩ := own_sliceInt h1
  obtain ⟨A2, c2, rfl⟩ := own_sliceInt h2
  have hsm := same_any A1 A2 l.length l.length c1 c2 l l _ _ w4 ((Reads.of_own h1).below hb) (Reads.of_own h2) hl hl
  rw [decide_eq_true (Eq.refl l)] at hsm
  refine hsm.mono ?_
  rintro e w5 ⟨rfl, q, rfl⟩
  exact ⟨rfl, belowN (Below.refl _ _) q⟩
set_option maxRecDepth 20000 in
set_option maxHeartbeats 4000000 in
theorem told_any {w : World} {a : Option Addr} {d : Nat} {L : List (Int × Nat)} {k : Int} (hO : TellsO w a L k) (hD : TellsD w d L k) (hl : L.length ≤ 9223372036854775807) :
    Calls Try.prog 31 #[.pointer a, .pointer (some ⟨d, 0, none⟩), .int .i64 k] w fun e w' => e = .returned (.bool true) ∧ Below w.heap.size w w' := by
  have hl1 : (aKeysInt false L).length ≤ 9223372036854775807 := Nat.le_trans (keys_le _ _) hl
  have hl2 : (aKeysInt true L).length ≤ 9223372036854775807 := Nat.le_trans (keys_le _ _) hl
  obtain ⟨q, b, hq⟩ := oldV_parts (aKeysInt true L).head?
  have h17 := (hO w (Below.refl _ _)).1
  rw [hq] at h17
  have h61 : ∀ w1, Below w.heap.size w w1 → Calls Try.prog 61 #[.pointer (some ⟨d, 0, none⟩)] w1 (fun e w' => e = .returned (.tuple #[.int .i64 q, .bool b]) ∧ Below w1.heap.size w1 w') := fun w1 hb => by
    have := (hD w1 hb).1
    rwa [hq] at this
  have h15 := fun w1 hb => (hO w1 hb).2.1
  have h48 := fun w1 hb => (hO w1 hb).2.2.1
  have h20 := fun w1 hb => (hO w1 hb).2.2.2.1
  have h23 := fun w1 hb => (hO w1 hb).2.2.2.2.1
  have h49 := fun w1 hb => (hO w1 hb).2.2.2.2.2
  have h62 := fun w1 hb => (hD w1 hb).2.1
  have h45 := fun w1 hb => (hD w1 hb).2.2.1
  have hc := fun w1 hb => (hD w1 hb).2.2.2.1
  have h27 := fun w1 hb => (hD w1 hb).2.2.2.2.1
  have h28 := fun w1 hb => (hD w1 hb).2.2.2.2.2
  have hbe : (b == b) = true := by simp
  have hbh : (aHas L k == aHas L k) = true := by simp
  have H61 := Lib.hid h61; have H15 := Lib.hid h15; have H48 := Lib.hid h48; have H20 := Lib.hid h20; have H23 := Lib.hid h23; have H49 := Lib.hid h49
  have H62 := Lib.hid h62; have H45 := Lib.hid h45; have HC := Lib.hid hc; have H27 := Lib.hid h27; have H28 := Lib.hid h28; have HL1 := Lib.hid hl1; have HL2 := Lib.hid hl2
  clear hO hD hl hl1 hl2 hq h61 h15 h48 h20 h23 h49 h62 h45 hc h27 h28
  generalize aHas L k = hs at *
  generalize aPins L k = ps at *
  generalize aKeysInt false L = l1 at *
  generalize aKeysInt true L = l2 at *
  generalize L.length = n at *
  go_enter Try.func31, Try.ntmps31
  go_wp2_with fail
  refine h17.mono ?_
  rintro e w1 ⟨rfl, hb1⟩
  go_wp2_with fail
  refine (H61.out w1 hb1).mono ?_
  rintro e w2 ⟨rfl, hb2⟩
  have hb2' : Below w.heap.size w w2 := hb1.trans (hb2.mono hb1.size)
  clear hb1 hb2
  obtain ⟨A, c, hcell⟩ := HC.out w2 hb2'
  have hB : Below w.heap.size w w2.drew := hb2'.drew
  have HB := Lib.hid hB; clear hB hb2'
  have hk : ∀ w3, Below w2.drew.heap.size w2.drew w3 → w3.cell? ⟨d, 1, none⟩ = some (.slice A n c) := fun w3 hb => (hb.cell (p := ⟨d, 1, none⟩) (lt_cellInt (w := w2) hcell)).trans hcell
  have hT : ∀ w3, Below w2.drew.heap.size w2.drew w3 → Below w.heap.size w w3 := fun w3 hb => HB.out.trans (hb.mono HB.out.size)
  have HK := Lib.hid hk; have HT := Lib.hid hT; clear hk hT
  go_wp2_with fail
  go_region_held3 (fun w' => w'.cell? ⟨d, 1, none⟩ = some (.slice A n c)) (first | exact hcell | exact s3 | exact s4 | exact s5 | exact s6 | exact s7 | exact s8 | go_keep)
    (first
      | (go_at_call 15; (with_reducible refine (H15.out w2.drew HB.out).mono ?_)
         rintro e w3 ⟨rfl, rfl⟩)
      | (go_at_call 62; (with_reducible refine (H62.out w2.drew HB.out).mono ?_)
         rintro e w3 ⟨rfl, rfl⟩)
      | (go_at_call 48; (with_reducible refine (H48.out w2.drew HB.out).mono ?_)
         rintro e w3 ⟨rfl, rfl⟩)
      | (go_at_call 45; (with_reducible refine (H45.out w2.drew HB.out).mono ?_)
         rintro e w3 ⟨rfl, rfl⟩)
      | (go_at_call 20; (with_reducible refine (H20.out w2.drew HB.out).mono ?_)
         rintro e w3 ⟨rfl, rfl⟩)
      | (go_at_call 23; (with_reducible refine (H23.out w2.drew HB.out).mono ?_)
         rintro e w3 ⟨v3, rfl, ho3, hb3⟩
         have s3 := HK.out w3 hb3)
      | (go_at_call 27; (with_reducible refine (H27.out w3 (HT.out w3 hb3)).mono ?_)
         rintro e w4 ⟨v4, rfl, ho4, hb4⟩
         have hb4' : Below w2.drew.heap.size w2.drew w4 := hb3.trans (hb4.mono hb3.size)
         have s4 := HK.out w4 hb4'
         have hsm4 := same_rows ho3 ho4 hb4 HL1.out)
      | (go_at_call 22; (with_reducible refine hsm4.mono ?_)
         rintro e w5 ⟨rfl, hb5⟩
         have hb5' : Below w2.drew.heap.size w2.drew w5 := hb4'.trans (hb5.mono hb4'.size)
         have s5 := HK.out w5 hb5'
         clear hsm4)
      | (go_at_call 49; (with_reducible refine (H49.out w5 (HT.out w5 hb5')).mono ?_)
         rintro e w6 ⟨v6, rfl, ho6, hb6⟩
         have hb6' : Below w2.drew.heap.size w2.drew w6 := hb5'.trans (hb6.mono hb5'.size)
         have s6 := HK.out w6 hb6')
      | (go_at_call 28; (with_reducible refine (H28.out w6 (HT.out w6 hb6')).mono ?_)
         rintro e w7 ⟨v7, rfl, ho7, hb7⟩
         have hb7' : Below w2.drew.heap.size w2.drew w7 := hb6'.trans (hb7.mono hb6'.size)
         have s7 := HK.out w7 hb7'
         have hsm7 := same_rows ho6 ho7 hb7 HL2.out)
      | (go_at_call 22; (with_reducible refine hsm7.mono ?_)
         rintro e w8 ⟨rfl, hb8⟩
         have hb8' : Below w2.drew.heap.size w2.drew w8 := hb7'.trans (hb8.mono hb7'.size)
         have s8 := HK.out w8 hb8'))
  all_goals
    go_wp2
    go_ret
    exact ⟨rfl, HT.out _ hb8'⟩
end Go.Proofs.Ytjddjjfcongnlaa
