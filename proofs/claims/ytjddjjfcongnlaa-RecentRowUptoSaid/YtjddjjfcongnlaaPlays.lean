/- The law RecentPlays: the walk. -/
import Derived.Test.YtjddjjfcongnlaaStep
import Derived.Test.YtjddjjfcongnlaaActs
import Derived.Test.YtjddjjfcongnlaaAlive
namespace Go.Proofs.Ytjddjjfcongnlaa
open Go.RowKit Go.Maps
theorem doc_new {w : World} {B : Nat} (hB : B ≤ w.heap.size) (made : Bool) : IsDoc (w.alloc (.cells #[.bool made, .slice none 0 0] 42)) B w.heap.size made [] (.slice none 0 0) :=
  ⟨Blk.new w 42 _, ⟨rfl, .inl ⟨rfl, rfl⟩⟩, hB⟩
def okActs (l : List (Int × Int)) : Prop := ∀ x ∈ l, okInt x.1 ∧ okInt x.2
set_option maxRecDepth 20000 in
set_option maxHeartbeats 4000000 in
theorem playsLaw_any (A : Option Addr) (m c : Nat) (l : List (Int × Int)) (k : Int) (w : World) (hl : l.length = m) (h : Acts w A l) (hok : okActs l) (hk : okInt k) (hm : m ≤ 8796093022207) :
    Calls Try.prog 7 #[.slice A m c, .int .i64 k] w fun e w' => e = .returned (.bool true) ∧ Below w.heap.size w w' := by
  have HH := Lib.hid h; have HOK := Lib.hid hok; have HK := Lib.hid hk; have HL := Lib.hid hl; have HM := Lib.hid hm
  clear h hok hk hl
  go_enter Try.func7, Try.ntmps7
  go_wp2_with fail
  refine (newInt w).mono ?_
  rintro e w1 ⟨o, F1, rfl, h1, _, hb1⟩
  have hs1 := hb1.size
  have hb2 : Below w.heap.size w (w1.alloc (.cells #[.bool true, .slice none 0 0] 42)) := hb1.alloc hs1 _
  have hBoth : Both (w1.alloc (.cells #[.bool true, .slice none 0 0] 42)) w.heap.size o 0 w1.heap.size [] F1 (.slice none 0 0) := ⟨h1.below ((Below.refl _ _).alloc (Nat.le_refl _) _), doc_new hs1 true⟩
  have HB := Lib.hid hBoth; clear hBoth h1
  have HB2 := Lib.hid hb2; clear hb2 hs1 hb1
  go_wp2
  generalize w1.alloc (.cells #[.bool true, .slice none 0 0] 42) = W at *
  generalize w1.heap.size = d at *
  go_loopw [7] (fun iv wr => ∃ (i n : Nat) (L : List (Int × Nat)) (F : List Nat) (v : Value), i ≤ m ∧ iv = .int .i64 i ∧ Hid (Both wr w.heap.size o n d L F v) ∧ n ≤ i ∧ Below w.heap.size w wr) (fun iv _ => m - (intOf iv).toNat)
  case atStart => exact ⟨0, 0, [], F1, _, by omega, rfl, HB, by omega, HB2.out⟩
  case round =>
    clear HB HB2
    obtain ⟨i, n, L, F, v, hi, rfl, hb, hn, hbw⟩ := hrel
    have hs := hbw.size
    by_cases hlt : i < m
    · have hx : ∃ x, l[i]? = some x := ⟨_, List.getElem?_eq_getElem (show i < l.length by have := HL.out; omega)⟩
      obtain ⟨⟨j, q⟩, hx⟩ := hx
      have hokq : okInt q := (HOK.out _ (List.mem_of_getElem? hx)).2
      obtain ⟨ad, rfl, had, c0, c1⟩ := (HH.out.below hbw) i _ hx
      have hadw : ad.block < w.heap.size := by
        obtain ⟨a', e', h', _⟩ := HH.out i _ hx
        cases e'; exact h'
      have hk1 : (i : Int) < (m : Int) := by omega
      have hk0 : (0 : Int) ≤ (i : Int) := by omega
      have hp := play_any (w := wr.drew) (k := q) (hb.out.below (Below.refl _ _).drew) hs j hokq (by omega)
      have HP := Lib.hid hp; have HOQ := Lib.hid hokq
      have hS : ∀ w3, Below w.heap.size w w3 → w3.cell? (ad.add (i * 2)) = some (.int .i64 j) ∧ w3.cell? (ad.add (i * 2 + 1)) = some (.int .i64 q) := fun w3 hb3 => by
        obtain ⟨a', e', _, h2, h3⟩ := (HH.out.below hb3) i _ hx
        cases e'; exact ⟨h2, h3⟩
      have HS := Lib.hid hS
      have c1' : wr.cell? ⟨(ad.add (i * 2)).block, (ad.add (i * 2)).off + 1, none⟩ = some (.int .i64 q) := by
        rw [← Go.Deep.add_add] at c1; exact c1
      have hp' := play_any (w := wr) (k := q) hb.out hs j hokq (by omega)
      clear hp hS hx c1 HP
      go_wp2_with fail
      refine hp'.mono ?_
      rintro e w3 ⟨rfl, hpost⟩
      have hb3 : Below w.heap.size w w3 := hbw.trans (PlayPost.below hb.out hs hpost)
      obtain ⟨F3, v3, hB3, _⟩ := hpost
      have hs3 := hb3.size
      obtain ⟨_, z1⟩ := HS.out w3 hb3
      have z1' : w3.cell? ⟨(ad.add (i * 2)).block, (ad.add (i * 2)).off + 1, none⟩ = some (.int .i64 q) := by
        rw [← Go.Deep.add_add] at z1; exact z1
      have ht := told_both hB3 (by omega) HOQ.out
      have HB3 := Lib.hid hB3
      clear hp' hB3 c0 c1' hokq
      go_wp2_with fail
      refine ht.mono ?_
      rintro e w4 ⟨rfl, hb4⟩
      have hb4' : Below w.heap.size w w4 := hb3.trans (hb4.mono hs3)
      have hB4 := HB3.out.below hb4
      have ht2 := told_both hB4 (by omega) HK.out
      have HB4 := Lib.hid hB4
      have hs4 := hb4'.size
      clear ht hB4 z1 z1'
      go_wp2_with fail
      refine ht2.mono ?_
      rintro e w5 ⟨rfl, hb5⟩
      have hb5' : Below w.heap.size w w5 := hb4'.trans (hb5.mono hs4)
      have HB5 := Lib.hid (HB4.out.below hb5)
      clear ht2
      go_wp2_with fail
      refine ⟨⟨i + 1, n + 1, _, _, _, by omega, by go_num, HB5, by omega, hb5'⟩, by simp [intOf]; omega⟩
    · obtain rfl : i = m := by omega
      have hni : ¬ ((i : Int) < (i : Int)) := by omega
      have ht := told_both hb.out (by omega) HK.out
      go_wp2_with fail
      refine ht.mono ?_
      rintro e w3 ⟨rfl, hb3⟩
      have hb3' : Below w.heap.size w w3 := hbw.trans (hb3.mono hs)
      have hs3 := hb3'.size
      have hal := alive_any w3
      clear ht
      go_wp2_with fail
      refine hal.mono ?_
      rintro e w4 ⟨rfl, hb4⟩
      go_wp2_with fail
      go_ret
      exact ⟨rfl, hb3'.trans (hb4.mono hs3)⟩
end Go.Proofs.Ytjddjjfcongnlaa
