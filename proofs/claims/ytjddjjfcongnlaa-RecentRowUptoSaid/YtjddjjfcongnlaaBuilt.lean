/- The law's built: an order with these calls made. -/
import Derived.Test.YtjddjjfcongnlaaApart
import Derived.Test.YtjddjjfcongnlaaRowPure
namespace Go.Proofs.Ytjddjjfcongnlaa
open Go.RowKit Go.Maps
/-- The row behind a script. -/
def aRun (l : List (Int × Int)) : List (Int × Nat) := l.foldl aStep []
theorem aRun_snoc (l : List (Int × Int)) (i : Nat) (x : Int × Int) (h : l[i]? = some x) : aRun (l.take (i + 1)) = aStep (aRun (l.take i)) x := by
  unfold aRun
  rw [take_snoc' l i x h, List.foldl_append]; rfl
theorem foldl_ple : ∀ (l : List (Int × Int)) (L : List (Int × Nat)) (m : Nat), PLe L m → PLe (l.foldl aStep L) (m + l.length)
  | [], _, _, h => h
  | x :: l, L, m, h => by
    have := foldl_ple l (aStep L x) (m + 1) h.step
    rw [List.foldl_cons, List.length_cons]
    exact this.more (by omega)
theorem aRun_ple (l : List (Int × Int)) : PLe (aRun l) l.length := (foldl_ple l [] 0 (fun x hx => by cases hx)).more (by omega)
theorem acts_in {w : World} {A : Option Addr} {l : List (Int × Int)} (h : Acts w A l) {i : Nat} (hi : i < l.length) : ∃ ad j q, A = some ad ∧ l[i]? = some (j, q) ∧ ∀ w3, Below w.heap.size w w3 → w3.cell? (ad.add (i * 2)) = some (.int .i64 j) ∧ w3.cell? ⟨(ad.add (i * 2)).block, (ad.add (i * 2)).off + 1, none⟩ = some (.int .i64 q) := by
  have hx : l[i]? = some l[i] := List.getElem?_eq_getElem hi
  obtain ⟨ad, rfl, _, _, _⟩ := h i _ hx
  refine ⟨ad, l[i].1, l[i].2, rfl, hx, fun w3 hb => ?_⟩
  obtain ⟨a', e', _, h2, h3⟩ := (h.below hb) i _ hx
  cases e'
  rw [← Go.Deep.add_add] at h3
  exact ⟨h2, h3⟩
/-- What built answers. -/
def BuiltTo (m : Nat) (l : List (Int × Int)) (w : World) (e : Ending) (w' : World) : Prop :=
  ∃ o n F, e = .returned (.pointer (some ⟨o, 0, none⟩)) ∧ n ≤ m ∧ IsOrderInt w' w.heap.size o n F (aRun l) ∧ Below w.heap.size w w'
set_option maxRecDepth 20000 in
set_option maxHeartbeats 4000000 in
theorem built_any (A : Option Addr) (m c : Nat) (l : List (Int × Int)) (w : World) (hl : l.length = m) (h : Acts w A l) (hok : okActs l) (hm : m ≤ 8796093022207) :
    Calls Try.prog 25 #[.slice A m c] w (BuiltTo m l w) := by
  have hat : ∀ i, i < m → ∃ ad j q, A = some ad ∧ okInt q ∧ l[i]? = some (j, q) ∧ ∀ w3, Below w.heap.size w w3 → w3.cell? (ad.add (i * 2)) = some (.int .i64 j) ∧ w3.cell? ⟨(ad.add (i * 2)).block, (ad.add (i * 2)).off + 1, none⟩ = some (.int .i64 q) := fun i hi => by
    obtain ⟨ad, j, q, e, hm, hr⟩ := acts_in h (i := i) (by omega)
    exact ⟨ad, j, q, e, (hok _ (List.mem_of_getElem? hm)).2, hm, hr⟩
  have HA := Lib.hid hat; have HL := Lib.hid hl
  clear h hok hl hat
  go_enter Try.func25, Try.ntmps25
  go_wp2_with fail
  refine (newInt w).mono ?_
  rintro e w1 ⟨o, F1, rfl, h1, _, hb1⟩
  have hs1 := hb1.size
  have hb2 : Below w.heap.size w (w1.alloc (.cells #[.bool true, .slice none 0 0] 42)) := hb1.alloc hs1 _
  have hBoth : Both (w1.alloc (.cells #[.bool true, .slice none 0 0] 42)) w.heap.size o 0 w1.heap.size [] F1 (.slice none 0 0) := ⟨h1.below ((Below.refl _ _).alloc (Nat.le_refl _) _), doc_new hs1 true⟩
  have HB := Lib.hid hBoth; clear hBoth h1
  have HB2 := Lib.hid hb2; clear hb2 hs1 hb1
  go_wp2
  generalize w1.alloc (.cells #[.bool true, .slice none 0 0] 42) = W at *
  generalize w1.heap.size = d at *
  go_loopw [5] (fun iv wr => ∃ (i n : Nat) (F : List Nat) (v : Value), i ≤ m ∧ iv = .int .i64 i ∧ Hid (Both wr w.heap.size o n d (aRun (l.take i)) F v) ∧ n ≤ i ∧ Below w.heap.size w wr) (fun iv _ => m - (intOf iv).toNat)
  case atStart => exact ⟨0, 0, F1, _, by omega, rfl, HB, by omega, HB2.out⟩
  case round =>
    clear HB HB2
    obtain ⟨i, n, F, v, hi, rfl, hb, hn, hbw⟩ := hrel
    have hs := hbw.size
    by_cases hlt : i < m
    · obtain ⟨ad, j, q, rfl, hq, hx, hr⟩ := HA.out i hlt
      obtain ⟨c0, c1⟩ := hr wr hbw
      have hk1 : (i : Int) < (m : Int) := by omega
      have hk0 : (0 : Int) ≤ (i : Int) := by omega
      have hp := play_any (w := wr) (k := q) hb.out hs j hq (by omega)
      rw [← aRun_snoc l i (j, q) hx] at hp
      have HX := Lib.hid hx
      clear hr hx hq
      go_wp2_with fail
      refine hp.mono ?_
      rintro e w3 ⟨rfl, hpost⟩
      have hb3 : Below w.heap.size w w3 := hbw.trans (PlayPost.below hb.out hs hpost)
      obtain ⟨F3, v3, hB3, _⟩ := hpost
      have HB3 := Lib.hid hB3
      clear hp hB3
      go_wp2_with fail
      refine ⟨⟨i + 1, n + 1, _, _, by omega, by go_num, HB3, by omega, hb3⟩, by simp [intOf]; omega⟩
    · obtain rfl : i = m := by omega
      have hni : ¬ ((i : Int) < (i : Int)) := by omega
      have hfin : IsOrderInt wr w.heap.size o n F (aRun l) := by
        have := hb.out.1
        rwa [List.take_of_length_le (by have := HL.out; omega)] at this
      have HF := Lib.hid hfin
      clear hfin hb
      go_wp2
      go_ret
      exact ⟨o, n, F, rfl, hn, HF.out, hbw⟩
end Go.Proofs.Ytjddjjfcongnlaa
