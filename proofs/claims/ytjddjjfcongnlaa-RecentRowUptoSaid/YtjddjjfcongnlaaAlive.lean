/- The law's alive: what must come, whatever else is so. -/
import Derived.Test.YtjddjjfcongnlaaOrdHStr
namespace Go.Proofs.Ytjddjjfcongnlaa
open Go.RowKit Go.Maps
def kA : ByteArray := ⟨#[97]⟩
def kB : ByteArray := ⟨#[98]⟩
theorem ok_a : okStr kA := by unfold okStr kA maxLen; decide
theorem ok_b : okStr kB := by unfold okStr kB maxLen; decide
theorem al1 : aHas ([] : List (ByteArray × Nat)) kA = false := rfl
theorem al2 : aAdd ([] : List (ByteArray × Nat)) kA = [(kA, 0)] := rfl
theorem al3 : aHas [(kA, 0)] kB = false := by decide
theorem al4 : aAdd [(kA, 0)] kB = [(kA, 0), (kB, 0)] := by decide
theorem al5 : aHas [(kA, 0), (kB, 0)] kA = true := by decide
theorem al6 : aTouch [(kA, 0), (kB, 0)] kA = [(kB, 0), (kA, 0)] := by decide
theorem al7 : aPinOk [(kB, 0), (kA, 0)] kB = true := by decide
theorem al8 : aPin [(kB, 0), (kA, 0)] kB = [(kB, 1), (kA, 0)] := by decide
theorem al9 : (aKeysStr true [(kB, 1), (kA, 0)]).head? = some kA := by decide
theorem al10 : aPins [(kB, 1), (kA, 0)] kB = 1 := by decide
theorem al11 : aHas [(kB, 1), (kA, 0)] kA = true := by decide
set_option maxRecDepth 100000 in
set_option maxHeartbeats 2000000 in
theorem alive_any (w : World) : Calls Try.prog 18 #[] w fun e w' => e = .returned (.bool true) ∧ Below w.heap.size w w' := by
  go_enter Try.func18, Try.ntmps18
  go_wp2_with fail
  refine (newStr w).mono ?_
  rintro e w1 ⟨o, F1, rfl, h1, _, hb1⟩
  have hs1 := hb1.size
  go_wp2_with fail
  refine (addStr h1 ok_a (by omega) hs1).mono ?_
  rintro e w2 ⟨rfl, ⟨F2, h2, hF2, hl2⟩, hk2⟩
  rw [al2] at h2
  have hb2 : Below w.heap.size w w2 := hb1.trans (hk2.below (fun x hx => (h1.lt x hx).1) hs1)
  have hs2 := hb2.size
  clear h1 hF2 hl2 hk2 hb1
  rw [al1]
  go_wp2_with fail
  refine (addStr h2 ok_b (by omega) hs2).mono ?_
  rintro e w3 ⟨rfl, ⟨F3, h3, hF3, hl3⟩, hk3⟩
  rw [al4] at h3
  have hb3 : Below w.heap.size w w3 := hb2.trans (hk3.below (fun x hx => (h2.lt x hx).1) hs2)
  have hs3 := hb3.size
  clear h2 hF3 hl3 hk3 hb2
  rw [al3]
  go_wp2_with fail
  refine (touchStr h3 ok_a).mono ?_
  rintro e w4 ⟨rfl, ⟨F4, h4, hF4⟩, hk4⟩
  rw [al6] at h4
  have hb4 : Below w.heap.size w w4 := hb3.trans (hk4.below (fun x hx => (h3.lt x hx).1) hs3)
  have hs4 := hb4.size
  clear h3 hF4 hk4 hb3
  rw [al5]
  go_wp2_with fail
  refine (pinStr h4 ok_b).mono ?_
  rintro e w5 ⟨rfl, h5, hk5⟩
  rw [al8] at h5
  have hb5 : Below w.heap.size w w5 := hb4.trans (hk5.below (fun x hx => (h4.lt x hx).1) hs4)
  have hs5 := hb5.size
  clear h4 hk5 hb4
  rw [al7]
  go_wp2_with fail
  refine (oldestStr h5 (by omega)).mono ?_
  rintro e w6 ⟨rfl, hb6⟩
  have h6 := h5.below hb6
  have hb6' : Below w.heap.size w w6 := hb5.trans (hb6.mono hs5)
  have hs6 := hb6'.size
  clear h5 hb5 hb6
  rw [al9, show oldVStr (some kA) = .tuple #[.string ⟨#[97]⟩, .bool true] from rfl]
  go_wp2_with fail
  refine (lenRStr h6).mono ?_
  rintro e w7 ⟨rfl, rfl⟩
  rw [show (([(kB, 1), (kA, 0)] : List (ByteArray × Nat)).length : Int) = 2 from rfl]
  go_wp2_with fail
  refine (pinsRStr h6 ok_b).mono ?_
  rintro e w8 ⟨rfl, rfl⟩
  rw [al10, show ((1 : Nat) : Int) = 1 from rfl]
  go_wp2_with fail
  refine (addStr h6 ok_a (by omega) hs6).mono ?_
  rintro e w9 ⟨rfl, _, hk9⟩
  have hb9 : Below w.heap.size w w9 := hb6'.trans (hk9.below (fun x hx => (h6.lt x hx).1) hs6)
  rw [al11]
  go_wp2_with fail
  go_ret
  exact ⟨rfl, hb9⟩
end Go.Proofs.Ytjddjjfcongnlaa
