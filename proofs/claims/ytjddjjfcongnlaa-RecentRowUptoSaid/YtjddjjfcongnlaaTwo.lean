/- Two orders and two documents beside one another. -/
import Derived.Test.YtjddjjfcongnlaaStep
namespace Go.Proofs.Ytjddjjfcongnlaa
open Go.RowKit Go.Maps
theorem fd_of {w : World} {B o n d : Nat} {L : List (Int × Nat)} {F : List Nat} {v : Value} (h : Both w B o n d L F v) : ∀ x ∈ F ++ FD d v, B ≤ x ∧ x < w.heap.size := by
  intro x hx
  rcases List.mem_append.1 hx with hx | hx
  · exact h.1.lt x hx
  · obtain ⟨_, _, _, hb⟩ := h.2.kind x hx
    refine ⟨?_, hb.lt⟩
    unfold FD at hx
    rcases List.mem_cons.1 hx with rfl | hx
    · exact h.2.base
    · exact (h.2.row.lt x (by simpa using hx)).1
theorem Both.keeps {w w' : World} {B o n d : Nat} {L : List (Int × Nat)} {F G : List Nat} {v : Value} (h : Both w B o n d L F v) (hk : Keeps G w w') (hd : ∀ x ∈ F ++ FD d v, x ∉ G) : Both w' B o n d L F v :=
  ⟨h.1.keeps hk (fun x hx => hd x (List.mem_append_left _ hx)), h.2.keeps hk (fun x hx => hd x (List.mem_append_right _ hx))⟩
/-- Two of them, each its own. -/
def Two (w : World) (B o d o' d' N N' : Nat) : Prop := ∃ n L F v n' L' F' v', n ≤ N ∧ n' ≤ N' ∧ Both w B o n d L F v ∧ Both w B o' n' d' L' F' v' ∧ ∀ x ∈ F ++ FD d v, x ∉ F' ++ FD d' v'
section
variable {w : World} {B o d o' d' N N' : Nat}
theorem Two.symm (h : Two w B o d o' d' N N') : Two w B o' d' o d N' N := by
  obtain ⟨n, L, F, v, n', L', F', v', h1, h2, h3, h4, h5⟩ := h
  exact ⟨n', L', F', v', n, L, F, v, h2, h1, h4, h3, fun x hx hx' => h5 x hx' hx⟩
theorem Two.below {w' : World} (h : Two w B o d o' d' N N') (hb : Below w.heap.size w w') : Two w' B o d o' d' N N' := by
  obtain ⟨n, L, F, v, n', L', F', v', h1, h2, h3, h4, h5⟩ := h
  exact ⟨n, L, F, v, n', L', F', v', h1, h2, h3.below hb, h4.below hb, h5⟩
theorem two_play (h : Two w B o d o' d' N N') (hB : B ≤ w.heap.size) (j : Int) {k : Int} (hk : okInt k) (hN : N ≤ 8796093022207) :
    Calls Try.prog 26 #[.pointer (some ⟨o, 0, none⟩), .pointer (some ⟨d, 0, none⟩), .agg #[.int .i64 j, .int .i64 k]] w fun e w' => e = .returned (.bool true) ∧ Two w' B o d o' d' (N + 1) N' ∧ Below B w w' := by
  obtain ⟨n, L, F, v, n', L', F', v', h1, h2, h3, h4, h5⟩ := h
  refine (play_any h3 hB j hk (by omega)).mono ?_
  rintro e w' ⟨rfl, hp⟩
  refine ⟨rfl, ?_, PlayPost.below h3 hB hp⟩
  obtain ⟨F1, v1, hb1, hk1, hf1⟩ := hp
  refine ⟨_, _, F1, v1, n', L', F', v', by omega, by omega, hb1, h4.keeps hk1 (fun x hx hx' => h5 x hx' hx), fun x hx hx' => ?_⟩
  rcases hf1 x hx with h | h
  · exact h5 x h hx'
  · have := (fd_of h4 x hx').2
    omega
theorem two_told (h : Two w B o d o' d' N N') {k : Int} (hk : okInt k) (hN : N ≤ 8796093022207) :
    Calls Try.prog 31 #[.pointer (some ⟨o, 0, none⟩), .pointer (some ⟨d, 0, none⟩), .int .i64 k] w fun e w' => e = .returned (.bool true) ∧ Below w.heap.size w w' := by
  obtain ⟨n, L, F, v, n', L', F', v', h1, h2, h3, h4, h5⟩ := h
  exact told_both h3 (by omega) hk
end
end Go.Proofs.Ytjddjjfcongnlaa
