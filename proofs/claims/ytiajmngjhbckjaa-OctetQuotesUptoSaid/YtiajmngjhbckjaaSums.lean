/- The walk of OctetSums. -/
import Derived.Test.YtiajmngjhbckjaaLend
import Derived.Test.YtiajmngjhbckjaaBurst
namespace Go.Proofs.Ytiajmngjhbckjaa
open Go.RowKit
theorem info23 : (Try.prog.info? 23).map (fun i => (i.zero, i.size, i.bytes)) = some (some (.slice none 0 0), 1, 24) := by kernel_rfl
/-- The slices that were lent. -/
def lentVals (gs : List Nat) (ls : List (List Nat)) : List Value := List.zipWith (fun g l => Value.slice (some ⟨g, 0, none⟩) l.length (l.length + 70)) gs ls
theorem lentVals_snoc : ∀ (gs : List Nat) (ls : List (List Nat)) (g : Nat) (l : List Nat), ls[gs.length]? = some l → lentVals (gs ++ [g]) ls = lentVals gs ls ++ [Value.slice (some ⟨g, 0, none⟩) l.length (l.length + 70)]
  | [], l' :: ls, g, l, h => by
    obtain rfl : l' = l := by simpa using h
    simp [lentVals]
  | x :: gs, l' :: ls, g, l, h => by
    have := lentVals_snoc gs ls g l (by simpa using h)
    simp only [lentVals] at this
    simp [lentVals, this]
  | [], [], g, l, h => by simp at h
  | _ :: _, [], g, l, h => by simp at h
/-- Where all bytes and what was lent lie, behind j rounds. -/
structure SumsAt (w wr : World) (ls : List (List Nat)) (j : Nat) (gs : List Nat) (v u : Value) : Prop where
  bel : Below w.heap.size w wr
  all : wr.ownsRow w.heap.size 5 1 v (ls.take j).flatten.length ((ls.take j).flatten.map byt)
  len : gs.length = j
  row : wr.ownsRow w.heap.size 23 1 u j (lentVals gs ls)
  each : ∀ (i g : Nat), gs[i]? = some g → w.heap.size ≤ g ∧ v.ownBlock ≠ some g ∧ ∃ l : List Nat, ls[i]? = some l ∧ Blk wr g 5 (lent l 70)
theorem own_own_ne {w : World} {base : Nat} {e e' : TypeId} {size size' n n' : Nat} {v v' : Value} {xs xs' : List Value} (h : w.ownsRow base e size v n xs) (h' : w.ownsRow base e' size' v' n' xs') (hne : e ≠ e') : v.ownBlock = none ∨ v.ownBlock ≠ v'.ownBlock := by
  rcases h'.2 with ⟨rfl, _⟩ | ⟨g', cap', cur', rfl, _, hh', _⟩
  · by_cases hv : v.ownBlock = none
    · exact .inl hv
    · exact .inr (by simpa [Value.ownBlock] using hv)
  · exact .inr (own_blk_ne h hh' hne)
theorem own_below {w w' : World} {base : Nat} {e : TypeId} {size n : Nat} {v : Value} {xs : List Value} (h : w.ownsRow base e size v n xs) (hb : Below w.heap.size w w') : w'.ownsRow base e size v n xs :=
  h.kept (only_of_below hb none) (by by_cases hv : v.ownBlock = none <;> simp [hv])
theorem SumsAt.step {w wr w1 w2 w4 : World} {ls : List (List Nat)} {j : Nat} {gs : List Nat} {v u v' u' : Value} {l : List Nat} (h : SumsAt w wr ls j gs v u) (hl : ls[j]? = some l)
    (hown : w1.ownsRow w.heap.size 5 1 v' ((ls.take j).flatten.length + l.length) ((ls.take j).flatten.map byt ++ l.map byt)) (hg : wr.grownBy w1 v.ownBlock) (hat : v'.ownBlock = v.ownBlock ∨ v'.ownBlock = some wr.heap.size)
    (hblk : Blk w2 w1.heap.size 5 (lent l 70)) (hb2 : Below w1.heap.size w1 w2)
    (hu : w4.ownsRow w.heap.size 23 1 u' (j + 1) (lentVals gs ls ++ [.slice (some ⟨w1.heap.size, 0, none⟩) l.length (l.length + 70)]))
    (hg4 : (w2.alloc (.cells #[.slice (some ⟨w1.heap.size, 0, none⟩) l.length (l.length + 70)] 23)).grownBy w4 u.ownBlock) :
    SumsAt w w4 ls (j + 1) (gs ++ [w1.heap.size]) v' u' := by
  have hb1 : Below w.heap.size w w1 := h.bel.grown hg h.bel.size fun k hk => (h.all.lt k hk).1
  have hbs1 := hb1.size
  have hbs2 := hb2.size
  have hbsr := h.bel.size
  have hgs := hg.size
  have hb2' : Below w.heap.size w w2 := hb1.trans (hb2.mono hbs1)
  have row1 : w1.ownsRow w.heap.size 23 1 u j (lentVals gs ls) := h.row.kept hg (own_own_ne h.row h.all (by decide))
  have row2 := own_below row1 hb2
  have row3 := row2.alloc (.cells #[.slice (some ⟨w1.heap.size, 0, none⟩) l.length (l.length + 70)] 23)
  have all2 := own_below hown hb2
  have all3 := all2.alloc (.cells #[.slice (some ⟨w1.heap.size, 0, none⟩) l.length (l.length + 70)] 23)
  have hflat : (ls.take (j + 1)).flatten = (ls.take j).flatten ++ l := by rw [take_snoc' ls j l hl]; simp
  refine ⟨?_, ?_, by simp [h.len], ?_, ?_⟩
  · exact (hb2'.alloc (by omega) _).grown hg4 (by simp; omega) fun k hk => (h.row.lt k hk).1
  · rw [hflat, List.length_append, List.map_append]
    exact all3.kept hg4 (own_own_ne all3 row3 (by decide))
  · rw [lentVals_snoc gs ls _ l (by rw [h.len]; exact hl)]
    exact hu
  · intro i g hi
    rw [List.getElem?_append] at hi
    split at hi
    · obtain ⟨a, b, l', hl', hk⟩ := h.each i g hi
      have hlt := hk.lt
      have k1 := hk.grown hg (fun e => b e.symm)
      have k2 := k1.below hb2 k1.lt
      have k3 := k2.alloc (.cells #[.slice (some ⟨w1.heap.size, 0, none⟩) l.length (l.length + 70)] 23)
      refine ⟨a, ?_, l', hl', k3.grown hg4 (fun e => own_blk_ne row3 k3 (by decide) e.symm)⟩
      rcases hat with e | e
      · rw [e]; exact b
      · rw [e]; intro e2; injection e2 with e2; omega
    · rename_i hge
      have hi0 : i = gs.length := by
        have := (List.getElem?_eq_some_iff.1 hi).1
        simp at this; omega
      subst hi0
      obtain rfl : w1.heap.size = g := by simpa using hi
      refine ⟨hbs1, fun e => by have := (hown.lt _ e).2; omega, l, by rw [h.len]; exact hl, ?_⟩
      have k3 := hblk.alloc (.cells #[.slice (some ⟨w1.heap.size, 0, none⟩) l.length (l.length + 70)] 23)
      exact k3.grown hg4 (fun e => own_blk_ne row3 k3 (by decide) e.symm)
end Go.Proofs.Ytiajmngjhbckjaa
