/- The contract of Own: what of it is of no program. -/
import Derived.Test.YtiajmngjhbckjaaDoorLend
import Derived.Test.YtiajmngjhbckjaaDoorKeep
import Derived.Deep.QuietTactic
namespace Go.Proofs.YtiajmngjhbckjaaDoor
open Go.RowKit
def mkv (i k : Nat) : Nat := (7 * i + 3 * k + 1) % 256
def tlv (i k : Nat) : Nat := (200 + i + k) % 256
def mks (i n : Nat) : List Nat := (List.range n).map (mkv i)
def tls (i n : Nat) : List Nat := (List.range n).map (tlv i)
def cont (i k j : Nat) (l : List Nat) : List Nat := if j < i then mks j l.length else if j = i then mks i k ++ l.drop k else l
theorem mks_length (i n : Nat) : (mks i n).length = n := by simp [mks]
theorem tls_length (i n : Nat) : (tls i n).length = n := by simp [tls]
theorem cont_start (j : Nat) (l : List Nat) : cont 0 0 j l = l := by simp [cont, mks]
theorem cont_length (i k j : Nat) (l : List Nat) (hk : k ≤ l.length) : (cont i k j l).length = l.length := by
  unfold cont
  split
  · exact mks_length _ _
  · split
    · simp [mks_length]; omega
    · rfl
theorem cont_next (i j : Nat) (l li : List Nat) (h : j = i → li = l) : cont i li.length j l = cont (i + 1) 0 j l := by
  unfold cont
  by_cases h1 : j < i
  · rw [if_pos h1, if_pos (by omega)]
  · by_cases h2 : j = i
    · obtain rfl := h h2
      subst h2
      rw [if_neg h1, if_pos rfl, if_pos (by omega)]
      simp
    · rw [if_neg h1, if_neg h2, if_neg (by omega)]
      split
      · subst_vars; simp [mks]
      · rfl
theorem cont_set (i k : Nat) (l : List Nat) (hk : k < l.length) : (cont i k i l).set k (mkv i k) = cont i (k + 1) i l := by
  unfold cont
  rw [if_neg (by omega), if_pos rfl, if_neg (by omega), if_pos rfl]
  rw [List.set_append_right _ _ (by simp [mks_length]), mks_length, Nat.sub_self, List.drop_eq_getElem_cons hk, List.set_cons_zero]
  simp only [mks, List.range_succ, List.map_append, List.map_cons, List.map_nil, List.append_assoc, List.singleton_append]
theorem cont_other (i k k' j : Nat) (l : List Nat) (h : j ≠ i) : cont i k j l = cont i k' j l := by
  simp [cont, h]
/-- The lists' rows: list j holds 'f j'. -/
def RowsOf (w : World) (B : Nat) (vs : List Value) (ls : List (List Nat)) (f : Nat → List Nat → List Nat) : Prop :=
  ∀ j v l, vs[j]? = some v → ls[j]? = some l → w.ownsRow B 5 1 v l.length ((f j l).map byt)
/-- No two of them share a block. -/
def ApartOf (vs : List Value) : Prop := ∀ (i j : Nat) (v v' : Value), i ≠ j → vs[i]? = some v → vs[j]? = some v' → v.ownBlock = none ∨ v.ownBlock ≠ v'.ownBlock
theorem RowsOf.start {w : World} {B : Nat} {vs : List Value} {ls : List (List Nat)} (h : RowsOf w B vs ls fun _ l => l) : RowsOf w B vs ls (cont 0 0) := by
  intro j v l hv hl
  rw [cont_start]
  exact h j v l hv hl
theorem RowsOf.next {w : World} {B i : Nat} {vs : List Value} {ls : List (List Nat)} {li : List Nat} (hi : ls[i]? = some li) (h : RowsOf w B vs ls (cont i li.length)) : RowsOf w B vs ls (cont (i + 1) 0) := by
  intro j v l hv hl
  rw [← cont_next i j l li (fun e => by subst e; rw [hi] at hl; exact Option.some.inj hl)]
  exact h j v l hv hl
theorem RowsOf.set {w : World} {B i k g : Nat} {vs : List Value} {ls : List (List Nat)} {vi : Value} {li : List Nat} (ha : ApartOf vs) (hvi : vs[i]? = some vi) (hi : ls[i]? = some li) (hg : vi.ownBlock = some g) (hk : k < li.length)
    (h : RowsOf w B vs ls (cont i k)) : RowsOf (w.setCell ((⟨g, 0, none⟩ : Addr).add k) (byt (mkv i k))) B vs ls (cont i (k + 1)) := by
  intro j v l hv hl
  by_cases e : j = i
  · subst e
    rw [hvi] at hv; rw [hi] at hl
    obtain rfl := Option.some.inj hv
    obtain rfl := Option.some.inj hl
    have := own_set (h j _ _ hvi hi) (k := k) hg (byt (mkv j k))
    rw [← cont_set j k _ hk, List.map_set]
    exact this
  · rw [cont_other i (k + 1) k j l e]
    refine ownsRow_setCell_other (h j v l hv hl) ?_ _
    rw [block_of_add]
    intro e2
    rcases ha j i v vi e hv hvi with h0 | h0
    · rw [h0] at e2; cases e2
    · exact h0 (e2.trans hg.symm)
theorem own_form {w : World} {base size n : Nat} {e : TypeId} {v : Value} {xs : List Value} (h : w.ownsRow base e size v n xs) (hn : 0 < n) : ∃ g cap, v = .slice (some ⟨g, 0, none⟩) n cap := by
  rcases h.2 with ⟨_, rfl⟩ | ⟨g, cap, cur, rfl, _⟩
  · omega
  · exact ⟨g, cap, rfl⟩
theorem own_free {w : World} {base : Nat} {e : TypeId} {n : Nat} {v : Value} {xs : List Value} (h : w.ownsRow base e 1 v n xs) {g k : Nat} (hg : v.ownBlock = some g) : w.frozen? ((⟨g, 0, none⟩ : Addr).add k) = false := by
  rcases h.2 with ⟨rfl, _⟩ | ⟨g0, cap, cur, rfl, hbg, hh, hnc, hcm, hcs, htake⟩
  · cases hg
  obtain rfl : g0 = g := by simpa [Value.ownBlock] using hg
  simp [World.frozen?, Addr.add_lit, hh]
end Go.Proofs.YtiajmngjhbckjaaDoor
