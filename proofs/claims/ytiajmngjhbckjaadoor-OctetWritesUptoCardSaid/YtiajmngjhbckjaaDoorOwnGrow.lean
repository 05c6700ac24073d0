/- The contract of Own: the lists grown; of no program. -/
import Derived.Test.YtiajmngjhbckjaaDoorOwnPure
import Derived.Test.YtiajmngjhbckjaaDoorOwnKit
namespace Go.Proofs.YtiajmngjhbckjaaDoor
open Go.RowKit
/-- Two values share no block. -/
def Sep (v v' : Value) : Prop := ∀ g, v.ownBlock = some g → v'.ownBlock ≠ some g
theorem ApartOf.sep {vs : List Value} (h : ApartOf vs) {i j : Nat} {v v' : Value} (hij : i ≠ j) (hv : vs[i]? = some v) (hv' : vs[j]? = some v') : Sep v v' := by
  intro g hg
  rcases h i j v v' hij hv hv' with h0 | h0
  · rw [h0] at hg; cases hg
  · exact fun e => h0 (hg.trans e.symm)
theorem Sep.step {v gc gc' : Value} {n : Nat} (h : Sep v gc) (hlt : ∀ g, v.ownBlock = some g → g < n) (hat : gc'.ownBlock = gc.ownBlock ∨ gc'.ownBlock = some n) : Sep v gc' := by
  intro g hg e
  rcases hat with h0 | h0
  · exact h g hg (h0 ▸ e)
  · rw [h0] at e
    have := hlt g hg
    injection e with e
    omega
theorem own_sep {w : World} {base : Nat} {e e' : TypeId} {size size' n n' : Nat} {v v' : Value} {xs xs' : List Value} (h : w.ownsRow base e size v n xs) (h' : w.ownsRow base e' size' v' n' xs') (hne : e ≠ e') : Sep v v' := by
  intro g hg
  rcases own_own_ne h h' hne with h0 | h0
  · rw [h0] at hg; cases hg
  · exact fun e => h0 (hg.trans e.symm)
theorem own_or {v v' : Value} (h : Sep v v') : v.ownBlock = none ∨ v.ownBlock ≠ v'.ownBlock := by
  cases hv : v.ownBlock with
  | none => exact .inl rfl
  | some g => exact .inr fun e => h g hv e.symm
structure Ph2 (w : World) (B m : Nat) (vs : List Value) (ls : List (List Nat)) (hv gv : Value) (j : Nat) (gs : List Value) : Prop where
  hd : w.ownsRow B 26 1 hv m vs
  rows : RowsOf w B vs ls fun i l => mks i l.length
  row : w.ownsRow B 26 1 gv j gs
  grown : ∀ (i : Nat) (v : Value) (l : List Nat), gs[i]? = some v → ls[i]? = some l → w.ownsRow B 5 1 v (l.length + 70) ((mks i l.length ++ tls i 70).map byt)
  sep : Sep hv gv
  apart : ∀ (i j' : Nat) (v v' : Value), gs[i]? = some v → j ≤ j' → vs[j']? = some v' → Sep v v'
structure In2 (w : World) (B m : Nat) (vs : List Value) (ls : List (List Nat)) (hv gv : Value) (j : Nat) (gs : List Value) (gc : Value) (k : Nat) : Prop where
  ph : Ph2 w B m vs ls hv gv j gs
  cur : ∀ l, ls[j]? = some l → w.ownsRow B 5 1 gc (l.length + k) ((mks j l.length ++ tls j k).map byt)
  sv : ∀ (i : Nat) (v : Value), i ≠ j → vs[i]? = some v → Sep v gc
  sg : ∀ (i : Nat) (v : Value), gs[i]? = some v → Sep v gc
section
variable {w : World} {B m j : Nat} {vs gs : List Value} {ls : List (List Nat)} {hv gv gc : Value} {k : Nat}
theorem Ph2.alloc (h : Ph2 w B m vs ls hv gv j gs) (o : Obj) : Ph2 (w.alloc o) B m vs ls hv gv j gs :=
  ⟨h.hd.alloc o, fun i v l h1 h2 => (h.rows i v l h1 h2).alloc o, h.row.alloc o, fun i v l h1 h2 => (h.grown i v l h1 h2).alloc o, h.sep, h.apart⟩
theorem In2.alloc (h : In2 w B m vs ls hv gv j gs gc k) (o : Obj) : In2 (w.alloc o) B m vs ls hv gv j gs gc k :=
  ⟨h.ph.alloc o, fun l hl => (h.cur l hl).alloc o, h.sv, h.sg⟩
theorem Ph2.start (hap : ApartOf vs) (h : Ph2 w B m vs ls hv gv j gs) (hg : vs[j]? = some gc) : In2 w B m vs ls hv gv j gs gc 0 :=
  ⟨h, fun l hl => by simpa [tls] using h.rows j gc l hg hl, fun i v hi hvi => hap.sep hi hvi hg, fun i v hi => h.apart i j v gc hi (Nat.le_refl _) hg⟩
theorem In2.step {w' : World} {gc' : Value} {l : List Nat} (hl : ls[j]? = some l) (hm : vs.length = ls.length) (h : In2 w B m vs ls hv gv j gs gc k)
    (h2 : w'.ownsRow B 5 1 gc' (l.length + k + 1) ((mks j l.length ++ tls j k).map byt ++ [byt (tlv j k)])) (h3 : w.grownBy w' gc.ownBlock) (hat : gc'.ownBlock = gc.ownBlock ∨ gc'.ownBlock = some w.heap.size)
    (hk : ∀ base0 v0 n0 xs0, w.ownsRow base0 5 1 v0 n0 xs0 → (v0.ownBlock = gc.ownBlock → n0 ≤ l.length + k) → w'.ownsRow base0 5 1 v0 n0 xs0) :
    In2 w' B m vs ls hv gv j gs gc' (k + 1) := by
  have hc := h.cur l hl
  refine ⟨⟨h.ph.hd.kept h3 (own_own_ne h.ph.hd hc (by decide)), ?_, h.ph.row.kept h3 (own_own_ne h.ph.row hc (by decide)), ?_, h.ph.sep, h.ph.apart⟩, ?_, ?_, ?_⟩
  · intro i v li hvi hli
    by_cases hi : i = j
    · subst hi
      rw [hl] at hli
      obtain rfl := Option.some.inj hli
      exact hk _ _ _ _ (h.ph.rows i v l hvi hl) (fun _ => by omega)
    · exact (h.ph.rows i v li hvi hli).kept h3 (own_or (h.sv i v hi hvi))
  · intro i v li hvi hli
    exact (h.ph.grown i v li hvi hli).kept h3 (own_or (h.sg i v hvi))
  · intro l' hl'
    rw [hl] at hl'
    obtain rfl := Option.some.inj hl'
    rw [show (mks j l.length ++ tls j (k + 1)).map byt = (mks j l.length ++ tls j k).map byt ++ [byt (tlv j k)] by simp [tls, List.range_succ]]
    exact h2
  · intro i v hi hvi
    have hilt : i < ls.length := by
      have := (List.getElem?_eq_some_iff.1 hvi).1
      omega
    exact (h.sv i v hi hvi).step (fun g hg => ((h.ph.rows i v _ hvi (List.getElem?_eq_getElem hilt)).lt g hg).2) hat
  · intro i v hvi
    have hilt : i < ls.length := by
      have h1 := (List.getElem?_eq_some_iff.1 hvi).1
      have h4 : gs.length = j := by have := h.ph.row.1; simpa using this
      have h5 := (List.getElem?_eq_some_iff.1 hl).1
      omega
    exact (h.sg i v hvi).step (fun g hg => ((h.ph.grown i v _ hvi (List.getElem?_eq_getElem hilt)).lt g hg).2) hat
theorem In2.done {w' : World} {gv' : Value} {l : List Nat} (hl : ls[j]? = some l) (h : In2 w B m vs ls hv gv j gs gc 70)
    (h2 : w'.ownsRow B 26 1 gv' (j + 1) (gs ++ [gc])) (h3 : w.grownBy w' gv.ownBlock) (hat : gv'.ownBlock = gv.ownBlock ∨ gv'.ownBlock = some w.heap.size) :
    Ph2 w' B m vs ls hv gv' (j + 1) (gs ++ [gc]) := by
  have hgl : gs.length = j := by have := h.ph.row.1; simpa using this
  refine ⟨h.ph.hd.kept h3 (own_or h.ph.sep), fun i v li hvi hli => (h.ph.rows i v li hvi hli).kept h3 (own_own_ne (h.ph.rows i v li hvi hli) h.ph.row (by decide)), h2, ?_, h.ph.sep.step (fun g hg => (h.ph.hd.lt g hg).2) hat, ?_⟩
  · intro i v li hvi hli
    have hold : w.ownsRow B 5 1 v (li.length + 70) ((mks i li.length ++ tls i 70).map byt) := by
      by_cases hi : i < j
      · rw [List.getElem?_append_left (by omega)] at hvi
        exact h.ph.grown i v li hvi hli
      · have hlt := (List.getElem?_eq_some_iff.1 hvi).1
        have hij : i = j := by simp at hlt; omega
        subst hij
        rw [← hgl, List.getElem?_concat_length] at hvi
        obtain rfl := Option.some.inj hvi
        exact h.cur li hli
    exact hold.kept h3 (own_own_ne hold h.ph.row (by decide))
  · intro i j' v v' hvi hj' hv'
    by_cases hi : i < j
    · rw [List.getElem?_append_left (by omega)] at hvi
      exact h.ph.apart i j' v v' hvi (by omega) hv'
    · have hlt := (List.getElem?_eq_some_iff.1 hvi).1
      have hij : i = j := by simp at hlt; omega
      subst hij
      rw [← hgl, List.getElem?_concat_length] at hvi
      obtain rfl := Option.some.inj hvi
      intro g hg e
      exact h.sv j' v' (by omega) hv' g e hg
end
end Go.Proofs.YtiajmngjhbckjaaDoor
