/- The state of OctetWrites between its steps. -/
import Derived.Test.YtiajmngjhbckjaaDoorWritten
import Derived.Test.YtiajmngjhbckjaaDoorOwn
namespace Go.Proofs.YtiajmngjhbckjaaDoor
open Go.RowKit
structure WS (w : World) (B o : Nat) (bw ba : List Nat) (v av tv : Value) (vs : List Value) (ls : List (List Nat)) : Prop where
  isw : IsW w B o bw v
  all : w.ownsRow B 5 1 av ba.length (ba.map byt)
  aoff : ∀ g, av.ownBlock = some g → g ∉ FW o v
  told : w.ownsRow B 26 1 tv ls.length vs
  rows : RowsOf w B vs ls fun _ l => l
  apart : ApartOf vs
  big : ∀ l ∈ ls, l.length ≤ 8796093022207
  toff : ∀ g, g ∈ blocksOf vs → g ∉ FW o v ∧ av.ownBlock ≠ some g
section
variable {w w' : World} {B o : Nat} {bw ba : List Nat} {v av tv : Value} {vs : List Value} {ls : List (List Nat)}
theorem row_keep {F : List Nat} {base : Nat} {e : TypeId} {size n : Nat} {u : Value} {xs : List Value} (h : w.ownsRow base e size u n xs) (hk : Keeps F w w') (hd : ∀ g, u.ownBlock = some g → g ∉ F) : w'.ownsRow base e size u n xs := by
  refine ⟨h.1, ?_⟩
  rcases h.2 with h2 | ⟨g, cap, cur, hv, hg, hh, r⟩
  · exact .inl h2
  · exact .inr ⟨g, cap, cur, hv, hg, (hk.block g (lt_of_blk hh) (hd g (by rw [hv]; rfl))).trans hh, r⟩
theorem WS.len (h : WS w B o bw ba v av tv vs ls) : vs.length = ls.length := by have := h.told.1; simpa using this
theorem blocks_lt (h : WS w B o bw ba v av tv vs ls) : ∀ g, g ∈ blocksOf vs → B ≤ g ∧ g < w.heap.size := by
  intro g hg
  obtain ⟨u, hu, hgu⟩ := List.mem_filterMap.1 hg
  obtain ⟨j, hj⟩ := List.getElem?_of_mem hu
  obtain ⟨l, hl⟩ : ∃ l, ls[j]? = some l := ⟨_, List.getElem?_eq_getElem (by have := (List.getElem?_eq_some_iff.1 hj).1; have := h.len; omega)⟩
  exact (h.rows j u l hj hl).lt g hgu
theorem told_off (h : WS w B o bw ba v av tv vs ls) : ∀ g, tv.ownBlock = some g → g ∉ FW o v ∧ av.ownBlock ≠ some g ∧ g ∉ blocksOf vs := by
  intro g hg
  refine ⟨fun hm => ?_, fun e => ?_, fun hm => ?_⟩
  · unfold FW at hm
    rcases List.mem_cons.1 hm with rfl | hm
    · exact own_blk_ne h.told h.isw.blk (by decide) hg
    · have hv : v.ownBlock = some g := by simpa using hm
      rcases own_own_ne h.told h.isw.row (by decide) with e | e
      · rw [e] at hg; cases hg
      · exact e (hg.trans hv.symm)
  · rcases own_own_ne h.told h.all (by decide) with e' | e'
    · rw [e'] at hg; cases hg
    · exact e' (hg.trans e.symm)
  · obtain ⟨u, hu, hgu⟩ := List.mem_filterMap.1 hm
    obtain ⟨j, hj⟩ := List.getElem?_of_mem hu
    obtain ⟨l, hl⟩ : ∃ l, ls[j]? = some l := ⟨_, List.getElem?_eq_getElem (by have := (List.getElem?_eq_some_iff.1 hj).1; have := h.len; omega)⟩
    rcases own_own_ne h.told (h.rows j u l hj hl) (by decide) with e | e
    · rw [e] at hg; cases hg
    · exact e (hg.trans hgu.symm)
theorem rows_keep {F : List Nat} (h : RowsOf w B vs ls fun _ l => l) (hk : Keeps F w w') (hd : ∀ g, g ∈ blocksOf vs → g ∉ F) : RowsOf w' B vs ls fun _ l => l :=
  fun j u l hu hl => row_keep (h j u l hu hl) hk (fun g hg => hd g (mem_blocks hu hg))
/-- The writer wrote. -/
theorem WS.written {bw' : List Nat} (h : WS w B o bw ba v av tv vs ls) (ht : WTo w w' B o v bw') : ∃ v', WS w' B o bw' ba v' av tv vs ls := by
  obtain ⟨v', h1, h2, h3⟩ := ht
  refine ⟨v', h1, row_keep h.all h3 h.aoff, fun g hg hm => ?_, row_keep h.told h3 (fun g hg => (told_off h g hg).1), rows_keep h.rows h3 (fun g hg => (h.toff g hg).1), h.apart, h.big, fun g hg => ⟨fun hm => ?_, (h.toff g hg).2⟩⟩
  · rcases h2 g hm with hx | hx
    · exact h.aoff g hg hx
    · have := (h.all.lt g hg).2; omega
  · rcases h2 g hm with hx | hx
    · exact (h.toff g hg).1 hx
    · have := (blocks_lt h g hg).2; omega
theorem WS.below (h : WS w B o bw ba v av tv vs ls) (hb : Below w.heap.size w w') : WS w' B o bw ba v av tv vs ls := by
  have hk : Keeps [] w w' := ⟨hb.os, hb.tape, hb.output, hb.size, fun k hk _ => hb.block k hk⟩
  exact ⟨h.isw.below hb, row_keep h.all hk (by simp), h.aoff, row_keep h.told hk (by simp), rows_keep h.rows hk (by simp), h.apart, h.big, h.toff⟩
/-- The list of all grew. -/
theorem WS.grown {av2 : Value} {l : List Nat} (h : WS w B o bw ba v av tv vs ls) (hr : w'.ownsRow B 5 1 av2 (ba.length + l.length) (ba.map byt ++ l.map byt)) (hg : w.grownBy w' av.ownBlock) (hat : av2.ownBlock = av.ownBlock ∨ av2.ownBlock = some w.heap.size) :
    WS w' B o bw (ba ++ l) v av2 tv vs ls := by
  have hk : Keeps av.ownBlock.toList w w' := Keeps.of_grown hg (fun g hg => by simp [hg])
  have hm : ∀ g, g ∈ av.ownBlock.toList → av.ownBlock = some g := fun g hg => by simpa using hg
  refine ⟨h.isw.keeps hk (fun x hx hx' => h.aoff x (hm x hx') hx), by rw [List.length_append, List.map_append]; exact hr, fun g hg hx => ?_, row_keep h.told hk (fun g hg hx => (told_off h g hg).2.1 (hm g hx)), rows_keep h.rows hk (fun g hg hx => (h.toff g hg).2 (hm g hx)), h.apart, h.big, fun g hg => ⟨(h.toff g hg).1, fun e => ?_⟩⟩
  · rcases hat with e | e
    · rw [e] at hg; exact h.aoff g hg hx
    · rw [e] at hg
      have := Option.some.inj hg
      have := (h.isw.lt g hx).2
      omega
  · rcases hat with e' | e'
    · rw [e'] at e; exact (h.toff g hg).2 e
    · rw [e'] at e
      have := Option.some.inj e
      have := (blocks_lt h g hg).2
      omega
/-- More lists are told: fresh ones. -/
theorem WS.tells {w2 : World} {tv2 : Value} {ovs : List Value} {nls : List (List Nat)} (h : WS w B o bw ba v av tv vs ls) (h1 : Below w.heap.size w w') (ho : RowsOf w' w.heap.size ovs nls fun _ l => l) (hap : ApartOf ovs) (hol : ovs.length = nls.length) (hlb : ∀ l ∈ nls, l.length ≤ 8796093022207)
    (hr : w2.ownsRow B 26 1 tv2 (ls.length + nls.length) (vs ++ ovs)) (hg : w'.grownBy w2 tv.ownBlock) (hB : B ≤ w.heap.size) :
    WS w2 B o bw ba v av tv2 (vs ++ ovs) (ls ++ nls) := by
  have h' := h.below h1
  have hk : Keeps tv.ownBlock.toList w' w2 := Keeps.of_grown hg (fun g hg => by simp [hg])
  have hm : ∀ g, g ∈ tv.ownBlock.toList → tv.ownBlock = some g := fun g hg => by simpa using hg
  have hoff : ∀ (k : Nat) u g, ovs[k]? = some u → u.ownBlock = some g → w.heap.size ≤ g := fun k u g hu hg => by
    obtain ⟨l, hl⟩ : ∃ l, nls[k]? = some l := ⟨_, List.getElem?_eq_getElem (by have := (List.getElem?_eq_some_iff.1 hu).1; omega)⟩
    exact ((ho k u l hu hl).lt g hg).1
  have htv : ∀ g, tv.ownBlock = some g → g < w.heap.size := fun g hg => (h.told.lt g hg).2
  have hvl := h.len
  refine ⟨h'.isw.keeps hk (fun x hx hx' => (told_off h' x (hm x hx')).1 hx), row_keep h'.all hk (fun g hg hx => (told_off h' g (hm g hx)).2.1 hg), h.aoff, by rw [List.length_append]; exact hr, ?_, ?_, ?_, ?_⟩
  · intro j u l' hu hl'
    by_cases hj : j < vs.length
    · rw [List.getElem?_append_left hj] at hu
      rw [List.getElem?_append_left (by omega)] at hl'
      exact row_keep (h'.rows j u l' hu hl') hk (fun g hg hx => (told_off h' g (hm g hx)).2.2 (mem_blocks hu hg))
    · rw [List.getElem?_append_right (by omega)] at hu hl'
      rw [← hvl] at hl'
      exact row_keep (row_more (ho _ u l' hu hl') hB) hk (fun g hg hx => by have := htv g (hm g hx); have := hoff _ u g hu hg; omega)
  · intro i j u u' hij hu hu'
    by_cases hi : i < vs.length
    · rw [List.getElem?_append_left hi] at hu
      by_cases hj : j < vs.length
      · rw [List.getElem?_append_left hj] at hu'
        exact h.apart i j u u' hij hu hu'
      · rw [List.getElem?_append_right (by omega)] at hu'
        cases e : u.ownBlock with
        | none => exact .inl rfl
        | some g =>
          refine .inr fun e2 => ?_
          have := hoff _ u' g hu' e2.symm
          have := (blocks_lt h g (mem_blocks hu e)).2
          omega
    · rw [List.getElem?_append_right (by omega)] at hu
      by_cases hj : j < vs.length
      · rw [List.getElem?_append_left hj] at hu'
        cases e : u.ownBlock with
        | none => exact .inl rfl
        | some g =>
          refine .inr fun e2 => ?_
          have := hoff _ u g hu e
          have := (blocks_lt h g (mem_blocks hu' e2.symm)).2
          omega
      · rw [List.getElem?_append_right (by omega)] at hu'
        exact hap _ _ u u' (by omega) hu hu'
  · intro l' hl'
    rcases List.mem_append.1 hl' with hl' | hl'
    · exact h.big l' hl'
    · exact hlb l' hl'
  · intro g hg
    unfold blocksOf at hg
    rw [List.filterMap_append, List.mem_append] at hg
    rcases hg with hg | hg
    · exact h.toff g hg
    · obtain ⟨u, hu, hgu⟩ := List.mem_filterMap.1 hg
      obtain ⟨k, hk'⟩ := List.getElem?_of_mem hu
      have hge := hoff k u g hk' hgu
      refine ⟨fun hx => by have := (h.isw.lt g hx).2; omega, fun e => by have := (h.all.lt g e).2; omega⟩
/-- One more list is told: a fresh one. -/
theorem WS.tell {w2 : World} {ov tv2 : Value} {l : List Nat} (h : WS w B o bw ba v av tv vs ls) (h1 : Below w.heap.size w w') (ho : w'.ownsRow w.heap.size 5 1 ov l.length (l.map byt)) (hlb : l.length ≤ 8796093022207)
    (hr : w2.ownsRow B 26 1 tv2 (ls.length + 1) (vs ++ [ov])) (hg : w'.grownBy w2 tv.ownBlock) (hB : B ≤ w.heap.size) :
    WS w2 B o bw ba v av tv2 (vs ++ [ov]) (ls ++ [l]) := by
  refine h.tells h1 (fun j u l' hu hl' => ?_) (fun i j u u' hij hu hu' => ?_) rfl (fun l' hl' => by rw [List.mem_singleton.1 hl']; exact hlb) hr hg hB
  · have hj : j = 0 := by have := (List.getElem?_eq_some_iff.1 hu).1; simp at this; exact this
    subst hj
    obtain rfl : ov = u := by simpa using hu
    obtain rfl : l = l' := by simpa using hl'
    exact ho
  · have hi : i = 0 := by have := (List.getElem?_eq_some_iff.1 hu).1; simp at this; exact this
    have hj : j = 0 := by have := (List.getElem?_eq_some_iff.1 hu').1; simp at this; exact this
    omega
/-- Two more. -/
theorem WS.tell2 {w2 : World} {ov ov' tv2 : Value} {l l' : List Nat} (h : WS w B o bw ba v av tv vs ls) (h1 : Below w.heap.size w w') (ho : w'.ownsRow w.heap.size 5 1 ov l.length (l.map byt)) (ho' : w'.ownsRow w.heap.size 5 1 ov' l'.length (l'.map byt)) (hne : ov.ownBlock ≠ ov'.ownBlock)
    (hlb : l.length ≤ 8796093022207) (hlb' : l'.length ≤ 8796093022207)
    (hr : w2.ownsRow B 26 1 tv2 (ls.length + 2) (vs ++ [ov, ov'])) (hg : w'.grownBy w2 tv.ownBlock) (hB : B ≤ w.heap.size) :
    WS w2 B o bw ba v av tv2 (vs ++ [ov, ov']) (ls ++ [l, l']) := by
  refine h.tells h1 (fun j u q hu hq => ?_) (fun i j u u' hij hu hu' => ?_) rfl (fun q hq => ?_) hr hg hB
  · match j, hu, hq with
    | 0, hu, hq =>
      obtain rfl : ov = u := by simpa using hu
      obtain rfl : l = q := by simpa using hq
      exact ho
    | 1, hu, hq =>
      obtain rfl : ov' = u := by simpa using hu
      obtain rfl : l' = q := by simpa using hq
      exact ho'
    | j + 2, hu, _ => simp at hu
  · match i, j, hij, hu, hu' with
    | 0, 0, hij, _, _ => exact absurd rfl hij
    | 0, 1, _, hu, hu' =>
      obtain rfl : ov = u := by simpa using hu
      obtain rfl : ov' = u' := by simpa using hu'
      exact .inr hne
    | 1, 0, _, hu, hu' =>
      obtain rfl : ov' = u := by simpa using hu
      obtain rfl : ov = u' := by simpa using hu'
      exact .inr hne.symm
    | 1, 1, hij, _, _ => exact absurd rfl hij
    | i + 2, _, _, hu, _ => simp at hu
    | 0, j + 2, _, _, hu' => simp at hu'
    | 1, j + 2, _, _, hu' => simp at hu'
  · simp at hq
    rcases hq with rfl | rfl
    · exact hlb
    · exact hlb'
/-- Behind Own. -/
theorem WS.owned (h : WS w B o bw ba v av tv vs ls) (hk : Keeps (blocksOf vs) w w') : IsW w' B o bw v ∧ w'.ownsRow B 5 1 av ba.length (ba.map byt) :=
  ⟨h.isw.keeps hk (fun x hx hx' => (h.toff x hx').1 hx), row_keep h.all hk (fun g hg hx => (h.toff g hx).2 hg)⟩
end
end Go.Proofs.YtiajmngjhbckjaaDoor
