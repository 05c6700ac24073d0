/- The document's order: Pin, Unpin. -/
import Derived.Test.YtjddjjfcongnlaaDocB
namespace Go.Proofs.Ytjddjjfcongnlaa
open Go.RowKit Go.Maps
theorem itc_set : ∀ (L : List (Int × Nat)) (i : Nat) (k : Int) (p q : Nat), L[i]? = some (k, p) → (itc L).set (i * 2 + 1) (.int .i64 (q : Nat)) = itc (L.set i (k, q))
  | [], i, k, p, q, h => by simp at h
  | y :: L, 0, k, p, q, h => by
    obtain rfl : y = (k, p) := by simpa using h
    rfl
  | y :: L, i + 1, k, p, q, h => by
    have := itc_set L i k p q (by simpa using h)
    rw [show (i + 1) * 2 + 1 = i * 2 + 1 + 1 + 1 by omega, List.set_cons_succ]
    show (Value.int .i64 y.1 :: .int .i64 (y.2 : Nat) :: itc L).set (i * 2 + 1 + 1 + 1) _ = .int .i64 y.1 :: .int .i64 (y.2 : Nat) :: itc (L.set i (k, q))
    rw [List.set_cons_succ, List.set_cons_succ, this]
theorem own_set_any {w : World} {base : Nat} {e : TypeId} {size n : Nat} {v : Value} {xs : List Value} (h : w.ownsRow base e size v n xs) {g k : Nat} (hg : v.ownBlock = some g) (u : Value) :
    (w.setCell ⟨g, k, none⟩ u).ownsRow base e size v n (xs.set k u) := by
  rcases h.2 with ⟨rfl, _⟩ | ⟨g0, cap, cur, rfl, hbg, hh, hnc, hcm, hcs, htake⟩
  · cases hg
  obtain rfl : g0 = g := by simpa [Value.ownBlock] using hg
  have hlt := lt_of_block hh
  have h' : w.heap[g0] = .cells cur e (0, 0) := by simpa [Array.getElem?_eq_getElem hlt] using hh
  refine ⟨by simpa using h.1, .inr ⟨g0, cap, cur.setIfInBounds k u, rfl, hbg, ?_, hnc, hcm, by simpa using hcs, ?_⟩⟩
  · show (w.heap.modify g0 _)[g0]? = _
    rw [Array.getElem?_eq_getElem (by simpa using hlt), Array.getElem_modify_self, h']
    rfl
  · rw [← htake]
    simp [Array.toList_setIfInBounds, List.take_set]
section
variable {w : World} {B d : Nat} {made : Bool} {L : List (Int × Nat)} {v : Value}
theorem IsDoc.as {w' : World} (h : IsDoc w B d made L v) (hh : w'.heap = w.heap) : IsDoc w' B d made L v := by
  refine ⟨by have := h.blk; unfold Blk at *; rw [hh]; exact this, ⟨h.row.1, ?_⟩, h.base⟩
  rcases h.row.2 with h2 | ⟨g, cap, cur, hv, hg, hb, r⟩
  · exact .inl h2
  · exact .inr ⟨g, cap, cur, hv, hg, by rw [hh]; exact hb, r⟩
theorem IsDoc.setPin {A : Option Addr} {n c g i : Nat} {k : Int} {p : Nat} (h : IsDoc w B d made L (.slice A n c)) (hA : A = some ⟨g, 0, none⟩) (hx : L[i]? = some (k, p)) (q : Nat) :
    IsDoc (w.setCell ⟨g, i * 2 + 1, none⟩ (.int .i64 (q : Nat))) B d made (L.set i (k, q)) (.slice A n c) := by
  have hob : (Value.slice A n c).ownBlock = some g := by rw [hA]; rfl
  have hne : g ≠ d := by
    rintro rfl
    exact own_blk_ne h.row h.blk (by decide) hob
  refine ⟨h.blk.far (p := ⟨g, i * 2 + 1, none⟩) (fun e => hne e.symm) _, ?_, h.base⟩
  rw [← itc_set L i k p q hx, List.length_set]
  exact own_set_any h.row hob _
theorem mem_fd {g : Nat} (h : v.ownBlock = some g) : g ∈ FD d v := by unfold FD; rw [h]; simp
set_option maxRecDepth 20000 in
set_option maxHeartbeats 2000000 in
theorem dpin_any (h : IsDoc w B d made L v) (hn : KOk L) (k : Int) (hl : L.length ≤ 4611686018427387904) :
    Calls Try.prog 41 #[.pointer (some ⟨d, 0, none⟩), .int .i64 k] w fun e w' => e = .returned (.bool (aPinOk L k)) ∧ IsDoc w' B d made (aPin L k) v ∧ Keeps (FD d v) w w' := by
  have hd := dat_any h k hl
  obtain ⟨A, c, rfl⟩ := h.form
  have c1 := h.blk.cell 1
  simp only [List.getElem?_toArray, List.getElem?_cons_zero, List.getElem?_cons_succ] at c1
  rcases dcase hn k with ⟨h2, h1, _⟩ | ⟨i, p, hi, hx, h1, h2, h3, _, _, h6⟩
  · have e1 : aPinOk L k = false := by unfold aPinOk; rw [h2]; rfl
    have e2 : aPin L k = L := by unfold aPin; rw [e1]; rfl
    rw [e1, e2]
    rw [h1] at hd
    have HH := Lib.hid h
    clear h hn h1 h2 hl e1 e2
    go_enter Try.func41, Try.ntmps41
    go_wp2_with (go_at_call 64; refine hd.mono ?_; rintro e w1 ⟨rfl, rfl⟩)
    go_ret
    exact ⟨rfl, HH.out, Keeps.refl _ _⟩
  · rw [h1] at hd
    obtain ⟨g, x, hA, hx', _, _, _, hp, hfz⟩ := h.at_ hi
    rw [hx] at hx'
    obtain rfl := Option.some.inj hx'
    have hi0 : (0 : Int) ≤ (i : Int) := by omega
    have hi1 : (i : Int) < (L.length : Int) := by omega
    have hob : (Value.slice A L.length c).ownBlock = some g := by rw [hA]; rfl
    by_cases hlt : p < 2147483647
    · have e1 : aPinOk L k = true := by unfold aPinOk; rw [h2, h3]; simpa using hlt
      have e2 : aPin L k = L.set i (k, p + 1) := by unfold aPin; rw [e1, h3, h6]; rfl
      have T := h.setPin hA hx (p + 1)
      have K := (Keeps.refl (FD d (.slice A L.length c)) w).setCell (p := ⟨g, i * 2 + 1, none⟩) (.inl (mem_fd hob)) (.int .i64 ((p + 1 : Nat) : Int))
      rw [e1, e2]
      have hz : (p : Int) < 2147483647 := by omega
      have hz0 : (0 : Int) ≤ (p : Int) := by omega
      rw [show ((p + 1 : Nat) : Int) = (p : Int) + 1 from by omega] at T K
      have HT := Lib.hid T; have HK := Lib.hid K
      subst hA
      clear h hn h1 h2 hl e1 e2 T K hlt hx hx' h3 h6
      generalize ((p : Nat) : Int) = z at *
      go_enter Try.func41, Try.ntmps41
      go_wp2_with (go_at_call 64; refine hd.mono ?_; rintro e w1 ⟨rfl, rfl⟩)
      go_region
      all_goals (try go_wp2)
      all_goals go_ret
      all_goals exact ⟨rfl, HT.out.as rfl, HK.out.as rfl rfl rfl rfl⟩
    · have e1 : aPinOk L k = false := by unfold aPinOk; rw [h2, h3]; simpa using hlt
      have e2 : aPin L k = L := by unfold aPin; rw [e1]; rfl
      rw [e1, e2]
      have hz : (2147483647 : Int) ≤ (p : Int) := by omega
      have HH := Lib.hid h
      subst hA
      clear h hn h1 h2 hl e1 e2 hlt hx hx' h3 h6
      generalize ((p : Nat) : Int) = z at *
      go_enter Try.func41, Try.ntmps41
      go_wp2_with (go_at_call 64; refine hd.mono ?_; rintro e w1 ⟨rfl, rfl⟩)
      go_ret
      exact ⟨rfl, HH.out, Keeps.refl _ _⟩
set_option maxRecDepth 20000 in
set_option maxHeartbeats 2000000 in
theorem dunpin_any (h : IsDoc w B d made L v) (hn : KOk L) (k : Int) (hl : L.length ≤ 4611686018427387904) (hpb : ∀ x ∈ L, x.2 ≤ 2147483647) :
    Calls Try.prog 43 #[.pointer (some ⟨d, 0, none⟩), .int .i64 k] w fun e w' => e = .returned (.bool (aUnpinOk L k)) ∧ IsDoc w' B d made (aUnpin L k) v ∧ Keeps (FD d v) w w' := by
  have hd := dat_any h k hl
  obtain ⟨A, c, rfl⟩ := h.form
  have c1 := h.blk.cell 1
  simp only [List.getElem?_toArray, List.getElem?_cons_zero, List.getElem?_cons_succ] at c1
  rcases dcase hn k with ⟨h2, h1, _⟩ | ⟨i, p, hi, hx, h1, h2, h3, _, _, h6⟩
  · have e1 : aUnpinOk L k = false := by unfold aUnpinOk; rw [h2]; rfl
    have e2 : aUnpin L k = L := by unfold aUnpin; rw [e1]; rfl
    rw [e1, e2]
    rw [h1] at hd
    have HH := Lib.hid h
    clear h hn h1 h2 hl hpb e1 e2
    go_enter Try.func43, Try.ntmps43
    go_wp2_with (go_at_call 64; refine hd.mono ?_; rintro e w1 ⟨rfl, rfl⟩)
    go_ret
    exact ⟨rfl, HH.out, Keeps.refl _ _⟩
  · rw [h1] at hd
    obtain ⟨g, x, hA, hx', _, _, _, hp, hfz⟩ := h.at_ hi
    rw [hx] at hx'
    obtain rfl := Option.some.inj hx'
    have hpl := hpb _ (List.mem_of_getElem? hx)
    have hi0 : (0 : Int) ≤ (i : Int) := by omega
    have hi1 : (i : Int) < (L.length : Int) := by omega
    have hob : (Value.slice A L.length c).ownBlock = some g := by rw [hA]; rfl
    by_cases hlt : 0 < p
    · have e1 : aUnpinOk L k = true := by unfold aUnpinOk; rw [h2, h3]; simpa using hlt
      have e2 : aUnpin L k = L.set i (k, p - 1) := by unfold aUnpin; rw [e1, h3, h6]; rfl
      have T := h.setPin hA hx (p - 1)
      have K := (Keeps.refl (FD d (.slice A L.length c)) w).setCell (p := ⟨g, i * 2 + 1, none⟩) (.inl (mem_fd hob)) (.int .i64 ((p - 1 : Nat) : Int))
      rw [e1, e2]
      have hz : ((p : Int) == 0) = false := by simp; omega
      have hz0 : (1 : Int) ≤ (p : Int) := by omega
      have hz2 : (p : Int) ≤ 2147483647 := by omega
      rw [show ((p - 1 : Nat) : Int) = (p : Int) - 1 from by omega] at T K
      have HT := Lib.hid T; have HK := Lib.hid K
      subst hA
      clear h hn h1 h2 hl hpb hpl e1 e2 T K hlt hx hx' h3 h6
      generalize ((p : Nat) : Int) = z at *
      go_enter Try.func43, Try.ntmps43
      go_wp2_with (go_at_call 64; refine hd.mono ?_; rintro e w1 ⟨rfl, rfl⟩)
      go_region
      all_goals (try go_wp2)
      all_goals go_ret
      all_goals exact ⟨rfl, HT.out.as rfl, HK.out.as rfl rfl rfl rfl⟩
    · have e1 : aUnpinOk L k = false := by unfold aUnpinOk; rw [h2, h3]; simpa using hlt
      have e2 : aUnpin L k = L := by unfold aUnpin; rw [e1]; rfl
      rw [e1, e2]
      have hz : p = 0 := by omega
      subst hz
      have HH := Lib.hid h
      subst hA
      clear h hn h1 h2 hl hpb e1 e2 hlt hx hx' h3 h6
      go_enter Try.func43, Try.ntmps43
      go_wp2_with (go_at_call 64; refine hd.mono ?_; rintro e w1 ⟨rfl, rfl⟩)
      go_ret
      exact ⟨rfl, HH.out, Keeps.refl _ _⟩
end
end Go.Proofs.Ytjddjjfcongnlaa
