/- An order of keys (Int): Has, Unpin and Drop. -/
import Derived.Test.YtjddjjfcongnlaaOrdHInt
namespace Go.Proofs.Ytjddjjfcongnlaa
open Go.RowKit Go.Maps
theorem hasInt {w : World} {B o n : Nat} {F : List Nat} {L : List (Int × Nat)} (h : IsOrderInt w B o n F L) {k : Int} (hk : okInt k) :
    Calls Try.prog 48 #[.pointer (some ⟨o, 0, none⟩), ekInt k] w fun e w' => e = .returned (.bool (aHas L k)) ∧ w = w' := by
  obtain ⟨mb, N, D, st, ps, hN, h, rfl, rfl⟩ := h
  have hf := findInt h hk
  rw [has_row]
  clear hN h
  generalize ekInt k = key at *
  cases hp : placeOf st ps k with
  | none =>
    rw [hp] at hf
    simp only [pv] at hf
    go_enter Try.func48, Try.ntmps48
    go_wp2_with (go_at_call 51; refine hf.mono ?_; rintro e w1 ⟨rfl, rfl⟩)
    go_ret
    exact ⟨rfl, rfl⟩
  | some p =>
    rw [hp] at hf
    simp only [pv] at hf
    go_enter Try.func48, Try.ntmps48
    go_wp2_with (go_at_call 51; refine hf.mono ?_; rintro e w1 ⟨rfl, rfl⟩)
    go_ret
    exact ⟨rfl, rfl⟩
set_option maxRecDepth 10000 in
theorem unpinInt {w : World} {B o n : Nat} {F : List Nat} {L : List (Int × Nat)} (h : IsOrderInt w B o n F L) {k : Int} (hk : okInt k) :
    Calls Try.prog 16 #[.pointer (some ⟨o, 0, none⟩), ekInt k] w fun e w' => e = .returned (.bool (aUnpinOk L k)) ∧ IsOrderInt w' B o n F (aUnpin L k) ∧ Keeps F w w' := by
  obtain ⟨mb, N, D, st, ps, hN, h, rfl, rfl⟩ := h
  have hf := findInt h hk
  cases hp : placeOf st ps k with
  | none =>
    have e1 : aUnpinOk (rowOf st ps) k = false := by unfold aUnpinOk; rw [has_row, hp]; rfl
    have e2 : aUnpin (rowOf st ps) k = rowOf st ps := by unfold aUnpin; rw [e1]; rfl
    rw [e1, e2]
    have HH := Lib.hid h
    rw [hp] at hf
    clear h e1 e2
    generalize ekInt k = key at *
    simp only [pv] at hf
    go_enter Try.func16, Try.ntmps16
    go_wp2_with (go_at_call 51; refine hf.mono ?_; rintro e w1 ⟨rfl, rfl⟩)
    go_ret
    exact ⟨rfl, ⟨mb, N, D, st, ps, hN, HH.out, rfl, rfl⟩, Keeps.refl _ _⟩
  | some p =>
    have hb := h.place hp
    have pc := Blk.cell hb 3
    have pf := Blk.frozen hb 3
    simp only [List.getElem?_toArray, List.getElem?_cons_zero, List.getElem?_cons_succ] at pc
    have hps := (placeOf_some hp).1
    have epins : aPins (rowOf st ps) k = st.pins p := by rw [pins_row, hp]
    by_cases hlt : 0 < st.pins p
    · have e1 : aUnpinOk (rowOf st ps) k = true := by unfold aUnpinOk; rw [has_row, hp, epins]; simpa using hlt
      have e2 : aUnpin (rowOf st ps) k = rowOf { st with pins := upd st.pins p (st.pins p - 1) } ps := by unfold aUnpin; rw [e1, epins, set_row h.keys hp]; rfl
      have K := (Keeps.refl (o :: mb :: ps) w).setCell (p := ⟨p, 3, none⟩) (.inl (by simp [hps])) (.int .i64 ((st.pins p - 1 : Nat) : Int))
      have K2 := (Keeps.refl ps w).setCell (p := ⟨p, 3, none⟩) (.inl (by simp [hps])) (.int .i64 ((st.pins p - 1 : Nat) : Int))
      have hple := h.pin p hps
      have T : OrdInt (w.setCell ⟨p, 3, none⟩ (.int .i64 ((st.pins p - 1 : Nat) : Int))) B o mb N D { st with pins := upd st.pins p (st.pins p - 1) } ps :=
        h.turn (h.rep.setPins hps _) ⟨h.chain.first, h.chain.last, h.chain.nodup, h.chain.at_⟩ K2 h.mbo.2 (fun _ => Iff.rfl) rfl rfl fun q hq => by
          show upd st.pins p (st.pins p - 1) q ≤ _
          by_cases e : q = p
          · subst e; rw [upd_same]; omega
          · rw [upd_other _ _ e]; exact h.pin q hq
      rw [e1, e2]
      have HT := Lib.hid T; have HK := Lib.hid K
      rw [hp] at hf
      have hz0 : ((st.pins p : Int) == 0) = false := by simp; omega
      have hz1 : (1 : Int) ≤ (st.pins p : Int) := by omega
      have hz2 : (st.pins p : Int) ≤ 2147483647 := by omega
      rw [show ((st.pins p - 1 : Nat) : Int) = (st.pins p : Int) - 1 from by omega] at HT HK
      clear h e1 e2 T K K2 hb epins hlt hple
      generalize ekInt k = key at *
      generalize ((st.pins p : Nat) : Int) = z at *
      simp only [pv] at hf
      go_enter Try.func16, Try.ntmps16
      go_wp2_with (go_at_call 51; refine hf.mono ?_; rintro e w1 ⟨rfl, rfl⟩)
      go_ret
      exact ⟨rfl, ⟨mb, N, D, _, ps, hN, HT.out, rfl, rfl⟩, HK.out⟩
    · have e1 : aUnpinOk (rowOf st ps) k = false := by unfold aUnpinOk; rw [has_row, hp, epins]; simpa using hlt
      have e2 : aUnpin (rowOf st ps) k = rowOf st ps := by unfold aUnpin; rw [e1]; rfl
      rw [e1, e2]
      have HH := Lib.hid h
      rw [hp] at hf
      have hlz : st.pins p = 0 := by omega
      rw [hlz] at pc
      clear h e1 e2 hb epins hlt hlz
      generalize ekInt k = key at *
      simp only [pv] at hf
      go_enter Try.func16, Try.ntmps16
      go_wp2_with (go_at_call 51; refine hf.mono ?_; rintro e w1 ⟨rfl, rfl⟩)
      go_ret
      exact ⟨rfl, ⟨mb, N, D, st, ps, hN, HH.out, rfl, rfl⟩, Keeps.refl _ _⟩
theorem placeOf_dropInt {st st' : St Int} {ps : List Nat} {j p : Nat} {k : Int} (hn : ps.Nodup) (hkI : KeyInj st ps) (hp : placeOf st ps k = some p) (hj : ps[j]? = some p) (hk : st'.key = st.key) (k' : Int) : placeOf st' (ps.eraseIdx j) k' = if k' = k then none else placeOf st ps k' := by
  rw [eraseIdx_filter ps j p hn hj]
  have hpk := (placeOf_some hp).2
  unfold placeOf
  rw [List.find?_filter, hk]
  by_cases hkk : k' = k
  · subst hkk
    rw [if_pos rfl, List.find?_eq_none]
    intro q hq
    by_cases e : q = p
    · subst e; simp
    · have : st.key q ≠ k' := fun h => e ((mem_place hkI hp hq).1 h)
      simp [this]
  · rw [if_neg hkk]
    congr 1
    funext q
    by_cases e : q = p
    · subst e
      have : st.key q ≠ k' := fun h => hkk (h.symm.trans hpk)
      simp [this]
    · simp [e]
set_option maxRecDepth 20000 in
theorem dropInt {w : World} {B o n : Nat} {F : List Nat} {L : List (Int × Nat)} (h : IsOrderInt w B o n F L) {k : Int} (hk : okInt k) :
    Calls Try.prog 21 #[.pointer (some ⟨o, 0, none⟩), ekInt k] w fun e w' => e = .returned (.bool (aHas L k)) ∧ (∃ F', IsOrderInt w' B o n F' (aDrop L k) ∧ ∀ x, x ∈ F' → x ∈ F) ∧ Keeps F w w' := by
  obtain ⟨mb, N, D, st, ps, hN, h, rfl, rfl⟩ := h
  have hf := findInt h hk
  rw [has_row]
  cases hp : placeOf st ps k with
  | none =>
    have e2 : aDrop (rowOf st ps) k = rowOf st ps := by
      unfold aDrop
      refine List.filter_eq_self.2 fun x hx => ?_
      obtain ⟨q, hq, rfl⟩ := List.mem_map.1 hx
      simpa using placeOf_none hp q hq
    rw [e2]
    have HH := Lib.hid h
    rw [hp] at hf
    clear h e2
    generalize ekInt k = key at *
    simp only [pv] at hf
    go_enter Try.func21, Try.ntmps21
    go_wp2_with (go_at_call 51; refine hf.mono ?_; rintro e w1 ⟨rfl, rfl⟩)
    go_ret
    exact ⟨rfl, ⟨_, ⟨mb, N, D, st, ps, hN, HH.out, rfl, rfl⟩, fun _ => id⟩, Keeps.refl _ _⟩
  | some p =>
    have hps := (placeOf_some hp).1
    obtain ⟨j, hj⟩ := List.getElem?_of_mem hps
    have hl := leaveInt w o mb p ps st h.rep hps (fun z hz => h.chain.older_in hps hz) (fun z hz => h.chain.newer_in hps hz)
    rw [hp] at hf
    have hkk := keyInt hk
    have hmbo := h.mbo
    have HH := Lib.hid h; have HP := Lib.hid hp; have HMB := Lib.hid hmbo; have HJ := Lib.hid hj
    have hmap := h.map
    have HM := Lib.hid hmap
    have HN := Lib.hid hN
    clear h hp hmbo hmap hj hN
    generalize ekInt k = key at *
    simp only [pv] at hf
    go_enter Try.func21, Try.ntmps21
    go_wp2_with (first
      | (go_at_call 51; refine hf.mono ?_; rintro e w1 ⟨rfl, rfl⟩)
      | (go_at_call 59
         refine hl.mono ?_
         rintro e w2 ⟨rfl, hr2, hk2⟩
         have hm2 := map_keepsInt HM.out hk2 (by simp; exact HMB.out)
         have HM2 := Lib.hid hm2
         have o0 := Blk.cell hr2.ord 0
         simp only [List.getElem?_toArray, List.getElem?_cons_zero] at o0
         clear hm2)
      | (at_delete
         refine wpList_delete_own _ rfl _ _ 65 3 rfl 66 keyedInt Try.underlying65 Rp mb N D rfl HM2.out key (lkInt k) rfl hkk ?_
         intro w3 hm3 hmt3))
    go_ret
    have h := HH.out
    have hmbo := HMB.out
    have hk3 : Keeps [mb] w2 w3 := Keeps.of_grown hmt3.grown (by simp)
    have hr3 : RepInt w3 o mb ps (leaveSt st p) := hr2.keeps hk3 (by simp; exact hmbo.1.symm) (by
      intro q hq hm
      obtain rfl := List.mem_singleton.1 hm
      exact hmbo.2 hq)
    have hK : Keeps (o :: mb :: ps) w1 w3 := (hk2.mono (F' := o :: mb :: ps) (fun x hx => .inl (by simp at hx ⊢; rcases hx with h1 | h1 <;> simp [h1]))).trans hk3 (fun x hx => .inl (by obtain rfl := List.mem_singleton.1 hx; simp))
    have s1 := leaveSt_same st p
    have hsub : ∀ q ∈ ps.eraseIdx j, q ∈ ps := fun q hq => List.mem_of_mem_eraseIdx hq
    have hjl := (List.getElem?_eq_some_iff.1 HJ.out).1
    have hpl := placeOf_dropInt (st' := leaveSt st p) h.chain.nodup h.keys HP.out HJ.out s1.1
    have hhas : Maps.has D (lkInt k) = true := by rw [h.has_ k hk, HP.out]; rfl
    refine ⟨rfl, ⟨o :: mb :: ps.eraseIdx j, ⟨mb, N, _, leaveSt st p, ps.eraseIdx j, HN.out, {
        rep := ⟨hr3.ord, fun q hq => hr3.pl q (hsub q hq)⟩
        chain := h.chain.leave HJ.out
        map := hm3
        at_ := fun k' hk' => by
          rw [hpl k']
          by_cases e : k' = k
          · subst e
            rw [if_pos rfl, atKey_del_same]; rfl
          · rw [if_neg e, atKey_del_other (lk_neInt e)]
            exact h.at_ k' hk'
        has_ := fun k' hk' => by
          rw [hpl k']
          by_cases e : k' = k
          · subst e
            rw [if_pos rfl, has_del_same]; rfl
          · rw [if_neg e, has_del_other (lk_neInt e)]
            exact h.has_ k' hk'
        size := by
          have := size_del (k := lkInt k) (h.map.tidy keyedInt)
          rw [hhas, h.size] at this
          rw [List.length_eraseIdx_of_lt hjl]
          simp at this
          omega
        keys := fun a ha b hb e => by
          rw [s1.1] at e
          exact h.keys a (hsub a ha) b (hsub b hb) e
        okk := fun q hq => by rw [s1.1]; exact h.okk q (hsub q hq)
        pin := fun q hq => by rw [s1.2]; exact h.pin q (hsub q hq)
        base := ⟨h.base.1, h.base.2.1, fun q hq => h.base.2.2 q (hsub q hq)⟩ }, rfl, (drop_row h.keys h.chain.nodup HP.out HJ.out s1.1 s1.2).symm⟩, fun x hx => ?_⟩, hK⟩
    simp only [List.mem_cons] at hx ⊢
    rcases hx with h1 | h1 | h1
    · exact .inl h1
    · exact .inr (.inl h1)
    · exact .inr (.inr (hsub x h1))
end Go.Proofs.Ytjddjjfcongnlaa
