/- An order of keys (Int): Pin and Touch, and what they make of the row. -/
import Derived.Test.YtjddjjfcongnlaaOrdBInt
import Derived.Test.YtjddjjfcongnlaaRowOf
namespace Go.Proofs.Ytjddjjfcongnlaa
open Go.RowKit Go.Maps
def IsOrderInt (w : World) (B o n : Nat) (F : List Nat) (L : List (Int × Nat)) : Prop :=
  ∃ mb N D st ps, N ≤ n ∧ OrdInt w B o mb N D st ps ∧ F = o :: mb :: ps ∧ L = rowOf st ps
section
variable {w w' : World} {B o mb N : Nat} {D : DataW Unit} {st st' : St Int} {ps : List Nat}
theorem OrdInt.mbo (h : OrdInt w B o mb N D st ps) : mb ≠ o ∧ mb ∉ ps := by
  obtain ⟨es, clock, hb, _⟩ := h.map
  refine ⟨fun e => ?_, fun hm => ?_⟩
  · subst e
    have := h.rep.ord
    unfold Blk at this
    rw [hb] at this; cases this
  · have := h.rep.pl mb hm
    unfold Blk at this
    rw [hb] at this; cases this
theorem map_keepsInt {F : List Nat} (h : w.ownsMap Try.prog 3 Rp mb N D) (hk : Keeps F w w') (hm : mb ∉ F) : w'.ownsMap Try.prog 3 Rp mb N D := by
  have hlt := h.lt
  obtain ⟨es, clock, hb, r⟩ := h
  exact ⟨es, clock, (hk.block mb hlt hm).trans hb, r⟩
/-- The order behind a call that leaves the map alone. -/
theorem OrdInt.turn {ps' : List Nat} {F : List Nat} (h : OrdInt w B o mb N D st ps) (hr : RepInt w' o mb ps st') (hc : Chain st' ps') (hk : Keeps F w w') (hF : mb ∉ F) (hm : ∀ p, p ∈ ps ↔ p ∈ ps') (hl : ps'.length = ps.length) (hkey : st'.key = st.key) (hpin : ∀ p ∈ ps, st'.pins p ≤ 2147483647) : OrdInt w' B o mb N D st' ps' where
  rep := ⟨hr.ord, fun p hp => hr.pl p ((hm p).2 hp)⟩
  chain := hc
  map := map_keepsInt h.map hk hF
  at_ := fun k hk' => by
    rw [h.at_ k hk']
    congr 1
    refine (placeOf_congr ?_ hm fun p _ => by rw [hkey]).symm
    intro p hp q hq e
    rw [hkey] at e
    exact h.keys p ((hm p).2 hp) q ((hm q).2 hq) e
  has_ := fun k hk' => by
    rw [h.has_ k hk']
    congr 1
    refine (placeOf_congr ?_ hm fun p _ => by rw [hkey]).symm
    intro p hp q hq e
    rw [hkey] at e
    exact h.keys p ((hm p).2 hp) q ((hm q).2 hq) e
  size := by rw [h.size, hl]
  keys := fun p hp q hq e => by
    rw [hkey] at e
    exact h.keys p ((hm p).2 hp) q ((hm q).2 hq) e
  okk := fun p hp => by rw [hkey]; exact h.okk p ((hm p).2 hp)
  pin := fun p hp => hpin p ((hm p).2 hp)
  base := ⟨h.base.1, h.base.2.1, fun p hp => h.base.2.2 p ((hm p).2 hp)⟩
end
set_option maxRecDepth 10000 in
theorem pinInt {w : World} {B o n : Nat} {F : List Nat} {L : List (Int × Nat)} (h : IsOrderInt w B o n F L) {k : Int} (hk : okInt k) :
    Calls Try.prog 14 #[.pointer (some ⟨o, 0, none⟩), ekInt k] w fun e w' => e = .returned (.bool (aPinOk L k)) ∧ IsOrderInt w' B o n F (aPin L k) ∧ Keeps F w w' := by
  obtain ⟨mb, N, D, st, ps, hN, h, rfl, rfl⟩ := h
  have hf := findInt h hk
  cases hp : placeOf st ps k with
  | none =>
    have e1 : aPinOk (rowOf st ps) k = false := by unfold aPinOk; rw [has_row, hp]; rfl
    have e2 : aPin (rowOf st ps) k = rowOf st ps := by unfold aPin; rw [e1]; rfl
    rw [e1, e2]
    have HH := Lib.hid h
    rw [hp] at hf
    clear h e1 e2
    generalize ekInt k = key at *
    simp only [pv] at hf
    go_enter Try.func14, Try.ntmps14
    go_wp2_with (go_at_call 51; refine hf.mono ?_; rintro e w1 ⟨rfl, rfl⟩)
    go_ret
    exact ⟨rfl, ⟨mb, N, D, st, ps, hN, HH.out, rfl, rfl⟩, Keeps.refl _ _⟩
  | some p =>
    have hb := h.place hp
    have pc := Blk.cell hb 3
    have pf := Blk.frozen hb 3
    simp only [List.getElem?_toArray, List.getElem?_cons_zero, List.getElem?_cons_succ] at pc
    have hps := (placeOf_some hp).1
    have epins : aPins (rowOf st ps) k = st.pins p := by rw [pins_row, hp]
    by_cases hlt : st.pins p < 2147483647
    · have e1 : aPinOk (rowOf st ps) k = true := by unfold aPinOk; rw [has_row, hp, epins]; simpa using hlt
      have e2 : aPin (rowOf st ps) k = rowOf { st with pins := upd st.pins p (st.pins p + 1) } ps := by unfold aPin; rw [e1, epins, set_row h.keys hp]; rfl
      have K := (Keeps.refl (o :: mb :: ps) w).setCell (p := ⟨p, 3, none⟩) (.inl (by simp [hps])) (.int .i64 ((st.pins p + 1 : Nat) : Int))
      have K2 := (Keeps.refl ps w).setCell (p := ⟨p, 3, none⟩) (.inl (by simp [hps])) (.int .i64 ((st.pins p + 1 : Nat) : Int))
      have T : OrdInt (w.setCell ⟨p, 3, none⟩ (.int .i64 ((st.pins p + 1 : Nat) : Int))) B o mb N D { st with pins := upd st.pins p (st.pins p + 1) } ps :=
        h.turn (h.rep.setPins hps _) ⟨h.chain.first, h.chain.last, h.chain.nodup, h.chain.at_⟩ K2 h.mbo.2 (fun _ => Iff.rfl) rfl rfl fun q hq => by
          show upd st.pins p (st.pins p + 1) q ≤ _
          by_cases e : q = p
          · subst e; rw [upd_same]; omega
          · rw [upd_other _ _ e]; exact h.pin q hq
      rw [e1, e2]
      have HT := Lib.hid T; have HK := Lib.hid K
      rw [hp] at hf
      have hlz : (st.pins p : Int) < 2147483647 := by omega
      have hz0 : (0 : Int) ≤ (st.pins p : Int) := by omega
      clear h e1 e2 T K K2 hb epins hlt
      rw [show ((st.pins p + 1 : Nat) : Int) = (st.pins p : Int) + 1 from by omega] at HT HK
      generalize ekInt k = key at *
      generalize ((st.pins p : Nat) : Int) = z at *
      simp only [pv] at hf
      go_enter Try.func14, Try.ntmps14
      go_wp2_with (go_at_call 51; refine hf.mono ?_; rintro e w1 ⟨rfl, rfl⟩)
      go_ret
      exact ⟨rfl, ⟨mb, N, D, _, ps, hN, HT.out, rfl, rfl⟩, HK.out⟩
    · have e1 : aPinOk (rowOf st ps) k = false := by unfold aPinOk; rw [has_row, hp, epins]; simpa using hlt
      have e2 : aPin (rowOf st ps) k = rowOf st ps := by unfold aPin; rw [e1]; rfl
      rw [e1, e2]
      have HH := Lib.hid h
      rw [hp] at hf
      have hlz : (2147483647 : Int) ≤ (st.pins p : Int) := by omega
      clear h e1 e2 hb epins hlt
      generalize ekInt k = key at *
      generalize ((st.pins p : Nat) : Int) = z at *
      simp only [pv] at hf
      go_enter Try.func14, Try.ntmps14
      go_wp2_with (go_at_call 51; refine hf.mono ?_; rintro e w1 ⟨rfl, rfl⟩)
      go_ret
      exact ⟨rfl, ⟨mb, N, D, st, ps, hN, HH.out, rfl, rfl⟩, Keeps.refl _ _⟩
theorem touchInt {w : World} {B o n : Nat} {F : List Nat} {L : List (Int × Nat)} (h : IsOrderInt w B o n F L) {k : Int} (hk : okInt k) :
    Calls Try.prog 19 #[.pointer (some ⟨o, 0, none⟩), ekInt k] w fun e w' => e = .returned (.bool (aHas L k)) ∧ (∃ F', IsOrderInt w' B o n F' (aTouch L k) ∧ ∀ x, x ∈ F' ↔ x ∈ F) ∧ Keeps F w w' := by
  obtain ⟨mb, N, D, st, ps, hN, h, rfl, rfl⟩ := h
  have hf := findInt h hk
  rw [has_row]
  cases hp : placeOf st ps k with
  | none =>
    have e2 : aTouch (rowOf st ps) k = rowOf st ps := by
      unfold aTouch
      have hno : ∀ x ∈ rowOf st ps, ¬ x.1 = k := by
        intro x hx
        obtain ⟨q, hq, rfl⟩ := List.mem_map.1 hx
        exact placeOf_none hp q hq
      rw [List.filter_eq_self.2 (fun x hx => by simpa using hno x hx), List.filter_eq_nil_iff.2 (fun x hx => by simpa using hno x hx), List.append_nil]
    rw [e2]
    have HH := Lib.hid h
    rw [hp] at hf
    clear h e2
    generalize ekInt k = key at *
    simp only [pv] at hf
    go_enter Try.func19, Try.ntmps19
    go_wp2_with (go_at_call 51; refine hf.mono ?_; rintro e w1 ⟨rfl, rfl⟩)
    go_ret
    exact ⟨rfl, ⟨_, ⟨mb, N, D, st, ps, hN, HH.out, rfl, rfl⟩, fun _ => Iff.rfl⟩, Keeps.refl _ _⟩
  | some p =>
    have hps := (placeOf_some hp).1
    obtain ⟨j, hj⟩ := List.getElem?_of_mem hps
    have hl := leaveInt w o mb p ps st h.rep hps (fun z hz => h.chain.older_in hps hz) (fun z hz => h.chain.newer_in hps hz)
    have hc1 := h.chain.leave hj
    have hsub : ∀ q ∈ ps.eraseIdx j, q ∈ ps := fun q hq => List.mem_of_mem_eraseIdx hq
    rw [hp] at hf
    have HH := Lib.hid h; have HP := Lib.hid hp; have HC := Lib.hid hc1
    clear h hp hc1
    generalize ekInt k = key at *
    simp only [pv] at hf
    go_enter Try.func19, Try.ntmps19
    go_wp2_with (first
      | (go_at_call 51; refine hf.mono ?_; rintro e w1 ⟨rfl, rfl⟩)
      | (go_at_call 59; refine hl.mono ?_; rintro e w2 ⟨rfl, hr2, hk2⟩)
      | (go_at_call 50; refine (joinInt w2 o mb p ps _ hr2 hps (fun z hz => hsub z (HC.out.last_in hz))).mono ?_; rintro e w3 ⟨rfl, hr3, hk3⟩))
    go_ret
    have h := HH.out
    have hK : Keeps (o :: ps) w1 w3 := hk2.trans hk3 (fun x hx => .inl hx)
    have s1 := leaveSt_same st p
    have s2 := joinSt_same (leaveSt st p) p
    have hkey : (joinSt (leaveSt st p) p).key = st.key := s2.1.trans s1.1
    have hpin : (joinSt (leaveSt st p) p).pins = st.pins := s2.2.trans s1.2
    have hmbo := h.mbo
    have T := h.turn (ps' := ps.eraseIdx j ++ [p]) hr3 (HC.out.join (not_mem_erase h.chain.nodup hj)) hK (by simp; exact hmbo) (mem_touch h.chain.nodup hj) (by
      have := (List.getElem?_eq_some_iff.1 hj).1
      rw [List.length_append, List.length_eraseIdx_of_lt this]; simp; omega) hkey (fun q hq => by rw [hpin]; exact h.pin q hq)
    refine ⟨rfl, ⟨_, ⟨mb, N, D, _, _, hN, T, rfl, (touch_row h.keys h.chain.nodup HP.out hj hkey hpin).symm⟩, fun x => ?_⟩, hK.mono (fun x hx => .inl (by simp at hx ⊢; rcases hx with h1 | h1 <;> simp [h1]))⟩
    have := mem_touch h.chain.nodup hj x
    simp only [List.mem_cons]
    rw [this]
end Go.Proofs.Ytjddjjfcongnlaa
