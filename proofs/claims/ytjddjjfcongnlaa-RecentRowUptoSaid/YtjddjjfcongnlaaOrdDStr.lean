/- An order of keys (Str): New and Add. -/
import Derived.Test.YtjddjjfcongnlaaOrdCStr
import Derived.Maps.OwnOps
namespace Go.Proofs.Ytjddjjfcongnlaa
open Go.RowKit Go.Maps
theorem lk_neStr {k k' : ByteArray} (h : k' ≠ k) : lkStr k' ≠ lkStr k := by
  unfold lkStr
  intro e; injection e with e; exact h (by cases k; cases k'; simp at e; simp [e])
theorem lk_keyStr (k : ByteArray) : WideAt.IsKeyLit (lkStr k) := trivial
theorem map_nilStr (mb : Nat) (w : World) : (binOp .eql 97 (.map (some mb)) (.map none)).run Try.prog w = .ok (.bool false) w := by kernel_rfl
theorem newStr (w : World) : Calls Try.prog 52 #[] w fun e w' => ∃ o F, e = .returned (.pointer (some ⟨o, 0, none⟩)) ∧ IsOrderStr w' w.heap.size o 0 F [] ∧ (∀ x ∈ F, w.heap.size ≤ x ∧ x < w'.heap.size) ∧ Below w.heap.size w w' := by
  have hmm := @run_makeMap Try.prog
  go_enter Try.func52, Try.ntmps52
  go_wp2
  go_ret
  have hmap := (World.ownsMap_made (H := Unit) w Try.prog 9 Rp).alloc (.cells #[.map (some w.heap.size), .pointer none, .pointer none] 102)
  have hord : Blk ((w.alloc (.map #[] 0)).alloc (.cells #[.map (some w.heap.size), .pointer none, .pointer none] 102)) (w.heap.size + 1) 102 #[.map (some w.heap.size), .pointer none, .pointer none] := by
    have := Blk.new (w.alloc (.map #[] 0)) 102 #[.map (some w.heap.size), .pointer none, .pointer none]
    rwa [World.size_alloc] at this
  refine ⟨w.heap.size + 1, [w.heap.size + 1, w.heap.size], rfl, ⟨w.heap.size, 0, .map [], ⟨none, none, fun _ => none, fun _ => none, fun _ => ⟨#[]⟩, fun _ => 0⟩, [], Nat.le_refl _, ?_, rfl, rfl⟩, ?_, ((Below.refl _ _).alloc (Nat.le_refl _) _).alloc (by simp only [World.size_alloc]; omega) _⟩
  · exact {
      rep := ⟨hord, fun p hp => by cases hp⟩
      chain := ⟨rfl, rfl, List.nodup_nil, fun i p hi => by simp at hi⟩
      map := hmap
      at_ := fun k _ => rfl
      has_ := fun k _ => rfl
      size := rfl
      keys := fun p hp => by cases hp
      okk := fun p hp => by cases hp
      pin := fun p hp => by cases hp
      base := ⟨by omega, by omega, fun p hp => by cases hp⟩ }
  · intro x hx
    simp only [World.size_alloc]
    simp at hx
    omega
theorem rep_addStr {w : World} {o mb : Nat} {st : St ByteArray} {ps : List Nat} {k : ByteArray} (h : RepStr w o mb ps st) (hp : w.heap.size ∉ ps) : RepStr (w.alloc (.cells #[.pointer none, .pointer none, .string k, .int .i64 0] 104)) o mb (w.heap.size :: ps) (addSt st w.heap.size k) :=
  ⟨(h.alloc _).ord, fun q hq => by
    rcases List.mem_cons.1 hq with rfl | hq
    · have := Blk.new w 104 #[.pointer none, .pointer none, .string k, .int .i64 0]
      simp only [addSt, upd_same]
      exact this
    · have e : q ≠ w.heap.size := fun e => hp (e ▸ hq)
      simp only [addSt, upd_other _ _ e]
      exact (h.alloc _).pl q hq⟩
set_option maxRecDepth 20000 in
theorem addStr {w : World} {B o n : Nat} {F : List Nat} {L : List (ByteArray × Nat)} (h : IsOrderStr w B o n F L) {k : ByteArray} (hk : okStr k) (hn : n < 140737488355327) (hB : B ≤ w.heap.size) :
    Calls Try.prog 53 #[.pointer (some ⟨o, 0, none⟩), ekStr k] w fun e w' => e = .returned (.bool (!aHas L k)) ∧ (∃ F', IsOrderStr w' B o (n + 1) F' (aAdd L k) ∧ (∀ x, x ∈ F' → x ∈ F ∨ w.heap.size ≤ x) ∧ ∀ x ∈ F', x < w'.heap.size) ∧ Keeps F w w' := by
  obtain ⟨mb, N, D, st, ps, hN, h, rfl, rfl⟩ := h
  have HNN := Lib.hid hn; have HNL := Lib.hid hN; have HBB := Lib.hid hB; clear hn hN hB
  have hmn := map_nilStr mb
  have hl := h.look hk
  have o0 := Blk.cell h.rep.ord 0
  simp only [List.getElem?_toArray, List.getElem?_cons_zero] at o0
  rw [has_row]
  cases hp : placeOf st ps k with
  | some p =>
    have e2 : aAdd (rowOf st ps) k = rowOf st ps := by unfold aAdd; rw [has_row, hp]; rfl
    rw [e2]
    rw [hp] at hl
    have HH := Lib.hid h
    clear h e2
    generalize ekStr k = key at *
    simp only [pv] at hl
    go_enter Try.func53, Try.ntmps53
    go_wp2
    go_ret
    have h := HH.out
    have hN := HNL.out
    refine ⟨rfl, ⟨_, ⟨mb, N, D, st, ps, by omega, h, rfl, rfl⟩, fun x hx => .inl hx, fun x hx => ?_⟩, Keeps.refl _ _⟩
    simp only [List.mem_cons] at hx
    rcases hx with rfl | rfl | hx
    · exact h.rep.ord.lt
    · exact h.map.lt
    · exact (h.rep.pl x hx).lt
  | none =>
    rw [hp] at hl
    have HH := Lib.hid h
    have HP := Lib.hid hp
    clear h hp
    have hkk := keyStr hk
    have hpn : w.heap.size ∉ ps := fun hm => by have := (HH.out.rep.pl _ hm).lt; omega
    have hmapA := HH.out.map.alloc (.cells #[.pointer none, .pointer none, .string k, .int .i64 0] 104)
    have hnew := Blk.new w 104 #[.pointer none, .pointer none, .string k, .int .i64 0]
    have hmbo := HH.out.mbo
    have hmlt := HH.out.map.lt
    have hlt := HH.out.rep.ord.lt
    have HPN := Lib.hid hpn; have HMA := Lib.hid hmapA; have HRR := Lib.hid HH.out.rep; have HML := Lib.hid hmlt; have HNW := Lib.hid hnew; have HMB := Lib.hid hmbo
    have hmx : N < maxLen := by have := HNN.out; have := HNL.out; simp only [maxLen]; omega
    have HMX := Lib.hid hmx
    clear hpn hmapA hnew hmbo hmx hmlt
    unfold ekStr at *
    simp only [pv] at hl
    go_enter Try.func53, Try.ntmps53
    go_wp2_with (first
      | (at_mapUpdate
         go_loud (refine wpList_mapUpdate_own _ rfl _ _ _ 97 rfl 9 98 keyedStr Try.underlying97 Rp mb N D rfl HMA.out HMX.out (.string k) (.pointer (some ⟨w.heap.size, 0, none⟩)) (lkStr k) rfl rfl hkk (dv (some w.heap.size)) [] rfl ?_)
         intro w2 hown2 hg2)
      | (go_at_call 69
         have hk2 : Keeps [mb] _ w2 := Keeps.of_grown hg2 (by simp)
         have rep2 := (rep_addStr (k := k) HRR.out HPN.out).keeps hk2 (by simp; exact HMB.out.1.symm) (by
           intro q hq hm
           obtain rfl := List.mem_singleton.1 hm
           rcases List.mem_cons.1 hq with e | hq
           · have := HML.out; omega
           · exact HMB.out.2 hq)
         refine (joinStr w2 o mb w.heap.size (w.heap.size :: ps) _ rep2 (by simp) (fun z hz => List.mem_cons_of_mem _ (HH.out.chain.last_in hz))).mono ?_
         rintro e w3 ⟨rfl, hr3, hk3⟩))
    go_ret
    have h := HH.out
    have hpn := HPN.out
    have hmbo := HMB.out
    have hml := HML.out
    have hN := HNL.out
    have s3 := joinSt_same (addSt st w.heap.size k) w.heap.size
    have hkey : (joinSt (addSt st w.heap.size k) w.heap.size).key = upd st.key w.heap.size k := s3.1
    have hpin : (joinSt (addSt st w.heap.size k) w.heap.size).pins = upd st.pins w.heap.size 0 := s3.2
    have hchain := (h.chain.added (k := k) hpn).join hpn
    have hhas : Maps.has D (lkStr k) = false := by rw [h.has_ k hk, HP.out]; rfl
    have hpl := placeOf_add (st' := joinSt (addSt st w.heap.size k) w.heap.size) hpn HP.out hkey
    have hmap3 := map_keepsStr hown2 hk3 (by
      simp only [List.mem_cons, not_or]
      exact ⟨hmbo.1, by omega, hmbo.2⟩)
    have hk2 : Keeps [mb] _ w2 := Keeps.of_grown hg2 (by simp)
    have hK : Keeps (o :: mb :: ps) w w3 := (((Keeps.refl (o :: mb :: ps) w).alloc _).trans hk2 (by simp)).trans hk3 (by
      intro x hx
      simp only [List.mem_cons] at hx ⊢
      rcases hx with h1 | h1 | h1
      · exact .inl (.inl h1)
      · right; omega
      · exact .inl (.inr (.inr h1)))
    refine ⟨rfl, ⟨o :: mb :: (ps ++ [w.heap.size]), ⟨mb, N + 1, D.put (lkStr k) (dv (some w.heap.size)), joinSt (addSt st w.heap.size k) w.heap.size, ps ++ [w.heap.size], by omega, ?_, rfl, (add_row hpn HP.out hkey hpin).symm⟩, ?_, ?_⟩, hK⟩
    · exact {
        rep := ⟨hr3.ord, fun q hq => hr3.pl q (by
          rcases List.mem_append.1 hq with hq | hq
          · exact List.mem_cons_of_mem _ hq
          · rw [List.mem_singleton.1 hq]; exact List.mem_cons_self)⟩
        chain := hchain
        map := hmap3
        at_ := fun k' hk' => by
          rw [hpl k']
          by_cases e : k' = k
          · subst e
            rw [if_pos rfl, atKey_put_same h.map.isMap (lk_keyStr _)]
          · rw [if_neg e, atKey_put_other (lk_neStr e)]
            exact h.at_ k' hk'
        has_ := fun k' hk' => by
          rw [hpl k']
          by_cases e : k' = k
          · subst e
            rw [if_pos rfl, has_put_same h.map.isMap (lk_keyStr _)]; rfl
          · rw [if_neg e, has_put_other (lk_neStr e)]
            exact h.has_ k' hk'
        size := by
          rw [size_put (h.map.tidy keyedStr), hhas, h.size, List.length_append]
          rfl
        keys := keyInj_add h.keys hpn HP.out hkey
        okk := fun q hq => by
          rw [hkey]
          rcases List.mem_append.1 hq with hq | hq
          · rw [upd_other _ _ (fun e : q = w.heap.size => hpn (e ▸ hq))]; exact h.okk q hq
          · rw [List.mem_singleton.1 hq, upd_same]; exact hk
        pin := fun q hq => by
          rw [hpin]
          rcases List.mem_append.1 hq with hq | hq
          · rw [upd_other _ _ (fun e : q = w.heap.size => hpn (e ▸ hq))]; exact h.pin q hq
          · rw [List.mem_singleton.1 hq, upd_same]; omega
        base := ⟨h.base.1, h.base.2.1, fun q hq => by
          rcases List.mem_append.1 hq with hq | hq
          · exact h.base.2.2 q hq
          · rw [List.mem_singleton.1 hq]; exact HBB.out⟩ }
    · intro x hx
      simp only [List.mem_cons, List.mem_append, List.mem_nil_iff, or_false] at hx ⊢
      rcases hx with h1 | h1 | h1 | h1
      · exact .inl (.inl h1)
      · exact .inl (.inr (.inl h1))
      · exact .inl (.inr (.inr h1))
      · right; omega
    · intro x hx
      simp only [List.mem_cons, List.mem_append, List.mem_nil_iff, or_false] at hx
      rcases hx with rfl | rfl | hx | rfl
      · exact hr3.ord.lt
      · exact hmap3.lt
      · exact (hr3.pl x (List.mem_cons_of_mem _ hx)).lt
      · exact (hr3.pl _ List.mem_cons_self).lt
end Go.Proofs.Ytjddjjfcongnlaa
