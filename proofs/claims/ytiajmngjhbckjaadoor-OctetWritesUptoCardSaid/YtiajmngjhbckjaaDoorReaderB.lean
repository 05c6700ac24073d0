/- The reader: Raw, Text. -/
import Derived.Test.YtiajmngjhbckjaaDoorReader
import Derived.Deep.RegionHeld3
namespace Go.Proofs.YtiajmngjhbckjaaDoor
open Go.RowKit
def rawE (bs : List Nat) (a : Nat) (n : Int) : Int := if n < 0 then 2 else if ((bs.length - a : Nat) : Int) < n then 10 else 0
def rawL (bs : List Nat) (a : Nat) (n : Int) : List Nat := if n < 0 then [] else if ((bs.length - a : Nat) : Int) < n then [] else (bs.drop a).take n.toNat
def rawA (bs : List Nat) (a : Nat) (n : Int) : Nat := if n < 0 then a else if ((bs.length - a : Nat) : Int) < n then a else a + n.toNat
section
variable {w : World} {B r at_ : Nat} {bs : List Nat} {v : Value}
/-- A cut of the reader's row reads as a cut of its bytes. -/
theorem cut_reads {A : Option Addr} {c a k : Nat} (h : w.ownsRow B 5 1 (.slice A bs.length c) bs.length (bs.map byt)) (hk : a + k ≤ bs.length) : Reads w w.heap.size 1 (A.map fun x => x.add a) k (((bs.drop a).take k).map byt) := by
  have hr := Reads.of_own h
  refine ⟨by rw [List.length_map, List.length_take, List.length_drop]; omega, fun h0 => ?_⟩
  obtain ⟨ad, rfl, hb, hc⟩ := hr.2 (by omega)
  refine ⟨ad.add a, rfl, by rw [block_of_add]; exact hb, fun j u hu => ?_⟩
  rw [add_of_add]
  refine hc (a + j) u ?_
  rw [List.getElem?_map, List.getElem?_take] at hu
  split at hu
  · rw [List.getElem?_drop] at hu
    rw [List.getElem?_map]; exact hu
  · simp at hu
theorem cap_le {A : Option Addr} {c : Nat} (h : w.ownsRow B 5 1 (.slice A bs.length c) bs.length (bs.map byt)) : bs.length ≤ c := by
  rcases h.2 with ⟨e, h0⟩ | ⟨g, cap, cur, e, _, _, hnc, _⟩
  · injection e with _ _ e; omega
  · injection e with _ _ e; omega
theorem cut_reads2 {A : Option Addr} {c a k : Nat} (h : w.ownsRow B 5 1 (.slice A bs.length c) bs.length (bs.map byt)) (hk : a + k ≤ bs.length) : Reads w w.heap.size 1 (if c = a then A else A.map fun x => x.add a) k (((bs.drop a).take k).map byt) := by
  by_cases e : c = a
  · have := cap_le h
    obtain rfl : k = 0 := by omega
    rw [if_pos e]
    exact Reads.none_
  · rw [if_neg e]; exact cut_reads h hk
set_option maxRecDepth 20000 in
set_option maxHeartbeats 4000000 in
theorem rraw (h : IsR w B r bs at_ v) (n : Int) (hn : -9223372036854775808 ≤ n ∧ n ≤ 9223372036854775807) :
    Calls Tryd.prog 38 #[.pointer (some ⟨r, 0, none⟩), .int .i64 n] w fun e w' => ∃ u, e = .returned (.tuple #[u, .int .i64 (rawE bs at_ n)]) ∧ w'.ownsRow w.heap.size 5 1 u (rawL bs at_ n).length ((rawL bs at_ n).map byt) ∧ IsR w' B r bs (rawA bs at_ n) v ∧ Keeps [r] w w' := by
  have ha := ralive h
  have c1 := h.blk.cell 1
  have c2 := h.blk.cell 2
  have f2 := h.blk.frozen 2
  simp only [List.getElem?_toArray, List.getElem?_cons_zero, List.getElem?_cons_succ] at c1 c2
  obtain ⟨A, c, rfl⟩ := own_slice h.row
  have hle := h.le
  have hlen := h.len
  have hw : IntKind.i64.wrap ((bs.length : Int) - (at_ : Int)) = ((bs.length - at_ : Nat) : Int) := by rw [IntWalk.i64_in _ (by omega)]; omega
  by_cases h1 : n < 0
  · have e1 : rawE bs at_ n = 2 := if_pos h1
    have e2 : rawL bs at_ n = [] := if_pos h1
    have e3 : rawA bs at_ n = at_ := if_pos h1
    rw [e1, e2, e3]
    have HH := Lib.hid h
    clear h e1 e2 e3 hle hlen
    go_enter Tryd.func38, Tryd.ntmps38
    go_wp2_with fail
    refine ha.mono ?_
    rintro e w1 ⟨rfl, rfl⟩
    go_wp2
    go_ret2
    exact ⟨_, rfl, ⟨rfl, .inl ⟨rfl, rfl⟩⟩, HH.out, Keeps.refl _ _⟩
  · by_cases hs : ((bs.length - at_ : Nat) : Int) < n
    · have e1 : rawE bs at_ n = 10 := by unfold rawE; rw [if_neg h1, if_pos hs]
      have e2 : rawL bs at_ n = [] := by unfold rawL; rw [if_neg h1, if_pos hs]
      have e3 : rawA bs at_ n = at_ := by unfold rawA; rw [if_neg h1, if_pos hs]
      rw [e1, e2, e3]
      have HH := Lib.hid h
      clear h e1 e2 e3 hle hlen
      go_enter Tryd.func38, Tryd.ntmps38
      go_wp2_with fail
      refine ha.mono ?_
      rintro e w1 ⟨rfl, rfl⟩
      go_wp2_with fail
      go_quiet (fail)
      go_wp2
      go_ret2
      exact ⟨_, rfl, ⟨rfl, .inl ⟨rfl, rfl⟩⟩, HH.out.below (below_drewN (Below.refl _ _) _), (Keeps.refl _ _).drewN _⟩
    · obtain ⟨k, rfl⟩ : ∃ k : Nat, n = k := ⟨n.toNat, by omega⟩
      have e1 : rawE bs at_ (k : Int) = 0 := by unfold rawE; rw [if_neg h1, if_neg hs]
      have e2 : rawL bs at_ (k : Int) = (bs.drop at_).take k := by unfold rawL; rw [if_neg h1, if_neg hs]; simp
      have e3 : rawA bs at_ (k : Int) = at_ + k := by unfold rawA; rw [if_neg h1, if_neg hs]; simp
      rw [e1, e2, e3]
      have hsd : decide (((bs.length - at_ : Nat) : Int) < (k : Int)) = false := decide_eq_false hs
      have hck : at_ + k ≤ bs.length := by omega
      have hs' : ¬ (((bs.length - at_ : Nat) : Int) < (k : Int)) := hs
      have hw2 : IntKind.i64.wrap ((at_ : Int) + (k : Int)) = (at_ : Int) + (k : Int) := IntWalk.i64_in _ (by omega)
      have hw3 : IntKind.i64.wrap (at_ : Int) = (at_ : Int) := IntWalk.i64_in _ (by omega)
      have ha0 : (0 : Int) ≤ (at_ : Int) := by omega
      have ha1 : (at_ : Int) ≤ (at_ : Int) + (k : Int) := by omega
      have hcap : (at_ : Int) + (k : Int) ≤ (c : Int) := by have := cap_le h.row; omega
      have HH := Lib.hid h; have HLEN := Lib.hid hlen; have HCK := Lib.hid hck
      obtain ⟨l, hl⟩ : ∃ l, (bs.drop at_).take k = l := ⟨_, rfl⟩
      rw [hl]
      have HL := Lib.hid hl
      have h1d : decide ((k : Int) < 0) = false := decide_eq_false h1
      clear h e1 e2 e3 hs hle hlen hck hl
      go_enter Tryd.func38, Tryd.ntmps38
      go_wp2_with fail
      refine ha.mono ?_
      rintro e w1 ⟨rfl, rfl⟩
      go_wp2_with fail
      go_quiet (fail)
      have HHW : Hid (IsR ((w.drewN nq).setCell ⟨r, 2, none⟩ (.int .i64 ((at_ : Int) + (k : Int)))) B r bs (at_ + k) (.slice A bs.length c)) := by
        have := (HH.out.below (below_drewN (Below.refl _ _) nq)).move (n := at_ + k) HCK.out
        rw [show ((at_ + k : Nat) : Int) = (at_ : Int) + (k : Int) from by omega] at this
        exact Lib.hid this
      have HKW : Hid (Keeps [r] w ((w.drewN nq).setCell ⟨r, 2, none⟩ (.int .i64 ((at_ : Int) + (k : Int))))) := Lib.hid (((Keeps.refl _ _).drewN _).setCell (p := ⟨r, 2, none⟩) (.inl (by simp)) _)
      go_wp2_with fail
      generalize (w.drewN nq).setCell ⟨r, 2, none⟩ (.int .i64 ((at_ : Int) + (k : Int))) = W at *
      have d1 := HHW.out.blk.cell 1
      have d2 := HHW.out.blk.cell 2
      simp only [List.getElem?_toArray, List.getElem?_cons_zero, List.getElem?_cons_succ] at d1 d2
      rw [show ((at_ + k : Nat) : Int) = (at_ : Int) + (k : Int) from by omega] at d2
      have hcop : Calls Tryd.prog 55 #[.slice (if c = at_ then A else A.map fun x => x.add at_) (((at_ : Int) + (k : Int)).toNat - at_) (c - at_)] W.drew fun e w' => e = .returned (.slice (some ⟨W.drew.heap.size, 0, none⟩) k k) ∧ w'.ownsRow W.drew.heap.size 5 1 (.slice (some ⟨W.drew.heap.size, 0, none⟩) k k) l.length (l.map byt) ∧ Below W.drew.heap.size W.drew w' := by
        rw [show ((at_ : Int) + (k : Int)).toNat - at_ = k from by omega]
        rw [← HL.out]
        exact copied_any _ k _ W.heap.size _ W.drew (cut_reads2 HHW.out.row HCK.out) (Nat.le_refl _) (by have := HCK.out; have := HLEN.out; omega)
      have HCOP := Lib.hid hcop
      clear hcop
      go_region_law
        (go_simp; go_at_call 55; (with_reducible refine HCOP.out.mono ?_)
         rintro e w5 ⟨rfl, hr5, hb5⟩
         have hrow : w5.ownsRow w.heap.size 5 1 (.slice (some ⟨W.drew.heap.size, 0, none⟩) k k) l.length (l.map byt) := row_more hr5 (show w.heap.size ≤ W.heap.size from HKW.out.size)
         have HRO := Lib.hid hrow
         have hbW : Below W.heap.size W w5 := ((Below.refl _ _).drew).trans hb5
         have hrd : IsR w5 B r bs (at_ + k) (.slice A bs.length c) := HHW.out.below hbW
         have HRD := Lib.hid hrd
         have hkp : Keeps [r] w w5 := HKW.out.trans (F' := []) ⟨hbW.os, hbW.tape, hbW.output, hbW.size, fun j hj _ => hbW.block j hj⟩ (fun x hx => by cases hx)
         have HKP := Lib.hid hkp
         clear hr5 hrow hbW hrd hkp)
      all_goals go_wp2
      all_goals
        first
          | (go_ret2; exact ⟨_, rfl, HRO.out, HRD.out, HKP.out⟩)
          | (have hca : c = at_ := by assumption
             subst hca
             go_ret2
             exact ⟨_, rfl, HRO.out, HRD.out, HKP.out⟩)
end
end Go.Proofs.YtiajmngjhbckjaaDoor
