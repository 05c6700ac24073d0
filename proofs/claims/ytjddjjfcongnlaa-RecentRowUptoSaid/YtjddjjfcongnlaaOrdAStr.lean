/- An order of keys (Str): its blocks, join and leave. -/
import Derived.Test.YtjddjjfcongnlaaHeap
import Derived.Test.YtjddjjfcongnlaaRows
import Derived.WalkKit
import Derived.ProofKit
import Derived.OpenShut
import Derived.Lib.Hide
namespace Go.Proofs.Ytjddjjfcongnlaa
open Go.RowKit
structure RepStr (w : World) (o mb : Nat) (S : List Nat) (st : St ByteArray) : Prop where
  ord : Blk w o 102 #[.map (some mb), pv st.last, pv st.first]
  pl : ∀ p ∈ S, Blk w p 104 #[pv (st.older p), pv (st.newer p), .string (st.key p), .int .i64 (st.pins p : Nat)]
section
variable {w : World} {o mb p : Nat} {S : List Nat} {st : St ByteArray}
theorem RepStr.ne (h : RepStr w o mb S st) (hp : p ∈ S) : o ≠ p := Blk.ne_ h.ord (h.pl p hp) (by decide)
theorem RepStr.older (h : RepStr w o mb S st) (hp : p ∈ S) (v : Option Nat) : RepStr (w.setCell ⟨p, 0, none⟩ (pv v)) o mb S { st with older := upd st.older p v } :=
  ⟨Blk.far h.ord (h.ne hp) _, fun q hq => by
    by_cases e : q = p
    · subst e
      show Blk _ q 104 #[pv (upd st.older q v q), _, _, _]
      rw [upd_same]
      exact Blk.set_ (h.pl q hq) 0 (pv v)
    · show Blk _ q 104 #[pv (upd st.older p v q), _, _, _]
      rw [upd_other _ _ e]
      exact Blk.far (h.pl q hq) e _⟩
theorem RepStr.newer (h : RepStr w o mb S st) (hp : p ∈ S) (v : Option Nat) : RepStr (w.setCell ⟨p, 1, none⟩ (pv v)) o mb S { st with newer := upd st.newer p v } :=
  ⟨Blk.far h.ord (h.ne hp) _, fun q hq => by
    by_cases e : q = p
    · subst e
      show Blk _ q 104 #[_, pv (upd st.newer q v q), _, _]
      rw [upd_same]
      exact Blk.set_ (h.pl q hq) 1 (pv v)
    · show Blk _ q 104 #[_, pv (upd st.newer p v q), _, _]
      rw [upd_other _ _ e]
      exact Blk.far (h.pl q hq) e _⟩
theorem RepStr.setPins (h : RepStr w o mb S st) (hp : p ∈ S) (v : Nat) : RepStr (w.setCell ⟨p, 3, none⟩ (.int .i64 (v : Nat))) o mb S { st with pins := upd st.pins p v } :=
  ⟨Blk.far h.ord (h.ne hp) _, fun q hq => by
    by_cases e : q = p
    · subst e
      show Blk _ q 104 #[_, _, _, .int .i64 (upd st.pins q v q : Nat)]
      rw [upd_same]
      exact Blk.set_ (h.pl q hq) 3 _
    · show Blk _ q 104 #[_, _, _, .int .i64 (upd st.pins p v q : Nat)]
      rw [upd_other _ _ e]
      exact Blk.far (h.pl q hq) e _⟩
theorem RepStr.setLast (h : RepStr w o mb S st) (v : Option Nat) : RepStr (w.setCell ⟨o, 1, none⟩ (pv v)) o mb S { st with last := v } :=
  ⟨Blk.set_ h.ord 1 (pv v), fun q hq => Blk.far (h.pl q hq) (h.ne hq).symm _⟩
theorem RepStr.setFirst (h : RepStr w o mb S st) (v : Option Nat) : RepStr (w.setCell ⟨o, 2, none⟩ (pv v)) o mb S { st with first := v } :=
  ⟨Blk.set_ h.ord 2 (pv v), fun q hq => Blk.far (h.pl q hq) (h.ne hq).symm _⟩
theorem RepStr.alloc (h : RepStr w o mb S st) (x : Obj) : RepStr (w.alloc x) o mb S st := ⟨Blk.alloc h.ord x, fun q hq => Blk.alloc (h.pl q hq) x⟩
theorem RepStr.keeps {w' : World} {F : List Nat} (h : RepStr w o mb S st) (hk : Keeps F w w') (ho : o ∉ F) (hS : ∀ p ∈ S, p ∉ F) : RepStr w' o mb S st := ⟨hk.blk h.ord ho, fun q hq => hk.blk (h.pl q hq) (hS q hq)⟩
theorem RepStr.as {w' : World} (h : RepStr w o mb S st) (hh : w'.heap = w.heap) : RepStr w' o mb S st :=
  ⟨by have := h.ord; unfold Blk at *; rw [hh]; exact this, fun q hq => by have := h.pl q hq; unfold Blk at *; rw [hh]; exact this⟩
end
theorem joinStr (w : World) (o mb p : Nat) (S : List Nat) (st : St ByteArray) (h : RepStr w o mb S st) (hp : p ∈ S) (hz : ∀ z, st.last = some z → z ∈ S) :
    Calls Try.prog 69 #[.pointer (some ⟨o, 0, none⟩), .pointer (some ⟨p, 0, none⟩)] w fun e w' => e = .returned (.tuple #[]) ∧ RepStr w' o mb S (joinSt st p) ∧ Keeps (o :: S) w w' := by
  have hne := h.ne hp
  have o1 := Blk.cell h.ord 1
  have of1 := Blk.frozen h.ord 1
  have of2 := Blk.frozen h.ord 2
  have o2 := Blk.cell h.ord 2
  have p0 := Blk.cell (h.pl p hp) 0
  have p1 := Blk.cell (h.pl p hp) 1
  have pf0 := Blk.frozen (h.pl p hp) 0
  have pf1 := Blk.frozen (h.pl p hp) 1
  simp only [List.getElem?_toArray, List.getElem?_cons_zero, List.getElem?_cons_succ] at o1 o2 p0 p1
  cases hl : st.last with
  | none =>
    rw [hl] at o1
    simp only [pv] at o1
    have R := (((h.older hp none).newer hp none).setFirst (some p)).setLast (some p)
    have e : joinSt st p = { st with older := upd st.older p none, newer := upd st.newer p none, first := some p, last := some p } := by simp [joinSt, join1, join0, upd_same, hl]
    have K := ((((Keeps.refl (o :: S) w).setCell (p := ⟨p, 0, none⟩) (.inl (by simp [hp])) (pv none)).setCell (p := ⟨p, 1, none⟩) (.inl (by simp [hp])) (pv none)).setCell (p := ⟨o, 2, none⟩) (.inl (by simp)) (pv (some p))).setCell (p := ⟨o, 1, none⟩) (.inl (by simp)) (pv (some p))
    rw [e]
    have HR := Lib.hid R; have HK := Lib.hid K; clear R K e hl
    go_enter Try.func69, Try.ntmps69
    go_wp2
    go_end0
    exact ⟨rfl, HR.out, HK.out⟩
  | some z =>
    have hzS := hz z hl
    have hnez := h.ne hzS
    have z1 := Blk.cell (h.pl z hzS) 1
    have zf1 := Blk.frozen (h.pl z hzS) 1
    simp only [List.getElem?_toArray, List.getElem?_cons_zero, List.getElem?_cons_succ] at z1
    rw [hl] at o1
    simp only [pv] at o1
    have R := (((h.older hp (some z)).newer hp none).newer hzS (some p)).setLast (some p)
    have e : joinSt st p = { st with older := upd st.older p (some z), newer := upd (upd st.newer p none) z (some p), last := some p } := by simp [joinSt, join1, join0, upd_same, hl]
    have K := ((((Keeps.refl (o :: S) w).setCell (p := ⟨p, 0, none⟩) (.inl (by simp [hp])) (pv (some z))).setCell (p := ⟨p, 1, none⟩) (.inl (by simp [hp])) (pv none)).setCell (p := ⟨z, 1, none⟩) (.inl (by simp [hzS])) (pv (some p))).setCell (p := ⟨o, 1, none⟩) (.inl (by simp)) (pv (some p))
    rw [e]
    have HR := Lib.hid R; have HK := Lib.hid K; clear R K e hl
    by_cases hzp : z = p
    · subst hzp
      go_enter Try.func69, Try.ntmps69
      go_wp2
      go_end0
      exact ⟨rfl, HR.out, HK.out⟩
    · go_enter Try.func69, Try.ntmps69
      go_wp2
      go_end0
      exact ⟨rfl, HR.out, HK.out⟩
theorem leaveStr (w : World) (o mb p : Nat) (S : List Nat) (st : St ByteArray) (h : RepStr w o mb S st) (hp : p ∈ S) (ho : ∀ z, st.older p = some z → z ∈ S ∧ z ≠ p) (hn : ∀ z, st.newer p = some z → z ∈ S ∧ z ≠ p) :
    Calls Try.prog 71 #[.pointer (some ⟨o, 0, none⟩), .pointer (some ⟨p, 0, none⟩)] w fun e w' => e = .returned (.tuple #[]) ∧ RepStr w' o mb S (leaveSt st p) ∧ Keeps (o :: S) w w' := by
  have hne := h.ne hp
  have o1 := Blk.cell h.ord 1
  have of1 := Blk.frozen h.ord 1
  have of2 := Blk.frozen h.ord 2
  have o2 := Blk.cell h.ord 2
  have p0 := Blk.cell (h.pl p hp) 0
  have p1 := Blk.cell (h.pl p hp) 1
  simp only [List.getElem?_toArray, List.getElem?_cons_zero, List.getElem?_cons_succ] at o1 o2 p0 p1
  have a1 := leave1_fields st p
  cases ha : st.older p with
  | none =>
    cases hb : st.newer p with
    | none =>
      rw [ha] at p0; rw [hb] at p1
      simp only [pv] at p0 p1
      have R := (h.setFirst none).setLast none
      have e : leaveSt st p = { st with first := none, last := none } := by simp [leaveSt, leave2, leave1, ha, hb]
      have K := ((Keeps.refl (o :: S) w).setCell (p := ⟨o, 2, none⟩) (.inl (by simp)) (pv none)).setCell (p := ⟨o, 1, none⟩) (.inl (by simp)) (pv none)
      rw [e]
      have HR := Lib.hid R; have HK := Lib.hid K; clear R K e ha hb a1 ho hn
      go_enter Try.func71, Try.ntmps71
      go_wp2
      try go_region
      all_goals (try go_wp2)
      try go_region
      all_goals (try go_wp2)
      all_goals go_end0
      all_goals exact ⟨rfl, HR.out.as rfl, HK.out.as rfl rfl rfl rfl⟩
    | some y =>
      obtain ⟨hyS, hyp⟩ := hn y hb
      have hney := h.ne hyS
      have y0 := Blk.cell (h.pl y hyS) 0
      have yf0 := Blk.frozen (h.pl y hyS) 0
      simp only [List.getElem?_toArray, List.getElem?_cons_zero] at y0
      rw [ha] at p0; rw [hb] at p1
      simp only [pv] at p0 p1
      have R := (h.setFirst (some y)).older hyS none
      have e : leaveSt st p = { st with first := some y, older := upd st.older y none } := by simp [leaveSt, leave2, leave1, ha, hb]
      have K := ((Keeps.refl (o :: S) w).setCell (p := ⟨o, 2, none⟩) (.inl (by simp)) (pv (some y))).setCell (p := ⟨y, 0, none⟩) (.inl (by simp [hyS])) (pv none)
      rw [e]
      have HR := Lib.hid R; have HK := Lib.hid K; clear R K e ha hb a1 ho hn
      go_enter Try.func71, Try.ntmps71
      go_wp2
      try go_region
      all_goals (try go_wp2)
      try go_region
      all_goals (try go_wp2)
      all_goals go_end0
      all_goals exact ⟨rfl, HR.out.as rfl, HK.out.as rfl rfl rfl rfl⟩
  | some x =>
    obtain ⟨hxS, hxp⟩ := ho x ha
    have hnex := h.ne hxS
    have x1 := Blk.cell (h.pl x hxS) 1
    have xf1 := Blk.frozen (h.pl x hxS) 1
    simp only [List.getElem?_toArray, List.getElem?_cons_zero, List.getElem?_cons_succ] at x1
    cases hb : st.newer p with
    | none =>
      rw [ha] at p0; rw [hb] at p1
      simp only [pv] at p0 p1
      have R := (h.newer hxS none).setLast (some x)
      have e : leaveSt st p = { st with newer := upd st.newer x none, last := some x } := by simp [leaveSt, leave2, leave1, ha, hb, upd, Ne.symm hxp]
      have K := ((Keeps.refl (o :: S) w).setCell (p := ⟨x, 1, none⟩) (.inl (by simp [hxS])) (pv none)).setCell (p := ⟨o, 1, none⟩) (.inl (by simp)) (pv (some x))
      rw [e]
      have HR := Lib.hid R; have HK := Lib.hid K; clear R K e ha hb a1 ho hn
      go_enter Try.func71, Try.ntmps71
      go_wp2
      try go_region
      all_goals (try go_wp2)
      try go_region
      all_goals (try go_wp2)
      all_goals go_end0
      all_goals exact ⟨rfl, HR.out.as rfl, HK.out.as rfl rfl rfl rfl⟩
    | some y =>
      obtain ⟨hyS, hyp⟩ := hn y hb
      have hney := h.ne hyS
      have y0 := Blk.cell (h.pl y hyS) 0
      have yf0 := Blk.frozen (h.pl y hyS) 0
      simp only [List.getElem?_toArray, List.getElem?_cons_zero] at y0
      rw [ha] at p0; rw [hb] at p1
      simp only [pv] at p0 p1
      have R := (h.newer hxS (some y)).older hyS (some x)
      have e : leaveSt st p = { st with newer := upd st.newer x (some y), older := upd st.older y (some x) } := by simp [leaveSt, leave2, leave1, ha, hb, upd, Ne.symm hxp]
      have K := ((Keeps.refl (o :: S) w).setCell (p := ⟨x, 1, none⟩) (.inl (by simp [hxS])) (pv (some y))).setCell (p := ⟨y, 0, none⟩) (.inl (by simp [hyS])) (pv (some x))
      rw [e]
      have HR := Lib.hid R; have HK := Lib.hid K; clear R K e ha hb a1 ho hn
      go_enter Try.func71, Try.ntmps71
      go_wp2
      try go_region
      all_goals (try go_wp2)
      try go_region
      all_goals (try go_wp2)
      all_goals go_end0
      all_goals exact ⟨rfl, HR.out.as rfl, HK.out.as rfl rfl rfl rfl⟩
end Go.Proofs.Ytjddjjfcongnlaa
