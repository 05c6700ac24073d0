/- The reader: a text. -/
import Derived.Test.YtiajmngjhbckjaaDoorReaderB
import Derived.Test.YtiajmngjhbckjaaDoorStr
namespace Go.Proofs.YtiajmngjhbckjaaDoor
open Go.RowKit
/-- The length that stands ahead of a text. -/
def txN (bs : List Nat) (a : Nat) : Nat := valB ((bs.drop a).take 4)
def txL (bs : List Nat) (a : Nat) : List Nat := (bs.drop (a + 4)).take (txN bs a)
def txE (bs : List Nat) (a : Nat) (most : Int) : Int :=
  if bs.length - a < 4 then 10 else if most < 0 then 12 else if most < (txN bs a : Int) then 12 else if bs.length - (a + 4) < txN bs a then 10 else if plainL (strOf (txL bs a)).data.toList = true then 0 else 13
def txS (bs : List Nat) (a : Nat) (most : Int) : ByteArray := if txE bs a most = 0 then strOf (txL bs a) else ⟨#[]⟩
def txA (bs : List Nat) (a : Nat) (most : Int) : Nat := if txE bs a most = 0 then a + 4 + txN bs a else a
/-- Where the inner reading leaves the place. -/
def txI (bs : List Nat) (a : Nat) (most : Int) : Nat := if bs.length - a < 4 then a else if txE bs a most = 0 then a + 4 + txN bs a else a + 4
section
variable {w : World} {B r at_ : Nat} {bs : List Nat} {v : Value}
/-- What a text answers. -/
def TextTo (w : World) (B r : Nat) (bs : List Nat) (v : Value) (s : ByteArray) (er : Int) (a : Nat) (e : Ending) (w' : World) : Prop := e = .returned (.tuple #[.string s, .int .i64 er]) ∧ IsR w' B r bs a v ∧ Keeps [r] w w'
theorem keeps_below {F : List Nat} {w w1 w2 : World} (h : Keeps F w w1) (hb : Below w1.heap.size w1 w2) : Keeps F w w2 :=
  h.trans (F' := []) ⟨hb.os, hb.tape, hb.output, hb.size, fun j hj _ => hb.block j hj⟩ (fun x hx => by cases hx)
theorem keeps_drewN {F : List Nat} {w w1 : World} (h : Keeps F w w1) (q : Nat) : Keeps F w (w1.drewN q) := ⟨h.os, h.tape, h.output, h.size, h.block⟩
set_option maxRecDepth 20000 in
set_option maxHeartbeats 8000000 in
theorem rtext62 (h : IsR w B r bs at_ v) (hT : Lib.Utf8Tabs 0 1 w) (h2 : 2 ≤ B) (hB : B ≤ w.heap.size) (most : Int) (hm : -9223372036854775808 ≤ most ∧ most ≤ 9223372036854775807) :
    Calls Tryd.prog 62 #[.pointer (some ⟨r, 0, none⟩), .int .i64 most] w (TextTo w B r bs v (txS bs at_ most) (txE bs at_ most) (txI bs at_ most)) := by
  have hu := ru32 h
  by_cases hs : bs.length - at_ < 4
  · have e1 : txE bs at_ most = 10 := if_pos hs
    have e2 : txS bs at_ most = ⟨#[]⟩ := by unfold txS; rw [e1]; rfl
    have e3 : txI bs at_ most = at_ := if_pos hs
    have e4 : numV bs at_ 4 = 0 := if_pos hs
    have e5 : numE bs at_ 4 = 10 := if_pos hs
    have e6 : numA bs at_ 4 = at_ := if_pos hs
    rw [e4, e5, e6] at hu
    rw [e1, e2, e3]
    have HU := Lib.hid hu
    clear h hu e1 e2 e3 e4 e5 e6 hs hT
    go_enter Tryd.func62, Tryd.ntmps62
    go_wp2_with fail
    refine HU.out.mono ?_
    rintro e w1 ⟨rfl, h1, k1⟩
    have H1 := Lib.hid h1; have K1 := Lib.hid k1
    clear h1 k1
    go_wp2
    go_ret2
    exact ⟨rfl, H1.out, K1.out⟩
  · have e3 : txI bs at_ most = if txE bs at_ most = 0 then at_ + 4 + txN bs at_ else at_ + 4 := if_neg hs
    have e4 : numV bs at_ 4 = txN bs at_ := if_neg hs
    have e5 : numE bs at_ 4 = 0 := if_neg hs
    have e6 : numA bs at_ 4 = at_ + 4 := if_neg hs
    have eE : txE bs at_ most = if most < 0 then 12 else if most < (txN bs at_ : Int) then 12 else if bs.length - (at_ + 4) < txN bs at_ then 10 else if plainL (strOf (txL bs at_)).data.toList = true then 0 else 13 := if_neg hs
    have hn32 : txN bs at_ < 4294967296 := by
      have := numV_lt h 4
      rw [e4] at this
      exact this
    rw [e4, e5, e6] at hu
    have hlb : ∀ x ∈ txL bs at_, x < 256 := fun x hx => h.byt x (List.mem_of_mem_drop (List.mem_of_mem_take hx))
    obtain ⟨l, hl⟩ : ∃ l, txL bs at_ = l := ⟨_, rfl⟩
    have hln : at_ + 4 + txN bs at_ ≤ bs.length → l.length = txN bs at_ := fun hh => by rw [← hl]; unfold txL; rw [List.length_take, List.length_drop]; omega
    have hl2 : (bs.drop (at_ + 4)).take (txN bs at_) = l := hl
    have eS : txS bs at_ most = if txE bs at_ most = 0 then strOf l else ⟨#[]⟩ := by unfold txS; rw [hl]
    rw [hl] at eE hlb
    obtain ⟨n, hn⟩ : ∃ n, txN bs at_ = n := ⟨_, rfl⟩
    rw [hn] at hu e3 eE hn32 hln hl2
    have hle : at_ + 4 ≤ bs.length := by have := h.le; omega
    obtain ⟨p, hp⟩ : ∃ p, at_ + 4 = p := ⟨_, rfl⟩
    rw [hp] at hu e3 eE hln hl2 hle
    have HU := Lib.hid hu; have HE := Lib.hid eE; have HLE := Lib.hid hle; have HLB := Lib.hid hlb; have HLN := Lib.hid hln; have HL2 := Lib.hid hl2; have HLEN := Lib.hid h.len; have HT := Lib.hid hT
    have hn0 : (0 : Int) ≤ (n : Int) := by omega
    have hn1 : (n : Int) ≤ 4294967295 := by omega
    have hwn : IntKind.u64.wrap (n : Int) = (n : Int) := IntWalk.u64_in _ (by omega)
    clear h hu eE hle hs hl hn hlb hln hl2 e4 e5 e6 hT hp
    by_cases h1 : most < 0
    · have e1 : txE bs at_ most = 12 := by rw [HE.out]; rw [if_pos h1]
      rw [eS, e3, e1]
      rw [if_neg (by decide), if_neg (by decide)]
      clear eS e3 e1 HE
      go_enter Tryd.func62, Tryd.ntmps62
      go_wp2_with fail
      refine HU.out.mono ?_
      rintro e w1 ⟨rfl, h1, k1⟩
      have H1 := Lib.hid h1; have K1 := Lib.hid k1
      clear h1 k1
      go_wp2
      go_ret2
      exact ⟨rfl, H1.out, K1.out⟩
    have hm1 : (0 : Int) ≤ most := by omega
    have hwm : IntKind.u64.wrap most = most := IntWalk.u64_in _ (by omega)
    have h1d : decide (most < 0) = false := decide_eq_false h1
    by_cases h3 : most < (n : Int)
    · have e1 : txE bs at_ most = 12 := by rw [HE.out]; rw [if_neg h1, if_pos h3]
      rw [eS, e3, e1]
      rw [if_neg (by decide), if_neg (by decide)]
      clear eS e3 e1 HE
      go_enter Tryd.func62, Tryd.ntmps62
      go_wp2_with fail
      refine HU.out.mono ?_
      rintro e w1 ⟨rfl, h1, k1⟩
      have H1 := Lib.hid h1; have K1 := Lib.hid k1
      clear h1 k1
      go_wp2
      go_ret2
      exact ⟨rfl, H1.out, K1.out⟩
    have h3d : decide (most < (n : Int)) = false := decide_eq_false h3
    by_cases h4 : bs.length - p < n
    · have e1 : txE bs at_ most = 10 := by rw [HE.out]; rw [if_neg h1, if_neg h3, if_pos h4]
      rw [eS, e3, e1]
      rw [if_neg (by decide), if_neg (by decide)]
      clear eS e3 e1 HE
      have h4' : ((bs.length - p : Nat) : Int) < (n : Int) := by omega
      go_enter Tryd.func62, Tryd.ntmps62
      go_wp2_with fail
      refine HU.out.mono ?_
      rintro e w1 ⟨rfl, h1, k1⟩
      have H1 := Lib.hid h1; have K1 := Lib.hid k1
      clear h1 k1
      have d1 := H1.out.blk.cell 1
      have d2 := H1.out.blk.cell 2
      simp only [List.getElem?_toArray, List.getElem?_cons_zero, List.getElem?_cons_succ] at d1 d2
      obtain ⟨A, c, rfl⟩ := own_slice H1.out.row
      have hle := HLE.out
      have hlen := HLEN.out
      have hws : IntKind.i64.wrap ((bs.length : Int) - (p : Int)) = ((bs.length - p : Nat) : Int) := by rw [IntWalk.i64_in _ (by omega)]; omega
      have hwu : IntKind.u64.wrap ((bs.length - p : Nat) : Int) = ((bs.length - p : Nat) : Int) := IntWalk.u64_in _ (by omega)
      clear hle hlen
      go_wp2_with fail
      go_quiet (fail)
      go_wp2
      go_ret2
      exact ⟨rfl, H1.out.below (below_drewN (Below.refl _ _) _), keeps_drewN K1.out _⟩
    have h4' : ¬ (((bs.length - p : Nat) : Int) < (n : Int)) := by omega
    have h4d : decide (((bs.length - p : Nat) : Int) < (n : Int)) = false := decide_eq_false h4'
    have hfit : p + n ≤ bs.length := by have := HLE.out; omega
    have hwi : IntKind.i64.wrap (n : Int) = (n : Int) := IntWalk.i64_in _ (by omega)
    have hwa : IntKind.i64.wrap ((p : Int) + (n : Int)) = (p : Int) + (n : Int) := by have := HLEN.out; exact IntWalk.i64_in _ (by omega)
    have HFIT := Lib.hid hfit
    clear hfit h4
    by_cases h5 : plainL (strOf l).data.toList = true
    · have e1 : txE bs at_ most = 0 := by rw [HE.out]; rw [if_neg h1, if_neg h3, if_neg (by have := HFIT.out; omega), if_pos h5]
      rw [eS, e3, e1]
      rw [if_pos rfl, if_pos rfl]
      clear eS e3 e1 HE
      go_enter Tryd.func62, Tryd.ntmps62
      go_wp2_with fail
      refine HU.out.mono ?_
      rintro e w1 ⟨rfl, h1, k1⟩
      have H1 := Lib.hid h1; have K1 := Lib.hid k1
      clear h1 k1
      have d1 := H1.out.blk.cell 1
      have d2 := H1.out.blk.cell 2
      simp only [List.getElem?_toArray, List.getElem?_cons_zero, List.getElem?_cons_succ] at d1 d2
      obtain ⟨A, c, rfl⟩ := own_slice H1.out.row
      have hle := HLE.out
      have hlen := HLEN.out
      have hws : IntKind.i64.wrap ((bs.length : Int) - (p : Int)) = ((bs.length - p : Nat) : Int) := by rw [IntWalk.i64_in _ (by omega)]; omega
      have hwu : IntKind.u64.wrap ((bs.length - p : Nat) : Int) = ((bs.length - p : Nat) : Int) := IntWalk.u64_in _ (by omega)
      clear hle hlen
      have hcap : (p : Int) + (n : Int) ≤ (c : Int) := by have := cap_le H1.out.row; have := HFIT.out; omega
      have ha0 : (0 : Int) ≤ (p : Int) := by omega
      have ha1 : (p : Int) ≤ (p : Int) + (n : Int) := by omega
      go_wp2_with fail
      go_quiet (fail)
      have H1q : Hid (IsR (w1.drewN nq) B r bs p (.slice A bs.length c)) := Lib.hid (H1.out.below (below_drewN (Below.refl _ _) _))
      have K1q : Hid (Keeps [r] w (w1.drewN nq)) := Lib.hid (keeps_drewN K1.out _)
      generalize w1.drewN nq = W at *
      clear H1 K1
      have r1 := H1q.out.blk.cell 1
      have r2 := H1q.out.blk.cell 2
      simp only [List.getElem?_toArray, List.getElem?_cons_zero, List.getElem?_cons_succ] at r1 r2
      have hrd := cut_reads2 H1q.out.row HFIT.out
      rw [HL2.out] at hrd
      have hcv : ∀ q, (convert 26 9 (.slice (if c = p then A else A.map fun x => x.add p) (((p : Int) + (n : Int)).toNat - p) (c - p))).run Tryd.prog (W.drewN q) = .ok (.string (strOf l)) (W.drewN q) := fun q => by
        rw [show ((p : Int) + (n : Int)).toNat - p = n from by omega]
        exact conv_back Tryd.underlying26 Tryd.underlying5 Tryd.underlying9 (hrd.drewN q) HLB.out
      have hcv0 := hcv 0
      have hcv1 := hcv 1
      have hcv0' : (convert 26 9 (.slice (if c = p then A else A.map fun x => x.add p) (((p : Int) + (n : Int)).toNat - p) (c - p))).run Tryd.prog W = .ok (.string (strOf l)) W := hcv0
      have hcv1' : (convert 26 9 (.slice (if c = p then A else A.map fun x => x.add p) (((p : Int) + (n : Int)).toNat - p) (c - p))).run Tryd.prog W.drew = .ok (.string (strOf l)) W.drew := hcv1
      clear hrd hcv hcv0 hcv1
      have hwp : IntKind.i64.wrap ((p : Int) + (n : Int)) = (p : Int) + (n : Int) := hwa
      have hsz : (strOf l).size ≤ 9223372036854775807 := by
        have e9 : (strOf l).size = l.length := by simp [strOf, ByteArray.size]
        have := HLN.out HFIT.out
        omega
      have hTW : Lib.Utf8Tabs 0 1 W.drew := tabs_low HT.out ((K1q.out.below (fun x hx => by rw [List.mem_singleton.1 hx]; exact H1q.out.base) hB).drew) h2
      have hpl := plain_any (strOf l) W.drew hsz hTW
      rw [h5] at hpl
      have HPL := Lib.hid hpl
      have H1r : Hid (IsR W.drew B r bs p (.slice A bs.length c)) := Lib.hid (H1q.out.below (Below.refl _ _).drew)
      have K1r : Hid (Keeps [r] w W.drew) := Lib.hid K1q.out.drew
      clear hsz hTW hpl H1q K1q
      go_wp2_with fail
      go_region_law (fail)
      all_goals clear hcv0' hcv1'
      all_goals go_wp2_with fail
      all_goals
        refine HPL.out.mono ?_
        rintro e w5 ⟨rfl, hb5⟩
        have h6 := H1r.out.below hb5
        have k6 := keeps_below K1r.out hb5
        have d5 := h6.blk.cell 2
        have f5 := h6.blk.frozen 2
        simp only [List.getElem?_toArray, List.getElem?_cons_zero, List.getElem?_cons_succ] at d5
        have hmv := h6.move (n := p + n) HFIT.out
        rw [show ((p + n : Nat) : Int) = (p : Int) + (n : Int) from by omega] at hmv
        have HMV := Lib.hid hmv
        have HK6 := Lib.hid (k6.setCell (p := ⟨r, 2, none⟩) (.inl (by simp)) (.int .i64 ((p : Int) + (n : Int))))
        clear h6 k6 hmv hb5
        go_wp2
        first
          | (go_ret2; exact ⟨rfl, HMV.out, HK6.out⟩)
          | (have hca : c = p := by assumption
             subst hca
             go_ret2
             exact ⟨rfl, HMV.out, HK6.out⟩)
    · have h5f : plainL (strOf l).data.toList = false := by simpa using h5
      have e1 : txE bs at_ most = 13 := by rw [HE.out]; rw [if_neg h1, if_neg h3, if_neg (by have := HFIT.out; omega), if_neg h5]
      rw [eS, e3, e1]
      rw [if_neg (by decide), if_neg (by decide)]
      clear eS e3 e1 HE
      go_enter Tryd.func62, Tryd.ntmps62
      go_wp2_with fail
      refine HU.out.mono ?_
      rintro e w1 ⟨rfl, h1, k1⟩
      have H1 := Lib.hid h1; have K1 := Lib.hid k1
      clear h1 k1
      have d1 := H1.out.blk.cell 1
      have d2 := H1.out.blk.cell 2
      simp only [List.getElem?_toArray, List.getElem?_cons_zero, List.getElem?_cons_succ] at d1 d2
      obtain ⟨A, c, rfl⟩ := own_slice H1.out.row
      have hle := HLE.out
      have hlen := HLEN.out
      have hws : IntKind.i64.wrap ((bs.length : Int) - (p : Int)) = ((bs.length - p : Nat) : Int) := by rw [IntWalk.i64_in _ (by omega)]; omega
      have hwu : IntKind.u64.wrap ((bs.length - p : Nat) : Int) = ((bs.length - p : Nat) : Int) := IntWalk.u64_in _ (by omega)
      clear hle hlen
      have hcap : (p : Int) + (n : Int) ≤ (c : Int) := by have := cap_le H1.out.row; have := HFIT.out; omega
      have ha0 : (0 : Int) ≤ (p : Int) := by omega
      have ha1 : (p : Int) ≤ (p : Int) + (n : Int) := by omega
      go_wp2_with fail
      go_quiet (fail)
      have H1q : Hid (IsR (w1.drewN nq) B r bs p (.slice A bs.length c)) := Lib.hid (H1.out.below (below_drewN (Below.refl _ _) _))
      have K1q : Hid (Keeps [r] w (w1.drewN nq)) := Lib.hid (keeps_drewN K1.out _)
      generalize w1.drewN nq = W at *
      clear H1 K1
      have r1 := H1q.out.blk.cell 1
      have r2 := H1q.out.blk.cell 2
      simp only [List.getElem?_toArray, List.getElem?_cons_zero, List.getElem?_cons_succ] at r1 r2
      have hrd := cut_reads2 H1q.out.row HFIT.out
      rw [HL2.out] at hrd
      have hcv : ∀ q, (convert 26 9 (.slice (if c = p then A else A.map fun x => x.add p) (((p : Int) + (n : Int)).toNat - p) (c - p))).run Tryd.prog (W.drewN q) = .ok (.string (strOf l)) (W.drewN q) := fun q => by
        rw [show ((p : Int) + (n : Int)).toNat - p = n from by omega]
        exact conv_back Tryd.underlying26 Tryd.underlying5 Tryd.underlying9 (hrd.drewN q) HLB.out
      have hcv0 := hcv 0
      have hcv1 := hcv 1
      have hcv0' : (convert 26 9 (.slice (if c = p then A else A.map fun x => x.add p) (((p : Int) + (n : Int)).toNat - p) (c - p))).run Tryd.prog W = .ok (.string (strOf l)) W := hcv0
      have hcv1' : (convert 26 9 (.slice (if c = p then A else A.map fun x => x.add p) (((p : Int) + (n : Int)).toNat - p) (c - p))).run Tryd.prog W.drew = .ok (.string (strOf l)) W.drew := hcv1
      clear hrd hcv hcv0 hcv1
      have hwp : IntKind.i64.wrap ((p : Int) + (n : Int)) = (p : Int) + (n : Int) := hwa
      have hsz : (strOf l).size ≤ 9223372036854775807 := by
        have e9 : (strOf l).size = l.length := by simp [strOf, ByteArray.size]
        have := HLN.out HFIT.out
        omega
      have hTW : Lib.Utf8Tabs 0 1 W.drew := tabs_low HT.out ((K1q.out.below (fun x hx => by rw [List.mem_singleton.1 hx]; exact H1q.out.base) hB).drew) h2
      have hpl := plain_any (strOf l) W.drew hsz hTW
      rw [h5f] at hpl
      have HPL := Lib.hid hpl
      have H1r : Hid (IsR W.drew B r bs p (.slice A bs.length c)) := Lib.hid (H1q.out.below (Below.refl _ _).drew)
      have K1r : Hid (Keeps [r] w W.drew) := Lib.hid K1q.out.drew
      clear hsz hTW hpl H1q K1q
      go_wp2_with fail
      go_region_law (fail)
      all_goals clear hcv0' hcv1'
      all_goals go_wp2_with fail
      all_goals
        refine HPL.out.mono ?_
        rintro e w5 ⟨rfl, hb5⟩
        have h6 := H1r.out.below hb5
        have k6 := keeps_below K1r.out hb5
        have H6 := Lib.hid h6; have K6 := Lib.hid k6
        clear h6 k6 hb5
        go_wp2
        first
          | (go_ret2; exact ⟨rfl, H6.out, K6.out⟩)
          | (have hca : c = p := by assumption
             subst hca
             go_ret2
             exact ⟨rfl, H6.out, K6.out⟩)
set_option maxRecDepth 20000 in
set_option maxHeartbeats 4000000 in
theorem rtext39 (h : IsR w B r bs at_ v) (hT : Lib.Utf8Tabs 0 1 w) (h2 : 2 ≤ B) (hB : B ≤ w.heap.size) (most : Int) (hm : -9223372036854775808 ≤ most ∧ most ≤ 9223372036854775807) :
    Calls Tryd.prog 39 #[.pointer (some ⟨r, 0, none⟩), .int .i64 most] w (TextTo w B r bs v (txS bs at_ most) (txE bs at_ most) (txA bs at_ most)) := by
  have ha := ralive h
  have ht := rtext62 h hT h2 hB most hm
  have c2 := h.blk.cell 2
  simp only [List.getElem?_toArray, List.getElem?_cons_zero, List.getElem?_cons_succ] at c2
  have hle := h.le
  by_cases he : txE bs at_ most = 0
  · have hns : ¬ bs.length - at_ < 4 := fun hs => by
      have : txE bs at_ most = 10 := if_pos hs
      omega
    have e1 : txI bs at_ most = txA bs at_ most := by unfold txI txA; rw [if_neg hns, if_pos he, if_pos he]
    rw [e1] at ht
    rw [he] at ht ⊢
    have HT := Lib.hid ht
    clear h ht he hns e1 hT
    go_enter Tryd.func39, Tryd.ntmps39
    go_wp2_with fail
    refine ha.mono ?_
    rintro e w1 ⟨rfl, rfl⟩
    go_wp2_with fail
    refine HT.out.mono ?_
    rintro e w2 ⟨rfl, h1, k1⟩
    have H1 := Lib.hid h1; have K1 := Lib.hid k1
    clear h1 k1
    go_wp2
    go_ret2
    exact ⟨rfl, H1.out, K1.out⟩
  · have e1 : txA bs at_ most = at_ := by unfold txA; rw [if_neg he]
    rw [e1]
    obtain ⟨E, hE⟩ : ∃ E, txE bs at_ most = E := ⟨_, rfl⟩
    rw [hE] at ht he ⊢
    have heb : (E != 0) = true := by simpa using he
    have HT := Lib.hid ht
    clear h ht hE e1 hT
    go_enter Tryd.func39, Tryd.ntmps39
    go_wp2_with fail
    refine ha.mono ?_
    rintro e w1 ⟨rfl, rfl⟩
    go_wp2_with fail
    refine HT.out.mono ?_
    rintro e w2 ⟨rfl, h1, k1⟩
    have d2 := h1.blk.cell 2
    have f2 := h1.blk.frozen 2
    simp only [List.getElem?_toArray, List.getElem?_cons_zero, List.getElem?_cons_succ] at d2
    have H1 := Lib.hid (h1.move hle)
    have K1 := Lib.hid (k1.setCell (p := ⟨r, 2, none⟩) (.inl (by simp)) (.int .i64 at_))
    clear h1 k1
    go_wp2
    go_ret2
    exact ⟨rfl, H1.out, K1.out⟩
end
end Go.Proofs.YtiajmngjhbckjaaDoor

