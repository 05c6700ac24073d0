/- The reader: what it is, and what its methods do. -/
import Derived.Test.YtiajmngjhbckjaaDoorWriterB
import Derived.Deep.QuietTactic
import Derived.BigQuiet
import Derived.Laws.BitsAllLaws
namespace Go.Proofs.YtiajmngjhbckjaaDoor
open Go.RowKit
structure IsR (w : World) (B r : Nat) (bs : List Nat) (at_ : Nat) (v : Value) : Prop where
  blk : Blk w r 79 #[.bool true, v, .int .i64 at_]
  row : w.ownsRow B 5 1 v bs.length (bs.map byt)
  base : B ≤ r
  le : at_ ≤ bs.length
  byt : ∀ x ∈ bs, x < 256
  len : bs.length ≤ 140737488355328
section
variable {w w' : World} {B r at_ : Nat} {bs : List Nat} {v : Value}
theorem IsR.keeps {F : List Nat} (h : IsR w B r bs at_ v) (hk : Keeps F w w') (hd : ∀ x ∈ FW r v, x ∉ F) : IsR w' B r bs at_ v := by
  refine ⟨hk.blk h.blk (hd r (by unfold FW; simp)), ⟨h.row.1, ?_⟩, h.base, h.le, h.byt, h.len⟩
  rcases h.row.2 with h2 | ⟨g, cap, cur, e, hg, hh, q⟩
  · exact .inl h2
  · exact .inr ⟨g, cap, cur, e, hg, (hk.block g (lt_of_blk hh) (hd g (mem_fw (by rw [e]; rfl)))).trans hh, q⟩
theorem IsR.below (h : IsR w B r bs at_ v) (hb : Below w.heap.size w w') : IsR w' B r bs at_ v :=
  h.keeps (F := []) ⟨hb.os, hb.tape, hb.output, hb.size, fun k hk _ => hb.block k hk⟩ (fun _ _ => by simp)
theorem IsR.lt (h : IsR w B r bs at_ v) : ∀ x ∈ FW r v, B ≤ x ∧ x < w.heap.size := by
  intro x hx
  unfold FW at hx
  rcases List.mem_cons.1 hx with rfl | hx
  · exact ⟨h.base, h.blk.lt⟩
  · exact h.row.lt x (by simpa using hx)
/-- The reader moved. -/
theorem IsR.move (h : IsR w B r bs at_ v) {n : Nat} (hn : n ≤ bs.length) : IsR (w.setCell ⟨r, 2, none⟩ (.int .i64 n)) B r bs n v :=
  ⟨h.blk.set_ 2 (.int .i64 n), h.row.kept (row := some r) ⟨rfl, rfl, rfl, by simp [World.setCell], fun k _ hk => Below.heap_setCell _ _ _ _ (fun e => hk (by rw [e]))⟩ (.inr (own_blk_ne h.row h.blk (by decide))), h.base, hn, h.byt, h.len⟩
end
/-- What a number of n bytes at a place is. -/
def numV (bs : List Nat) (a n : Nat) : Nat := if bs.length - a < n then 0 else valB ((bs.drop a).take n)
def numE (bs : List Nat) (a n : Nat) : Int := if bs.length - a < n then 10 else 0
def numA (bs : List Nat) (a n : Nat) : Nat := if bs.length - a < n then a else a + n
theorem valB_or (V b : Nat) (hb : b < 256) : V * 256 ||| b = V * 256 + b := by
  have := Nat.two_pow_add_eq_or_of_lt (i := 8) (b := b) (by omega) V
  rw [show (2 : Nat) ^ 8 = 256 from rfl] at this
  rw [Nat.mul_comm, ← this]
section
variable {w : World} {B r at_ : Nat} {bs : List Nat} {v : Value}
theorem ralive (h : IsR w B r bs at_ v) : Calls Tryd.prog 59 #[.pointer (some ⟨r, 0, none⟩)] w fun e w' => e = .returned (.bool true) ∧ w = w' := by
  have c0 := h.blk.cell 0
  simp only [List.getElem?_toArray, List.getElem?_cons_zero] at c0
  clear h
  go_enter Tryd.func59, Tryd.ntmps59
  go_wp2
  go_ret
  exact ⟨rfl, rfl⟩
theorem newR (w : World) (A : Option Addr) (n c C : Nat) (l : List Nat) (hr : Reads w C 1 A n (l.map byt)) (hC : C ≤ w.heap.size) (hn : n ≤ 140737488355328) (hb : ∀ x ∈ l, x < 256) :
    Calls Tryd.prog 20 #[.slice A n c] w fun e w' => ∃ r v, e = .returned (.pointer (some ⟨r, 0, none⟩)) ∧ IsR w' w.heap.size r l 0 v ∧ Below w.heap.size w w' := by
  have hln : l.length = n := by have := hr.1; simpa using this
  have hc := copied_any A n c C l w hr hC hn
  have HC := Lib.hid hc; have HB := Lib.hid hb
  clear hc hr hb
  go_enter Tryd.func20, Tryd.ntmps20
  go_wp2_with fail
  refine HC.out.mono ?_
  rintro e w1 ⟨rfl, hrow, hb1⟩
  have hI : IsR (w1.alloc (.cells #[.bool true, .slice (some ⟨w.heap.size, 0, none⟩) n n, .int .i64 0] 79)) w.heap.size w1.heap.size l 0 (.slice (some ⟨w.heap.size, 0, none⟩) n n) :=
    ⟨Blk.new w1 79 _, hrow.alloc _, hb1.size, Nat.zero_le _, HB.out, by omega⟩
  have hB2 : Below w.heap.size w (w1.alloc (.cells #[.bool true, .slice (some ⟨w.heap.size, 0, none⟩) n n, .int .i64 0] 79)) := hb1.alloc hb1.size _
  have HI := Lib.hid hI; have HB2 := Lib.hid hB2
  clear hI hB2 hrow
  go_wp2
  go_ret
  exact ⟨_, _, rfl, HI.out, HB2.out⟩
theorem rat (h : IsR w B r bs at_ v) : Calls Tryd.prog 24 #[.pointer (some ⟨r, 0, none⟩)] w fun e w' => e = .returned (.int .i64 at_) ∧ w = w' := by
  have ha := ralive h
  have c2 := h.blk.cell 2
  simp only [List.getElem?_toArray, List.getElem?_cons_zero, List.getElem?_cons_succ] at c2
  clear h
  go_enter Tryd.func24, Tryd.ntmps24
  go_wp2_with fail
  refine ha.mono ?_
  rintro e w1 ⟨rfl, rfl⟩
  go_wp2
  go_ret
  exact ⟨rfl, rfl⟩
set_option maxRecDepth 20000 in
theorem rleft (h : IsR w B r bs at_ v) : Calls Tryd.prog 25 #[.pointer (some ⟨r, 0, none⟩)] w fun e w' => e = .returned (.int .i64 ((bs.length - at_ : Nat) : Int)) ∧ ∃ q, w' = w.drewN q := by
  have ha := ralive h
  have c1 := h.blk.cell 1
  have c2 := h.blk.cell 2
  simp only [List.getElem?_toArray, List.getElem?_cons_zero, List.getElem?_cons_succ] at c1 c2
  obtain ⟨A, c, rfl⟩ := own_slice h.row
  have hle := h.le
  have hlen := h.len
  have hw : IntKind.i64.wrap ((bs.length : Int) - (at_ : Int)) = ((bs.length - at_ : Nat) : Int) := by rw [IntWalk.i64_in _ (by omega)]; omega
  clear h hle hlen
  go_enter Tryd.func25, Tryd.ntmps25
  go_wp2_with fail
  refine ha.mono ?_
  rintro e w1 ⟨rfl, rfl⟩
  go_wp2_with fail
  go_quiet (fail)
  go_wp2
  go_ret
  exact ⟨rfl, _, rfl⟩
set_option maxRecDepth 20000 in
theorem rend (h : IsR w B r bs at_ v) : Calls Tryd.prog 26 #[.pointer (some ⟨r, 0, none⟩)] w fun e w' => e = .returned (.int .i64 (if at_ < bs.length then 11 else 0)) ∧ ∃ q, w' = w.drewN q := by
  have ha := ralive h
  have hl := rleft h
  obtain ⟨d, hd⟩ : ∃ d, bs.length - at_ = d := ⟨_, rfl⟩
  have hle := h.le
  rw [hd] at hl
  by_cases hlt : at_ < bs.length
  · rw [if_pos hlt]
    have hp : (0 : Int) < (d : Int) := by omega
    clear h hd hle hlt
    go_enter Tryd.func26, Tryd.ntmps26
    go_wp2_with fail
    refine ha.mono ?_
    rintro e w1 ⟨rfl, rfl⟩
    go_wp2_with fail
    refine hl.mono ?_
    rintro e w1 ⟨rfl, q, rfl⟩
    go_wp2
    go_ret
    exact ⟨rfl, q, rfl⟩
  · rw [if_neg hlt]
    obtain rfl : d = 0 := by omega
    rw [show ((0 : Nat) : Int) = 0 from rfl] at hl
    clear h hd hle hlt
    go_enter Tryd.func26, Tryd.ntmps26
    go_wp2_with fail
    refine ha.mono ?_
    rintro e w1 ⟨rfl, rfl⟩
    go_wp2_with fail
    refine hl.mono ?_
    rintro e w1 ⟨rfl, q, rfl⟩
    go_wp2
    go_ret
    exact ⟨rfl, q, rfl⟩
/-- The bytes of a cut row. -/
theorem cut_at {A : Option Addr} {c : Nat} (h : IsR w B r bs at_ (.slice A bs.length c)) {k : Nat} (hk : at_ + k < bs.length) : ∃ ad, A = some ad ∧ ad.block < w.heap.size ∧ w.cell? (ad.add (at_ + k)) = some (byt bs[at_ + k]) := by
  obtain ⟨ad, u, e, hb, hu, hc⟩ := (Reads.of_own h.row).at_ (k := at_ + k) hk
  refine ⟨ad, e, hb, ?_⟩
  rw [hc, ← hu, List.getElem?_map, List.getElem?_eq_getElem hk]; rfl
set_option maxRecDepth 20000 in
set_option maxHeartbeats 4000000 in
theorem rnum (h : IsR w B r bs at_ v) (n : Nat) (hn : n ≤ 8) (hn0 : 0 < n) :
    Calls Tryd.prog 61 #[.pointer (some ⟨r, 0, none⟩), .int .i64 n] w fun e w' => e = .returned (.tuple #[.int .u64 (numV bs at_ n : Nat), .int .i64 (numE bs at_ n)]) ∧ IsR w' B r bs (numA bs at_ n) v ∧ Keeps [r] w w' := by
  have ha := ralive h
  have c1 := h.blk.cell 1
  have c2 := h.blk.cell 2
  have f2 := h.blk.frozen 2
  simp only [List.getElem?_toArray, List.getElem?_cons_zero, List.getElem?_cons_succ] at c1 c2
  obtain ⟨A, c, rfl⟩ := own_slice h.row
  have hle := h.le
  have hlen := h.len
  have hw : IntKind.i64.wrap ((bs.length : Int) - (at_ : Int)) = ((bs.length - at_ : Nat) : Int) := by rw [IntWalk.i64_in _ (by omega)]; omega
  by_cases hs : bs.length - at_ < n
  · have hs' : ((bs.length - at_ : Nat) : Int) < (n : Int) := by omega
    have e1 : numV bs at_ n = 0 := if_pos hs
    have e2 : numE bs at_ n = 10 := if_pos hs
    have e3 : numA bs at_ n = at_ := if_pos hs
    rw [e1, e2, e3]
    have HH := Lib.hid h
    clear h e1 e2 e3 hs hle hlen
    go_enter Tryd.func61, Tryd.ntmps61
    go_wp2_with fail
    refine ha.mono ?_
    rintro e w1 ⟨rfl, rfl⟩
    go_wp2_with fail
    go_quiet (fail)
    go_wp2
    go_ret2
    exact ⟨rfl, HH.out.below (below_drewN (Below.refl _ _) _), (Keeps.refl _ _).drewN _⟩
  · have hs' : ¬ (((bs.length - at_ : Nat) : Int) < (n : Int)) := by omega
    have hsd : decide (((bs.length - at_ : Nat) : Int) < (n : Int)) = false := decide_eq_false hs'
    have e1 : numV bs at_ n = valB ((bs.drop at_).take n) := if_neg hs
    have e2 : numE bs at_ n = 0 := if_neg hs
    have e3 : numA bs at_ n = at_ + n := if_neg hs
    have hw2 : IntKind.i64.wrap ((at_ : Int) + (n : Int)) = (at_ : Int) + (n : Int) := IntWalk.i64_in _ (by omega)
    have ha0 : (0 : Int) ≤ (at_ : Int) := by omega
    have ha1 : (at_ : Int) ≤ (at_ : Int) + (n : Int) := by omega
    have hcap : (at_ : Int) + (n : Int) ≤ (c : Int) := by
      have : bs.length ≤ c := by
        rcases h.row.2 with ⟨e, h0⟩ | ⟨g, cap, cur, e, _, _, hnc, _⟩
        · injection e with _ _ e; omega
        · injection e with _ _ e; omega
      omega
    rw [e1, e2, e3]
    obtain ⟨ad, hA⟩ : ∃ ad, A = some ad := (cut_at h (k := 0) (by omega)).imp fun _ h => h.1
    subst hA
    have HH := Lib.hid h; have HLE := Lib.hid hle; have HLEN := Lib.hid hlen; have HS := Lib.hid hs
    clear h e1 e2 e3 hs hle hlen
    go_enter Tryd.func61, Tryd.ntmps61
    go_wp2_with fail
    refine ha.mono ?_
    rintro e w1 ⟨rfl, rfl⟩
    go_wp2_with fail
    go_quiet (fail)
    generalize nq = q1 at *
    go_wp2_with fail
    go_quiet (fail)
    go_wp2
    have HHW : Hid (IsR ((w.drewN q1).drewN nq) B r bs at_ (.slice (some ad) bs.length c)) := Lib.hid (HH.out.below (below_drewN (below_drewN (Below.refl _ _) _) _))
    have hkW : Keeps [r] w ((w.drewN q1).drewN nq) := ((Keeps.refl _ _).drewN _).drewN _
    have HKW := Lib.hid hkW
    clear hkW
    generalize (w.drewN q1).drewN nq = W at *
    go_loopw [6, 8, 40] (fun vv _ iv wr => ∃ k : Nat, k ≤ n ∧ iv = .int .i64 k ∧ vv = .int .u64 (valB ((bs.drop at_).take k) : Nat) ∧ wr = W) (fun _ _ iv _ => n - (intOf iv).toNat)
    case atStart => exact ⟨0, by omega, rfl, rfl, rfl⟩
    case round =>
      obtain ⟨k, hk, rfl, rfl, rfl⟩ := hrel
      by_cases hlt : k < n
      · have hbk : at_ + k < bs.length := by have := HS.out; omega
        obtain ⟨ad2, e2, _, hcell⟩ := cut_at HHW.out hbk
        obtain rfl := Option.some.inj e2
        rw [← add_of_add] at hcell
        obtain ⟨b, hb⟩ : ∃ b, bs[at_ + k] = b := ⟨_, rfl⟩
        rw [hb] at hcell
        unfold byt at hcell
        have hb256 : b < 256 := by rw [← hb]; exact HHW.out.byt _ (List.getElem_mem hbk)
        have htk : (bs.drop at_).take (k + 1) = (bs.drop at_).take k ++ [b] := by
          rw [List.take_add_one, List.getElem?_drop, List.getElem?_eq_getElem hbk, hb]; rfl
        have hv1 : valB ((bs.drop at_).take k) < 72057594037927936 := by
          have h1 := valB_lt ((bs.drop at_).take k) (fun x hx => HHW.out.byt x (List.mem_of_mem_drop (List.mem_of_mem_take hx)))
          have h2 : ((bs.drop at_).take k).length ≤ 7 := by rw [List.length_take]; omega
          exact Nat.lt_of_lt_of_le h1 (Nat.le_trans (Nat.pow_le_pow_right (by omega) h2) (by decide))
        have hv2 : valB ((bs.drop at_).take (k + 1)) = valB ((bs.drop at_).take k) * 256 + b := by rw [htk, valB_snoc]
        obtain ⟨V, hV⟩ : ∃ V, valB ((bs.drop at_).take k) = V := ⟨_, rfl⟩
        rw [hV] at hv1 hv2 ⊢
        have hsl : IntKind.u64.wrap ((V : Int) * 256) = (V : Int) * 256 := IntWalk.u64_in _ (by omega)
        have hor : bits .or .u64 ((V : Int) * 256) (b : Int) = ((V * 256 + b : Nat) : Int) := by
          rw [show (V : Int) * 256 = ((V * 256 : Nat) : Int) by omega, u64_or_nat _ _ (by omega) (by omega), valB_or V b hb256]
        have hk1 : (k : Int) < (n : Int) := by omega
        have hk0 : (0 : Int) ≤ (k : Int) := by omega
        have hbz : (0 : Int) ≤ (b : Int) := by omega
        have HV2 := Lib.hid hv2
        clear htk hv2 hV hb
        go_wp2
        refine ⟨⟨k + 1, by omega, by go_num, by rw [HV2.out]; go_num, trivial⟩, by simp [intOf]; omega⟩
      · obtain rfl : k = n := by omega
        have d2 := HHW.out.blk.cell 2
        have g2 := HHW.out.blk.frozen 2
        simp only [List.getElem?_toArray, List.getElem?_cons_zero, List.getElem?_cons_succ] at d2
        have hmv := HHW.out.move (n := at_ + k) (by have := HS.out; have := HLE.out; omega)
        rw [show ((at_ + k : Nat) : Int) = (at_ : Int) + (k : Int) from by omega] at hmv
        have HMV := Lib.hid hmv
        have HK2 := Lib.hid (HKW.out.setCell (p := ⟨r, 2, none⟩) (.inl (by simp)) (.int .i64 ((at_ : Int) + (k : Int))))
        clear hmv
        go_wp2
        go_ret2
        exact ⟨rfl, HMV.out, HK2.out⟩
theorem numV_lt (h : IsR w B r bs at_ v) (n : Nat) : numV bs at_ n < 256 ^ n := by
  unfold numV
  split
  · exact Nat.pow_pos (by omega)
  · have h1 := valB_lt ((bs.drop at_).take n) (fun x hx => h.byt x (List.mem_of_mem_drop (List.mem_of_mem_take hx)))
    exact Nat.lt_of_lt_of_le h1 (Nat.pow_le_pow_right (by omega) (by rw [List.length_take]; omega))
theorem ru8 (h : IsR w B r bs at_ v) :
    Calls Tryd.prog 34 #[.pointer (some ⟨r, 0, none⟩)] w fun e w' => e = .returned (.tuple #[.int .u8 (numV bs at_ 1 : Nat), .int .i64 (numE bs at_ 1)]) ∧ IsR w' B r bs (numA bs at_ 1) v ∧ Keeps [r] w w' := by
  have hc := rnum h 1 (by omega) (by omega)
  have hz1 := numV_lt h 1
  obtain ⟨z, hz⟩ : ∃ z, numV bs at_ 1 = z := ⟨_, rfl⟩
  rw [hz] at hc hz1 ⊢
  have hwr : IntKind.u8.wrap (z : Int) = (z : Int) := IntWalk.u8_in _ (by omega)
  have HC := Lib.hid hc
  clear h hz hc hz1
  go_enter Tryd.func34, Tryd.ntmps34
  go_wp2_with fail
  refine HC.out.mono ?_
  rintro e w1 ⟨rfl, h1, h2⟩
  have H1 := Lib.hid h1; have H2 := Lib.hid h2
  clear h1 h2
  go_wp2
  go_ret2
  exact ⟨rfl, H1.out, H2.out⟩
theorem ru16 (h : IsR w B r bs at_ v) :
    Calls Tryd.prog 35 #[.pointer (some ⟨r, 0, none⟩)] w fun e w' => e = .returned (.tuple #[.int .u16 (numV bs at_ 2 : Nat), .int .i64 (numE bs at_ 2)]) ∧ IsR w' B r bs (numA bs at_ 2) v ∧ Keeps [r] w w' := by
  have hc := rnum h 2 (by omega) (by omega)
  have hz1 := numV_lt h 2
  obtain ⟨z, hz⟩ : ∃ z, numV bs at_ 2 = z := ⟨_, rfl⟩
  rw [hz] at hc hz1 ⊢
  have hwr : IntKind.u16.wrap (z : Int) = (z : Int) := IntWalk.u16_in _ (by omega)
  have HC := Lib.hid hc
  clear h hz hc hz1
  go_enter Tryd.func35, Tryd.ntmps35
  go_wp2_with fail
  refine HC.out.mono ?_
  rintro e w1 ⟨rfl, h1, h2⟩
  have H1 := Lib.hid h1; have H2 := Lib.hid h2
  clear h1 h2
  go_wp2
  go_ret2
  exact ⟨rfl, H1.out, H2.out⟩
theorem ru32 (h : IsR w B r bs at_ v) :
    Calls Tryd.prog 36 #[.pointer (some ⟨r, 0, none⟩)] w fun e w' => e = .returned (.tuple #[.int .u32 (numV bs at_ 4 : Nat), .int .i64 (numE bs at_ 4)]) ∧ IsR w' B r bs (numA bs at_ 4) v ∧ Keeps [r] w w' := by
  have hc := rnum h 4 (by omega) (by omega)
  have hz1 := numV_lt h 4
  obtain ⟨z, hz⟩ : ∃ z, numV bs at_ 4 = z := ⟨_, rfl⟩
  rw [hz] at hc hz1 ⊢
  have hwr : IntKind.u32.wrap (z : Int) = (z : Int) := IntWalk.u32_in _ (by omega)
  have HC := Lib.hid hc
  clear h hz hc hz1
  go_enter Tryd.func36, Tryd.ntmps36
  go_wp2_with fail
  refine HC.out.mono ?_
  rintro e w1 ⟨rfl, h1, h2⟩
  have H1 := Lib.hid h1; have H2 := Lib.hid h2
  clear h1 h2
  go_wp2
  go_ret2
  exact ⟨rfl, H1.out, H2.out⟩
theorem ru64 (h : IsR w B r bs at_ v) :
    Calls Tryd.prog 37 #[.pointer (some ⟨r, 0, none⟩)] w fun e w' => e = .returned (.tuple #[.int .u64 (numV bs at_ 8 : Nat), .int .i64 (numE bs at_ 8)]) ∧ IsR w' B r bs (numA bs at_ 8) v ∧ Keeps [r] w w' := by
  have hc := rnum h 8 (by omega) (by omega)
  generalize numV bs at_ 8 = z at *
  have HC := Lib.hid hc
  clear h hc
  go_enter Tryd.func37, Tryd.ntmps37
  go_wp2_with fail
  refine HC.out.mono ?_
  rintro e w1 ⟨rfl, h1, h2⟩
  have H1 := Lib.hid h1; have H2 := Lib.hid h2
  clear h1 h2
  go_wp2
  go_ret2
  exact ⟨rfl, H1.out, H2.out⟩
end
end Go.Proofs.YtiajmngjhbckjaaDoor
