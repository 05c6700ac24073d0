/- The contract of rule.Check. -/
import Derived.Test.YtnnedmkidbokoaaDoorBase
import Derived.Test.YtnnedmkidbokoaaDoorLawKit
import Derived.Deep.DeepCutAuto
import Derived.Deep.CutBlock
import Derived.Outline
import Derived.Laws.BitsAllLaws
namespace Go.Proofs.YtnnedmkidbokoaaDoor
open Go.RowKit
/-- Has a request a flag? -/
def hasB (f g : Int) : Bool := bits .and .u16 f g != 0
theorem has_any (f g : Int) (q : Nat) (w : World) (hc : w.cell? ⟨q, 0, none⟩ = some (.int .u16 f)) :
    Calls Tryd.prog 17 #[.int .u16 g, .pointer (some ⟨q, 0, none⟩)] w fun e w' => e = .returned (.bool (hasB f g)) ∧ w = w' := by
  go_enter Tryd.func17, Tryd.ntmps17
  go_wp2
  go_ret
  exact ⟨rfl, rfl⟩
def chunksB (st ex : Bool) : Bool := st || ex
def mustI (wb : Bool) : Int := if wb = true then 32 else 0
def bad1 (cb : Bool) (mu fg ty : Int) : Bool := !(decide (ty < 8)) || hasB fg (bits .xor .u16 IntKind.u16.max (bits .or .u16 (fl ty) mu)) || bits .and .u16 fg mu != mu || (hasB fg 4 && !cb)
def writesB (ex : Bool) (ty : Int) : Bool := ex && ty == 1
def movedB (off len : Int) : Bool := off != 0 || len != 0
def sizeI (sec : Int) : Int := IntKind.u64.wrap (IntKind.u64.wrap (if 0 < sec then sec else 0) * 512)
def movesB (ty : Int) : Bool := ty == 0 || ty == 1
def permB (ty : Int) (ro : Bool) : Bool := ch ty && ro
def statB (cb : Bool) (ty : Int) (n : Nat) : Bool := ty == 7 && (!cb || (n : Int) == 0)
def payB (ty pay len : Int) : Bool := movesB ty && decide (pay < len)
def dfB (fg len : Int) : Bool := hasB fg 4 && decide (65536 < len)
def outB (off len size : Int) : Bool := decide (size < off) || decide (IntKind.u64.wrap (size - off) < len)
def minB (min off len : Int) : Bool := decide (1 < min) && (off % min != 0 || len % min != 0)
def fastB (fg off len : Int) : Bool := hasB fg 16 && (hasB fg 2 || off % 512 != 0 || len % 512 != 0)
/-- What Check answers. -/
def chk0 (sec : Int) (ro cb : Bool) (mu min pay fg ty off len : Int) (n : Nat) : Int :=
  if bad1 cb mu fg ty = true then 22 else
  if (ty == 2) = true then 0 else
  if (ty == 3) = true then (if movedB off len = true then 22 else 0) else
  if permB ty ro = true then 1 else
  if statB cb ty n = true then 22 else
  if (len == 0) = true then 22 else
  if payB ty pay len = true then 22 else
  if dfB fg len = true then 75 else
  if outB off len (sizeI sec) = true then be ty else
  if minB min off len = true then 22 else
  if fastB fg off len = true then 95 else 0
def chk (sec : Int) (ro st ex : Bool) (min pay fg ty off len : Int) (n : Nat) : Int := chk0 sec ro (chunksB st ex) (mustI (ex && ty == 1)) min pay fg ty off len n
set_option maxRecDepth 100000 in
set_option maxHeartbeats 4000000 in
theorem check_any (e0 e1 e4 e5 e6 e8 s0 l1 l2 q2 q5 : Value) (sec : Int) (ro st ex : Bool) (min pay fg ty off len : Int) (A : Option Addr) (n c : Nat) (w : World)
    (hty0 : 0 ≤ ty) (hty : ty ≤ 65535) (hof : 0 ≤ off) (hle : 0 ≤ len) (hmi : 0 ≤ min) (hmi1 : min ≤ 4294967295) (hp0 : 0 ≤ pay) (hp1 : pay ≤ 4294967295) (hT : Tab w) :
    Calls Tryd.prog 13 #[.agg #[e0, e1, .int .i64 sec, .bool ro, e4, e5, e6, .int .u32 min, e8], .agg #[s0, .bool st, .bool ex, .slice A n c], .agg #[.int .u32 pay, l1, l2], .agg #[.int .u16 fg, .int .u16 ty, q2, .int .u64 off, .int .u64 len, q5]] w
      fun e w' => e = .returned (.int .u32 (chk sec ro st ex min pay fg ty off len n)) ∧ Below w.heap.size w w' := by
  have hz := hT.1
  have hb4 := ((((Below.refl w.heap.size w).alloc (Nat.le_refl _) (.cells #[e0, e1, .int .i64 sec, .bool ro, e4, e5, e6, .int .u32 min, e8] 27)).alloc (by simp) (.cells #[s0, .bool st, .bool ex, .slice A n c] 30)).alloc (by simp; omega) (.cells #[.int .u32 pay, l1, l2] 32)).alloc (by simp; omega) (.cells #[.int .u16 fg, .int .u16 ty, q2, .int .u64 off, .int .u64 len, q5] 36)
  have HT := Lib.hid (hT.below hz hb4); clear hT
  go_enter Tryd.func13, Tryd.ntmps13
  go_upto_region 2 with (go_at_call 16; refine (of_any _ _ hty0 hty HT.out).mono ?_; rintro e w5 ⟨rfl, hb⟩)
  obtain ⟨W, hW⟩ : ∃ W, W = w5.alloc (.cells #[.int .u16 (fl ty), .bool (ch ty), .int .u32 (be ty)] 44) := ⟨_, rfl⟩
  have hwc : ∀ (b o : Nat), b < w.heap.size + 4 → W.cell? ⟨b, o, none⟩ = (((((w.alloc (.cells #[e0, e1, .int .i64 sec, .bool ro, e4, e5, e6, .int .u32 min, e8] 27)).alloc (.cells #[s0, .bool st, .bool ex, .slice A n c] 30)).alloc (.cells #[.int .u32 pay, l1, l2] 32)).alloc (.cells #[.int .u16 fg, .int .u16 ty, q2, .int .u64 off, .int .u64 len, q5] 36)) : World).cell? ⟨b, o, none⟩ := fun b o h => by
    have hs := hb.size
    simp at hs
    rw [hW, World.cell?_alloc_lt w5 _ _ (by simp; omega)]
    exact hb.cell (p := ⟨b, o, none⟩) (by simp; omega)
  have g2 : W.cell? ⟨w.heap.size, 2, none⟩ = some (.int .i64 sec) := by rw [hwc _ _ (by omega)]; simp [go_sem]
  have g3 : W.cell? ⟨w.heap.size, 3, none⟩ = some (.bool ro) := by rw [hwc _ _ (by omega)]; simp [go_sem]
  have g7 : W.cell? ⟨w.heap.size, 7, none⟩ = some (.int .u32 min) := by rw [hwc _ _ (by omega)]; simp [go_sem]
  have h1 : W.cell? ⟨w.heap.size + 1, 1, none⟩ = some (.bool st) := by rw [hwc _ _ (by omega)]; simp [go_sem]
  have h2 : W.cell? ⟨w.heap.size + 1, 2, none⟩ = some (.bool ex) := by rw [hwc _ _ (by omega)]; simp [go_sem]
  have h3 : W.cell? ⟨w.heap.size + 1, 3, none⟩ = some (.slice A n c) := by rw [hwc _ _ (by omega)]; simp [go_sem]
  have l0 : W.cell? ⟨w.heap.size + 1 + 1, 0, none⟩ = some (.int .u32 pay) := by rw [hwc _ _ (by omega)]; simp [go_sem]
  have q0 : W.cell? ⟨w.heap.size + 1 + 1 + 1, 0, none⟩ = some (.int .u16 fg) := by rw [hwc _ _ (by omega)]; simp [go_sem]
  have q1 : W.cell? ⟨w.heap.size + 1 + 1 + 1, 1, none⟩ = some (.int .u16 ty) := by rw [hwc _ _ (by omega)]; simp [go_sem]
  have q3 : W.cell? ⟨w.heap.size + 1 + 1 + 1, 3, none⟩ = some (.int .u64 off) := by rw [hwc _ _ (by omega)]; simp [go_sem]
  have q4 : W.cell? ⟨w.heap.size + 1 + 1 + 1, 4, none⟩ = some (.int .u64 len) := by rw [hwc _ _ (by omega)]; simp [go_sem]
  have hwb : Below w.heap.size w W := by
    have hs := hb.size
    simp at hs
    rw [hW]
    exact (hb4.trans (hb.mono (by simp; omega))).alloc (by omega) _
  have c0 : W.cell? ⟨w5.heap.size, 0, none⟩ = some (.int .u16 (fl ty)) := by rw [hW]; simp [go_sem]
  have c1 : W.cell? ⟨w5.heap.size, 1, none⟩ = some (.bool (ch ty)) := by rw [hW]; simp [go_sem]
  have c2 : W.cell? ⟨w5.heap.size, 2, none⟩ = some (.int .u32 (be ty)) := by rw [hW]; simp [go_sem]
  rw [← hW]
  have HWB := Lib.hid hwb
  clear hwc hb hb4 HT hW hwb
  generalize w5.heap.size = B5 at *
  generalize Value.agg #[e0, e1, .int .i64 sec, .bool ro, e4, e5, e6, .int .u32 min, e8] = vE
  generalize Value.agg #[s0, .bool st, .bool ex, .slice A n c] = vS
  generalize Value.agg #[.int .u32 pay, l1, l2] = vL
  generalize Value.agg #[.int .u16 fg, .int .u16 ty, q2, .int .u64 off, .int .u64 len, q5] = vQ
  go_upto_region 3 with (fail)
  go_cut [11] (fun v wx => v = .bool (chunksB st ex) ∧ W = wx)
  case first =>
    as_aux_lemma =>
    go_wp2
    all_goals go_meet
    all_goals (refine ⟨congrArg Value.bool ?_, rfl⟩; simp_all [chunksB])
  obtain ⟨rfl, rfl⟩ := hcut
  generalize hcb : chunksB st ex = cb at *
  have HCB := Lib.hid hcb; clear hcb
  go_upto_region 5 with (fail)
  go_cut [32] (fun v wx => v = .bool (ex && ty == 1) ∧ W = wx)
  case first =>
    as_aux_lemma =>
    go_wp2
    all_goals go_meet
    all_goals (refine ⟨congrArg Value.bool ?_, rfl⟩; simp_all)
  obtain ⟨rfl, rfl⟩ := hcut
  generalize hwb : (ex && ty == 1) = wb at *
  have HWW := Lib.hid hwb; clear hwb
  go_upto_if 32 with (fail)
  go_cut [12] (fun v wx => v = .int .u16 (mustI wb) ∧ W = wx)
  case first =>
    go_wp2
    all_goals go_meet
    all_goals (refine ⟨congrArg (Value.int IntKind.u16) ?_, rfl⟩; simp_all [mustI])
  obtain ⟨rfl, rfl⟩ := hcut
  generalize hmu : mustI wb = mu at *
  have HMU := Lib.hid hmu; clear hmu
  go_upto_region 7 with (first | (go_at_call 17; refine (has_any _ _ _ _ q0).mono ?_; rintro e w' ⟨rfl, rfl⟩) | (go_at_call 7; refine (known _ _ hty0 hty).mono ?_; rintro e w' ⟨rfl, rfl⟩))
  go_cut [61] (fun v wx => v = .bool (bad1 cb mu fg ty) ∧ W = wx)
  case first =>
    as_aux_lemma =>
    go_wp2_with (first | (go_at_call 17; refine (has_any _ _ _ _ q0).mono ?_; rintro e w' ⟨rfl, rfl⟩) | (go_at_call 7; refine (known _ _ hty0 hty).mono ?_; rintro e w' ⟨rfl, rfl⟩))
    all_goals go_meet
    all_goals (refine ⟨congrArg Value.bool ?_, rfl⟩; simp_all [bad1])
  obtain ⟨rfl, rfl⟩ := hcut
  have h0 : chk sec ro st ex min pay fg ty off len n = chk0 sec ro cb mu min pay fg ty off len n := by rw [chk, HCB.out, HWW.out, HMU.out]
  rw [chk0] at h0
  have H0 := Lib.hid h0; clear h0
  have h0 := H0.out; clear H0
  generalize hxa : bad1 cb mu fg ty = xa at *
  rcases xa with _ | _
  rotate_left
  · rw [if_pos rfl] at h0
    have HF := Lib.hid h0; clear h0 hxa
    as_aux_lemma =>
    go_wp2
    go_ret
    exact ⟨by rw [HF.out]; rfl, HWB.out⟩
  rw [if_neg (by decide)] at h0
  have HXa := Lib.hid hxa; clear hxa
  have H0 := Lib.hid h0; clear h0
  by_cases e2 : (ty == 2) = true
  · have h0 := H0.out; rw [if_pos e2] at h0
    have HF := Lib.hid h0; clear h0 H0
    as_aux_lemma =>
    go_wp2
    go_ret
    exact ⟨by rw [HF.out]; rfl, HWB.out⟩
  have e2' : (ty == 2) = false := by simpa using e2
  have h0 := H0.out; clear H0; rw [if_neg e2] at h0; have H0 := Lib.hid h0; clear h0 e2
  by_cases e3 : (ty == 3) = true
  · have h0 := H0.out; rw [if_pos e3] at h0
    have H1 := Lib.hid h0; clear h0 H0
    go_upto_region 13 with (fail)
    go_cut [75] (fun v wx => v = .bool (movedB off len) ∧ W = wx)
    case first =>
      as_aux_lemma =>
      go_wp2
      all_goals go_meet
      all_goals (refine ⟨congrArg Value.bool ?_, rfl⟩; simp_all [movedB])
    obtain ⟨rfl, rfl⟩ := hcut
    have h0 := H1.out; clear H1
    generalize hxb : movedB off len = xb at *
    rcases xb with _ | _
    rotate_left
    · rw [if_pos rfl] at h0
      have HF := Lib.hid h0; clear h0 hxb
      as_aux_lemma =>
      go_wp2
      go_ret
      exact ⟨by rw [HF.out]; rfl, HWB.out⟩
    rw [if_neg (by decide)] at h0
    have HXb := Lib.hid hxb; clear hxb
    have H1 := Lib.hid h0; clear h0
    have h0 := H1.out
    have HF := Lib.hid h0; clear h0
    as_aux_lemma =>
    go_wp2
    go_ret
    exact ⟨by rw [HF.out]; rfl, HWB.out⟩
  have e3' : (ty == 3) = false := by simpa using e3
  have h0 := H0.out; clear H0; rw [if_neg e3] at h0; have H0 := Lib.hid h0; clear h0 e3
  go_upto_region 16 with (fail)
  go_cut [13] (fun v wx => v = .int .u64 (sizeI sec) ∧ W = wx)
  case first =>
    as_aux_lemma =>
    go_wp2
    all_goals go_meet
    all_goals (refine ⟨congrArg (Value.int IntKind.u64) ?_, rfl⟩; simp only [sizeI]; (first | (rw [if_pos (by omega)]) | (rw [if_neg (by omega)])))
  obtain ⟨rfl, rfl⟩ := hcut
  have h0 := H0.out; clear H0
  generalize hsz : sizeI sec = size at *
  have HSZ := Lib.hid hsz; clear hsz
  have H0 := Lib.hid h0; clear h0
  go_upto_region 18 with (fail)
  go_cut [15] (fun v wx => v = .bool (movesB ty) ∧ W = wx)
  case first =>
    as_aux_lemma =>
    by_cases t0 : (ty == 0) = true
    · have T0 := Lib.hid t0
      skip
      go_wp2
      all_goals go_meet
      all_goals (have t1 := T0.out; refine ⟨congrArg Value.bool ?_, rfl⟩; simp_all [movesB])
    · have t0' : (ty == 0) = false := by simpa using t0
      clear t0; have T0 := Lib.hid t0'
      go_wp2
      all_goals go_meet
      all_goals (have t1 := T0.out; refine ⟨congrArg Value.bool ?_, rfl⟩; simp_all [movesB])
  obtain ⟨rfl, rfl⟩ := hcut
  generalize Value.agg #[.int .u16 (fl ty), .bool (ch ty), .int .u32 (be ty)] = v18
  go_upto_region 19 with (fail)
  go_cut [91] (fun v wx => v = .bool (permB ty ro) ∧ W = wx)
  case first =>
    as_aux_lemma =>
    by_cases t0 : (ch ty) = true
    · have T0 := Lib.hid t0
      skip
      go_wp2
      all_goals go_meet
      all_goals (have t1 := T0.out; refine ⟨congrArg Value.bool ?_, rfl⟩; simp_all [permB])
    · have t0' : (ch ty) = false := by simpa using t0
      clear t0; have T0 := Lib.hid t0'
      go_wp2
      all_goals go_meet
      all_goals (have t1 := T0.out; refine ⟨congrArg Value.bool ?_, rfl⟩; simp_all [permB])
  obtain ⟨rfl, rfl⟩ := hcut
  have h0 := H0.out; clear H0
  generalize hxc : permB ty ro = xc at *
  rcases xc with _ | _
  rotate_left
  · rw [if_pos rfl] at h0
    have HF := Lib.hid h0; clear h0 hxc
    as_aux_lemma =>
    go_wp2
    go_ret
    exact ⟨by rw [HF.out]; rfl, HWB.out⟩
  rw [if_neg (by decide)] at h0
  have HXc := Lib.hid hxc; clear hxc
  have H0 := Lib.hid h0; clear h0
  go_upto_region 21 with (fail)
  go_cut [11, 98] (fun _m v wx => v = .bool (statB cb ty n) ∧ W = wx)
  case first =>
    as_aux_lemma =>
    by_cases t0 : (ty == 7) = true
    · have T0 := Lib.hid t0
      skip
      go_wp2
      all_goals go_meet
      all_goals (have t1 := T0.out; refine ⟨congrArg Value.bool ?_, rfl⟩; simp_all [statB])
    · have t0' : (ty == 7) = false := by simpa using t0
      clear t0; have T0 := Lib.hid t0'
      go_wp2
      all_goals go_meet
      all_goals (have t1 := T0.out; refine ⟨congrArg Value.bool ?_, rfl⟩; simp_all [statB])
  obtain ⟨rfl, rfl⟩ := hcut
  have h0 := H0.out; clear H0
  generalize hxd : statB cb ty n = xd at *
  rcases xd with _ | _
  rotate_left
  · rw [if_pos rfl] at h0
    have HF := Lib.hid h0; clear h0 hxd
    as_aux_lemma =>
    go_wp2
    go_ret
    exact ⟨by rw [HF.out]; rfl, HWB.out⟩
  rw [if_neg (by decide)] at h0
  have HXd := Lib.hid hxd; clear hxd
  have H0 := Lib.hid h0; clear h0
  go_upto_region 23 with (fail)
  go_cut [112] (fun v wx => v = .bool (len == 0) ∧ W = wx)
  case first =>
    as_aux_lemma =>
    go_wp2
    all_goals go_meet
    all_goals (exact ⟨rfl, rfl⟩)
  obtain ⟨rfl, rfl⟩ := hcut
  have h0 := H0.out; clear H0
  generalize hxe : (len == 0) = xe at *
  rcases xe with _ | _
  rotate_left
  · rw [if_pos rfl] at h0
    have HF := Lib.hid h0; clear h0 hxe
    as_aux_lemma =>
    go_wp2
    go_ret
    exact ⟨by rw [HF.out]; rfl, HWB.out⟩
  rw [if_neg (by decide)] at h0
  have HXe := Lib.hid hxe; clear hxe
  have H0 := Lib.hid h0; clear h0
  have h0 := H0.out; clear H0; rw [payB] at h0
  generalize hmv : movesB ty = mv at *
  have HMV := Lib.hid hmv; clear hmv
  have H0 := Lib.hid h0; clear h0
  go_upto_region 25 with (fail)
  go_cut [15, 115] (fun _m v wx => v = .bool (mv && decide (pay < len)) ∧ W = wx)
  case first =>
    as_aux_lemma =>
    go_wp2
    all_goals go_meet
    all_goals (refine ⟨congrArg Value.bool ?_, rfl⟩; simp_all)
  obtain ⟨rfl, rfl⟩ := hcut
  have h0 := H0.out; clear H0
  generalize hxf : (mv && decide (pay < len)) = xf at *
  rcases xf with _ | _
  rotate_left
  · rw [if_pos rfl] at h0
    have HF := Lib.hid h0; clear h0 hxf
    as_aux_lemma =>
    go_wp2
    go_ret
    exact ⟨by rw [HF.out]; rfl, HWB.out⟩
  rw [if_neg (by decide)] at h0
  have HXf := Lib.hid hxf; clear hxf
  have H0 := Lib.hid h0; clear h0
  go_upto_region 27 with (first | (go_at_call 17; refine (has_any _ _ _ _ q0).mono ?_; rintro e w' ⟨rfl, rfl⟩) | (go_at_call 7; refine (known _ _ hty0 hty).mono ?_; rintro e w' ⟨rfl, rfl⟩))
  go_cut [124] (fun v wx => v = .bool (dfB fg len) ∧ W = wx)
  case first =>
    as_aux_lemma =>
    go_wp2_with (first | (go_at_call 17; refine (has_any _ _ _ _ q0).mono ?_; rintro e w' ⟨rfl, rfl⟩) | (go_at_call 7; refine (known _ _ hty0 hty).mono ?_; rintro e w' ⟨rfl, rfl⟩))
    all_goals go_meet
    all_goals (refine ⟨congrArg Value.bool ?_, rfl⟩; simp_all [dfB])
  obtain ⟨rfl, rfl⟩ := hcut
  have h0 := H0.out; clear H0
  generalize hxg : dfB fg len = xg at *
  rcases xg with _ | _
  rotate_left
  · rw [if_pos rfl] at h0
    have HF := Lib.hid h0; clear h0 hxg
    as_aux_lemma =>
    go_wp2
    go_ret
    exact ⟨by rw [HF.out]; rfl, HWB.out⟩
  rw [if_neg (by decide)] at h0
  have HXg := Lib.hid hxg; clear hxg
  have H0 := Lib.hid h0; clear h0
  go_upto_region 29 with (fail)
  go_cut [131] (fun v wx => v = .bool (outB off len size) ∧ W = wx)
  case first =>
    as_aux_lemma =>
    go_wp2
    all_goals go_meet
    all_goals (refine ⟨congrArg Value.bool ?_, rfl⟩; simp_all [outB])
  obtain ⟨rfl, rfl⟩ := hcut
  have h0 := H0.out; clear H0
  generalize hxh : outB off len size = xh at *
  rcases xh with _ | _
  rotate_left
  · rw [if_pos rfl] at h0
    have HF := Lib.hid h0; clear h0 hxh
    as_aux_lemma =>
    go_wp2
    go_ret
    exact ⟨by rw [HF.out]; rfl, HWB.out⟩
  rw [if_neg (by decide)] at h0
  have HXh := Lib.hid hxh; clear hxh
  have H0 := Lib.hid h0; clear h0
  go_upto_region 31 with (fail)
  go_cut [146] (fun v wx => v = .bool (minB min off len) ∧ W = wx)
  case first =>
    as_aux_lemma =>
    by_cases t0 : (decide (1 < min)) = true
    · have T0 := Lib.hid t0
      have t2 : 1 < min := by simpa using t0
      have t3 : ¬ min = 0 := by omega
      go_wp2
      all_goals go_meet
      all_goals (have t1 := T0.out; refine ⟨congrArg Value.bool ?_, rfl⟩; rw [minB, t1]; simp_all)
    · have t0' : (decide (1 < min)) = false := by simpa using t0
      clear t0; have T0 := Lib.hid t0'
      go_wp2
      all_goals go_meet
      all_goals (have t1 := T0.out; refine ⟨congrArg Value.bool ?_, rfl⟩; rw [minB, t1]; simp_all)
  obtain ⟨rfl, rfl⟩ := hcut
  have h0 := H0.out; clear H0
  generalize hxi : minB min off len = xi at *
  rcases xi with _ | _
  rotate_left
  · rw [if_pos rfl] at h0
    have HF := Lib.hid h0; clear h0 hxi
    as_aux_lemma =>
    go_wp2
    go_ret
    exact ⟨by rw [HF.out]; rfl, HWB.out⟩
  rw [if_neg (by decide)] at h0
  have HXi := Lib.hid hxi; clear hxi
  have H0 := Lib.hid h0; clear h0
  go_upto_region 33 with (first | (go_at_call 17; refine (has_any _ _ _ _ q0).mono ?_; rintro e w' ⟨rfl, rfl⟩) | (go_at_call 7; refine (known _ _ hty0 hty).mono ?_; rintro e w' ⟨rfl, rfl⟩))
  go_cut [167] (fun v wx => v = .bool (fastB fg off len) ∧ W = wx)
  case first =>
    as_aux_lemma =>
    go_wp2_with (first | (go_at_call 17; refine (has_any _ _ _ _ q0).mono ?_; rintro e w' ⟨rfl, rfl⟩) | (go_at_call 7; refine (known _ _ hty0 hty).mono ?_; rintro e w' ⟨rfl, rfl⟩))
    all_goals go_meet
    all_goals (refine ⟨congrArg Value.bool ?_, rfl⟩; simp_all [fastB])
  obtain ⟨rfl, rfl⟩ := hcut
  have h0 := H0.out; clear H0
  generalize hxj : fastB fg off len = xj at *
  rcases xj with _ | _
  rotate_left
  · rw [if_pos rfl] at h0
    have HF := Lib.hid h0; clear h0 hxj
    as_aux_lemma =>
    go_wp2
    go_ret
    exact ⟨by rw [HF.out]; rfl, HWB.out⟩
  rw [if_neg (by decide)] at h0
  have HXj := Lib.hid hxj; clear hxj
  have H0 := Lib.hid h0; clear h0
  have h0 := H0.out
  have HF := Lib.hid h0; clear h0
  as_aux_lemma =>
  go_wp2
  go_ret
  exact ⟨by rw [HF.out]; rfl, HWB.out⟩
end Go.Proofs.YtnnedmkidbokoaaDoor
