/- The law RecentRow: the walk. -/
import Derived.Test.YtjddjjfcongnlaaBuilt
import Derived.Test.YtjddjjfcongnlaaAlive
namespace Go.Proofs.Ytjddjjfcongnlaa
open Go.RowKit Go.Maps
theorem row_keeps {w w' : World} {B o n base m : Nat} {F : List Nat} {L : List (Int × Nat)} {v : Value} {xs : List Value} (h : w.ownsRow base 3 1 v m xs) (ho : IsOrderInt w B o n F L) (hk : Keeps F w w') : w'.ownsRow base 3 1 v m xs := by
  refine ⟨h.1, ?_⟩
  rcases h.2 with h2 | ⟨g, cap, cur, e, hg, hh, r⟩
  · exact .inl h2
  · refine .inr ⟨g, cap, cur, e, hg, ?_, r⟩
    have hb : Blk w g 3 cur := hh
    refine (hk.block g (lt_of_block hh) (fun hm => ?_)).trans hh
    rcases kind_ne (ho.kind g hm) hb with e | e <;> cases e
theorem row_below {w w' : World} {base m : Nat} {v : Value} {xs : List Value} (h : w.ownsRow base 3 1 v m xs) (hb : Below w.heap.size w w') : w'.ownsRow base 3 1 v m xs := by
  refine ⟨h.1, ?_⟩
  rcases h.2 with h2 | ⟨g, cap, cur, e, hg, hh, r⟩
  · exact .inl h2
  · exact .inr ⟨g, cap, cur, e, hg, (hb.block g (lt_of_block hh)).trans hh, r⟩
theorem filt_snoc (K : List Int) (k : Int) (i : Nat) (x : Int) (h : K[i]? = some x) : (K.take (i + 1)).filter (fun y => !decide (y = k)) = (K.take i).filter (fun y => !decide (y = k)) ++ if x = k then [] else [x] := by
  rw [take_snoc' K i x h, List.filter_append]
  congr 1
  by_cases e : x = k <;> simp [e]
theorem cnt_snoc (K : List Int) (k : Int) (i : Nat) (x : Int) (h : K[i]? = some x) : (K.take (i + 1)).count k = (K.take i).count k + if x = k then 1 else 0 := by
  rw [take_snoc' K i x h, List.count_append]
  congr 1
  by_cases e : x = k <;> simp [e]
theorem loose_snoc (f : Int → Bool) (R : List Int) (i : Nat) (x : Int) (h : R[i]? = some x) : (R.take (i + 1)).filter f = (R.take i).filter f ++ if f x = true then [x] else [] := by
  rw [take_snoc' R i x h, List.filter_append]
  congr 1
  by_cases e : f x = true <;> simp [e]
theorem wpList_append_any_g {P : Program} (w : World) {ops : Array Oper} {rest : List Oper} {o : Oper} {a : Act} {Q : Exit → Act → World → Prop} (hgd : Region.wanted o (yielded ops a.tmps) = true) (s x : Operand) (t : TypeId)
    (ho : o.op = .call { callee := .builtin .append, args := #[s, x], argTypes := #[t, t] })
    (base : Nat) (e : TypeId) (i : TypeInfo) (z : Value) (size bytes : Nat) (ht : P.underlying t = some (.slice e)) (hi : P.info? e = some i) (hz : i.zero = some z)
    (hsize : i.size = size) (hby : i.bytes = bytes) (hzs : z.cells.size = size) (hsz : 0 < size)
    (v : Value) (n : Nat) (xs : List Value) (hs : a.eval s = v) (hown : w.ownsRow base e size v n xs)
    (B : Nat) (A : Option Addr) (m c : Nat) (news : List Value) (hx : a.eval x = .slice A m c) (hr : Reads w B size A m news) (h1 : ∀ u ∈ news, u.oneCell' = true)
    (h63 : n + m ≤ maxLen) (hbytes : (n + m) * bytes ≤ 140737488355328) (hbase : base ≤ w.heap.size)
    (h : ∀ v' w', w'.ownsRow base e size v' (n + m) (xs ++ news) → w.grownBy w' v.ownBlock → (v'.ownBlock = v.ownBlock ∨ v'.ownBlock = some w.heap.size) → wpList P ops Q rest (a.put o.dst v') w') : wpList P ops Q (o :: rest) a w :=
  wpList_step fun _ hK => by
    rw [if_pos hgd]
    exact wp_append_any w s x t ho base e i z size bytes ht hi hz hsize hby hzs hsz v n xs hs hown B A m c news hx hr h1 h63 hbytes hbase fun v' w' h2 h3 h4 => hK _ _ (h v' w' h2 h3 h4)
set_option maxRecDepth 20000 in
set_option maxHeartbeats 8000000 in
theorem rowLaw_any (A : Option Addr) (m c : Nat) (l : List (Int × Int)) (k : Int) (w : World) (hl : l.length = m) (h : Acts w A l) (hok : okActs l) (hk : okInt k) (hm : m ≤ 1048576) :
    Calls Try.prog 9 #[.slice A m c, .int .i64 k] w fun e w' => e = .returned (.bool true) ∧ Below w.heap.size w w' := by
  obtain ⟨i0, hi0, hz0, hz1, hz2⟩ := info_parts infoKInt
  have hbu := built_any A m c l w hl h hok (by omega)
  have hpl : PLe (aRun l) 1048576 := (aRun_ple l).more (by omega)
  have HK := Lib.hid hk; have HPL := Lib.hid hpl
  clear h hok hl hk hpl
  go_enter Try.func9, Try.ntmps9
  go_wp2_with fail
  refine hbu.mono ?_
  rintro e w1 ⟨o, n, F, rfl, hn, ho, hb1⟩
  clear hbu
  generalize aRun l = L at *
  have hs1 := hb1.size
  have hln := ho.len
  have hko := ho.kok
  have HO := Lib.hid ho; have HKO := Lib.hid hko
  clear ho hko
  go_wp2_with fail
  refine (allOfInt (HO.out.keysAre (by omega) 4 false).1 (HO.out.keysAre (by omega) 4 false).2).mono ?_
  rintro e w2 ⟨vw, rfl, hw, hb2⟩
  have ho2 := HO.out.below hb2
  have hb2' : Below w.heap.size w w2 := hb1.trans (hb2.mono hs1)
  have hs2 := hb2'.size
  clear hb1 hb2 HO hs1
  have HO2 := Lib.hid ho2
  clear ho2
  obtain ⟨Aw, cw, rfl⟩ := own_sliceInt hw
  go_wp2_with fail
  refine (pinsRInt HO2.out HK.out).mono ?_
  rintro e w3 ⟨rfl, rfl⟩
  go_wp2_with fail
  refine (hasInt HO2.out HK.out).mono ?_
  rintro e w3 ⟨rfl, rfl⟩
  have hkl : (aKeysInt false L).length = L.length := by rw [keys_all, List.length_map]
  have hdr := keys_drop (L := L) (k := k)
  have hct := count_le (k := k) HKO.out
  obtain ⟨K, hK⟩ : ∃ K, aKeysInt false L = K := ⟨_, rfl⟩
  rw [hK] at hw hkl hdr hct ⊢
  have HW := Lib.hid hw; have HKK := Lib.hid hK; have HDR := Lib.hid hdr; have HCT := Lib.hid hct
  clear hw hK hdr hct
  go_wp2
  go_loopw [9, 10, 11] (fun rv cv iv wr => ∃ (i : Nat), i ≤ K.length ∧ iv = .int .i64 i ∧ cv = .int .i64 ((K.take i).count k : Nat) ∧ wr.ownsRow w2.heap.size 3 1 rv ((K.take i).filter (fun y => !decide (y = k))).length (((K.take i).filter (fun y => !decide (y = k))).map ekInt) ∧ Below w2.heap.size w2 wr) (fun _ _ iv _ => K.length - (intOf iv).toNat)
  case atStart => exact ⟨0, by omega, rfl, rfl, ⟨rfl, .inl ⟨rfl, rfl⟩⟩, Below.refl _ _⟩
  case round =>
    obtain ⟨i, hi, rfl, rfl, hown, hbw⟩ := hrel
    have hbs := hbw.size
    obtain ⟨Ar, cr, rfl⟩ := own_sliceInt hown
    have HO := Lib.hid hown; clear hown
    by_cases hlt : i < K.length
    · obtain ⟨x, hx⟩ : ∃ x, K[i]? = some x := ⟨_, List.getElem?_eq_getElem hlt⟩
      obtain ⟨ad, u, rfl, had, hu, hcell⟩ := ((Reads.of_own HW.out).below hbw).at_ (k := i) hlt
      obtain rfl : ekInt x = u := by simpa [hx] using hu
      unfold ekInt at hcell
      have hfs := filt_snoc K k i x hx
      have hcs := cnt_snoc K k i x hx
      have hfl : ((K.take i).filter (fun y => !decide (y = k))).length ≤ 1048576 := Nat.le_trans (List.length_filter_le ..) (by rw [List.length_take]; omega)
      have hcl : (K.take i).count k ≤ 1048576 := Nat.le_trans List.count_le_length (by rw [List.length_take]; omega)
      have hi1 : (i : Int) < (K.length : Int) := by omega
      have hi0' : (0 : Int) ≤ (i : Int) := by omega
      obtain ⟨cn, hcn⟩ : ∃ cn, (K.take i).count k = cn := ⟨_, rfl⟩
      rw [hcn] at hcs hcl ⊢
      have hc0 : (0 : Int) ≤ (cn : Int) := by omega
      have hc1 : (cn : Int) ≤ 1048576 := by omega
      have HFL := Lib.hid hfl
      by_cases hxk : x = k
      · have b1 : (x == k) = true := by simpa using hxk
        rw [if_pos hxk, List.append_nil] at hfs
        rw [if_pos hxk] at hcs
        have HFS := Lib.hid hfs; have HCS := Lib.hid hcs; have HX := Lib.hid hxk
        clear hfs hcs hx hu hcn hxk hfl hcl
        go_wp2
        refine ⟨⟨i + 1, by omega, by go_num, by rw [HCS.out]; go_num, ?_, hbw⟩, by simp [intOf]; omega⟩
        rw [HFS.out]; exact HO.out
      · have b1 : (x == k) = false := by simpa using hxk
        rw [if_neg hxk] at hfs
        rw [if_neg hxk, Nat.add_zero] at hcs
        have HFS := Lib.hid hfs; have HCS := Lib.hid hcs
        have ho2 := HO.out.alloc (.cells #[.int .i64 x] 3)
        have HO3 := Lib.hid ho2
        clear hfs hcs hx hu hcn hxk hfl hcl ho2
        go_wp2_with (
          at_builtin
          refine wpList_append_any _ rfl (.tmp 42) (.tmp 47) 31 rfl w2.heap.size 3 i0 _ 1 8 Try.underlying31 hi0 hz0 hz1 hz2 rfl (by omega) _ ((K.take i).filter (fun y => !decide (y = k))).length _ rfl HO3.out (wr.heap.size + 1) (some ⟨wr.heap.size, 0, none⟩) 1 1 [.int .i64 x] rfl (Reads.one_new _ _ _) (by intro u hu; rw [List.mem_singleton.1 hu]; rfl) (by have := HFL.out; simp only [maxLen]; omega) (by have := HFL.out; omega) (by rw [World.size_alloc]; omega) ?_
          intro v2 wn hown3 hg2 hat2)
        have hb2 : Below w2.heap.size w2 wn := (hbw.alloc hbs _).grown hg2 (by rw [World.size_alloc]; omega) (fun k hk => (HO3.out.lt k hk).1)
        refine ⟨⟨i + 1, by omega, by go_num, by rw [HCS.out]; rfl, ?_, hb2⟩, by simp [intOf]; omega⟩
        rw [HFS.out, List.map_append, List.length_append]
        exact hown3
    · obtain rfl : i = K.length := by omega
      rw [List.take_of_length_le (Nat.le_refl _)] at HO ⊢
      rw [← HDR.out] at HO ⊢
      have hni : ¬ ((K.length : Int) < (K.length : Int)) := by omega
      obtain ⟨cn, hcn⟩ : ∃ cn, K.count k = cn := ⟨_, rfl⟩
      obtain ⟨tt, htt⟩ : ∃ tt, aHas L k = tt := ⟨_, rfl⟩
      have hcv := HCT.out
      rw [hcn, htt] at hcv
      have q1 : ((cn : Int) == 1) = tt := by
        rw [hcv]; cases tt <;> rfl
      have q2 : ¬ ((1 : Int) < (cn : Int)) := by
        rw [hcv]; cases tt <;> decide
      have q3 : ((K.length : Int) != (K.length : Int)) = false := by simp
      have q4 : (tt != tt) = false := by simp
      have q5 : ¬ ((!tt) = tt) := by cases tt <;> simp
      have ho := HO2.out.below hbw
      have hb3 : Below w.heap.size w wr := hb2'.trans (hbw.mono hs2)
      rw [hcn, htt]
      clear HW HDR HCT hcn hcv
      obtain ⟨D, hD⟩ : ∃ D, aDrop L k = D := ⟨_, rfl⟩
      rw [hD] at HO ⊢
      obtain ⟨R, hR⟩ : ∃ R, aKeysInt false D = R := ⟨_, rfl⟩
      rw [hR] at HO ⊢
      have hRl : R.length ≤ 1048576 := by
        have h1 := keys_le false D
        have h2 : D.length ≤ L.length := by rw [← hD]; exact List.length_filter_le ..
        rw [hR] at h1; omega
      have hDk : aHas D k = false := by rw [← hD]; exact drop_has
      have hDo : KOk D := by rw [← hD]; exact HKO.out.drop
      have hpm : aPins L k ≤ 1048576 := HPL.out.pins
      have e1 := touch_add (k := k) HKO.out
      have e2 := touch_pins (k := k) HKO.out
      have e3 : aHas (aTouch L k) k = tt := touch_has.trans htt
      rw [hD] at e1
      obtain ⟨p, hp⟩ : ∃ p, aPins L k = p := ⟨_, rfl⟩
      rw [hp] at e1 e2 hpm ⊢
      have E1 := Lib.hid e1; have E2 := Lib.hid e2; have E3 := Lib.hid e3; have HTT := Lib.hid htt; have HDK := Lib.hid hDk; have HDO := Lib.hid hDo; have HRR := Lib.hid hR
      clear e1 e2 e3 htt hDk hDo hR hD hp
      go_wp2_with fail
      refine (lenRInt ho).mono ?_
      rintro e w4 ⟨rfl, rfl⟩
      go_wp2_with fail
      refine (touchInt ho HK.out).mono ?_
      rintro e w4 ⟨rfl, ⟨F4, ho4, _⟩, hk4⟩
      have hr4 := row_keeps HO.out ho hk4
      have hb4 : Below w.heap.size w w4 := hb3.trans (hk4.below (fun x hx => (ho.lt x hx).1) hb3.size)
      have hs4 := hb4.size
      rw [HTT.out]
      clear hk4 ho HO hb3
      go_wp2_with fail
      refine (pinsRInt ho4 HK.out).mono ?_
      rintro e w5 ⟨rfl, rfl⟩
      rw [E2.out]
      go_wp2_with fail
      refine (addInt ho4 HK.out (by omega) hs4).mono ?_
      rintro e w5 ⟨rfl, ⟨F5, ho5, _, _⟩, hk5⟩
      have hr5 := row_keeps hr4 ho4 hk5
      have hb5 : Below w.heap.size w w5 := hb4.trans (hk5.below (fun x hx => (ho4.lt x hx).1) hs4)
      have hs5 := hb5.size
      rw [E3.out]
      rw [E1.out] at ho5
      clear hk5 ho4 hr4 hb4 hs4 q1 q2 q3 q4
      have HO5 := Lib.hid ho5; have HR5 := Lib.hid hr5
      clear ho5 hr5
      go_wp2_with fail
      refine (allOfInt (HO5.out.keysAre (by omega) 4 false).1 (HO5.out.keysAre (by omega) 4 false).2).mono ?_
      rintro e w6 ⟨v6, rfl, hr6, hb6⟩
      rw [keys_end, HRR.out] at hr6
      have hR6 := row_below HR5.out hb6
      have ho6 := HO5.out.below hb6
      have hb6' : Below w.heap.size w w6 := hb5.trans (hb6.mono hs5)
      obtain ⟨A6, c6, rfl⟩ := own_sliceInt hr6
      have HV6 := Lib.hid hr6; have HR6 := Lib.hid hR6; have HO6 := Lib.hid ho6
      clear hr6 hR6 ho6 hb6 HO5 HR5 hb5 hs5
      have hone : ∀ u ∈ R.map ekInt, u.oneCell' = true := by intro u hu; obtain ⟨y, _, rfl⟩ := List.mem_map.1 hu; rfl
      have HONE := Lib.hid hone; clear hone
      go_wp2_with (first
        | (at_builtin
           refine wpList_append_any _ rfl (.const (.slice none 0 0)) (.tmp 87) 31 rfl w6.heap.size 3 i0 _ 1 8 Try.underlying31 hi0 hz0 hz1 hz2 rfl (by omega) _ 0 [] rfl ⟨rfl, .inl ⟨rfl, rfl⟩⟩ w6.heap.size Ar R.length cr (R.map ekInt) rfl (Reads.of_own HR6.out) HONE.out (by simp only [maxLen]; omega) (by omega) (Nat.le_refl _) ?_
           intro v7 w7 hown7 hg7 hat7
           rw [Nat.zero_add, List.nil_append] at hown7
           have hb7 : Below w6.heap.size w6 w7 := (Below.refl _ _).grown hg7 (Nat.le_refl _) (fun k hk => by cases hk)
           have hs7 := hb7.size
           have hown8 := hown7.alloc (.cells #[.int .i64 k] 3)
           obtain ⟨A7, c7, rfl⟩ := own_sliceInt hown7
           have HOWN := Lib.hid hown8
           clear hown7 hg7 hat7 hown8)
        | (at_builtin
           refine wpList_append_any _ rfl (.tmp 88) (.tmp 90) 31 rfl w6.heap.size 3 i0 _ 1 8 Try.underlying31 hi0 hz0 hz1 hz2 rfl (by omega) _ R.length (R.map ekInt) rfl HOWN.out (w7.heap.size + 1) (some ⟨w7.heap.size, 0, none⟩) 1 1 [.int .i64 k] rfl (Reads.one_new _ _ _) (by intro u hu; rw [List.mem_singleton.1 hu]; rfl) (by simp only [maxLen]; omega) (by omega) (by rw [World.size_alloc]; omega) ?_
           intro v8 w8 hown9 hg8 hat8
           have hb8 : Below w6.heap.size w6 w8 := (hb7.alloc hs7 _).grown hg8 (by rw [World.size_alloc]; omega) (fun k hk => (HOWN.out.lt k hk).1)
           have hown10 : w8.ownsRow w6.heap.size 3 1 v8 (R ++ [k]).length ((R ++ [k]).map ekInt) := by rw [List.map_append, List.length_append]; exact hown9
           obtain ⟨A8, c8, rfl⟩ := own_sliceInt hown10
           have hsm := same_rows HV6.out hown10 hb8 (by rw [List.length_append, List.length_singleton]; omega)
           rw [show (R ++ [k]).length = R.length + 1 from by simp] at hsm
           have ho8 := HO6.out.below hb8
           have hR8 := row_below HR6.out hb8
           have hb8' : Below w.heap.size w w8 := hb6'.trans (hb8.mono hb6'.size)
           have HO8 := Lib.hid ho8; have HR8 := Lib.hid hR8
           clear hown9 hown10 hg8 hat8 hb8 HOWN HO6 HR6 HV6 hb7 hs7 hb6' ho8 hR8))
      refine hsm.mono ?_
      rintro e w9 ⟨rfl, hb9⟩
      have ho9 := HO8.out.below hb9
      have HR9 := Lib.hid (row_below HR8.out hb9)
      have hb9' : Below w.heap.size w w9 := hb8'.trans (hb9.mono hb8'.size)
      clear hsm hb9 HO8 HR8 hb8'
      go_wp2_with fail
      refine (pinInt ho9 HK.out).mono ?_
      rintro e w10 ⟨rfl, ho10, hk10⟩
      rw [end_pinOk HDK.out (by omega)]
      rw [end_pin HDK.out (by omega)] at ho10
      have HR10 := Lib.hid (row_keeps HR9.out ho9 hk10)
      have hb10 : Below w.heap.size w w10 := hb9'.trans (hk10.below (fun x hx => (ho9.lt x hx).1) hb9'.size)
      have HO10 := Lib.hid ho10
      clear HR9 ho9 hk10 ho10 hb9'
      go_wp2_with fail
      refine (pinsRInt HO10.out HK.out).mono ?_
      rintro e w11 ⟨rfl, rfl⟩
      rw [end_pins HDK.out, show ((p + 1 : Nat) : Int) = (p : Int) + 1 from by omega]
      have hp0 : (0 : Int) ≤ (p : Int) := by omega
      have hp1 : (p : Int) ≤ 1048576 := by omega
      go_wp2_with fail
      refine (allOfInt (HO10.out.keysAre (by omega) 4 false).1 (HO10.out.keysAre (by omega) 4 false).2).mono ?_
      rintro e w12 ⟨v12, rfl, hr12, hb12⟩
      rw [keys_end, HRR.out] at hr12
      have hR12 := row_below HR10.out hb12
      have ho12 := HO10.out.below hb12
      have hb12' : Below w.heap.size w w12 := hb10.trans (hb12.mono hb10.size)
      obtain ⟨A12, c12, rfl⟩ := own_sliceInt hr12
      have HV12 := Lib.hid hr12; have HR12 := Lib.hid hR12; have HO12 := Lib.hid ho12
      clear hr12 hR12 ho12 hb12 HO10 HR10 hb10
      go_wp2_with (first
        | (at_builtin
           refine wpList_append_any_g w12 rfl (.const (.slice none 0 0)) (.tmp 111) 31 rfl w12.heap.size 3 i0 _ 1 8 Try.underlying31 hi0 hz0 hz1 hz2 rfl (by omega) _ 0 [] rfl ⟨rfl, .inl ⟨rfl, rfl⟩⟩ w12.heap.size Ar R.length cr (R.map ekInt) rfl (Reads.of_own HR12.out) HONE.out (by simp only [maxLen]; omega) (by omega) (Nat.le_refl _) ?_
           intro v7 w7 hown7 hg7 hat7
           rw [Nat.zero_add, List.nil_append] at hown7
           have hb7 : Below w12.heap.size w12 w7 := (Below.refl _ _).grown hg7 (Nat.le_refl _) (fun k hk => by cases hk)
           have hs7 := hb7.size
           have hown8 := hown7.alloc (.cells #[.int .i64 k] 3)
           obtain ⟨A7, c7, rfl⟩ := own_sliceInt hown7
           have HOWN := Lib.hid hown8
           clear hown7 hg7 hat7 hown8)
        | (at_builtin
           refine wpList_append_any_g _ rfl (.tmp 112) (.tmp 114) 31 rfl w12.heap.size 3 i0 _ 1 8 Try.underlying31 hi0 hz0 hz1 hz2 rfl (by omega) _ R.length (R.map ekInt) rfl HOWN.out (w7.heap.size + 1) (some ⟨w7.heap.size, 0, none⟩) 1 1 [.int .i64 k] rfl (Reads.one_new _ _ _) (by intro u hu; rw [List.mem_singleton.1 hu]; rfl) (by simp only [maxLen]; omega) (by omega) (by rw [World.size_alloc]; omega) ?_
           intro v8 w8 hown9 hg8 hat8
           have hb8 : Below w12.heap.size w12 w8 := (hb7.alloc hs7 _).grown hg8 (by rw [World.size_alloc]; omega) (fun k hk => (HOWN.out.lt k hk).1)
           have hown10 : w8.ownsRow w12.heap.size 3 1 v8 (R ++ [k]).length ((R ++ [k]).map ekInt) := by rw [List.map_append, List.length_append]; exact hown9
           obtain ⟨A8, c8, rfl⟩ := own_sliceInt hown10
           have hsm := same_rows HV12.out hown10 hb8 (by rw [List.length_append, List.length_singleton]; omega)
           rw [show (R ++ [k]).length = R.length + 1 from by simp] at hsm
           have ho8 := HO12.out.below hb8
           have hR8 := row_below HR12.out hb8
           have hb8' : Below w.heap.size w w8 := hb12'.trans (hb8.mono hb12'.size)
           have HO8 := Lib.hid ho8; have HR8 := Lib.hid hR8
           clear hown9 hown10 hg8 hat8 hb8 HOWN HO12 HR12 HV12 hb7 hs7 hb12' ho8 hR8))
      refine hsm.mono ?_
      rintro e w13 ⟨rfl, hb13⟩
      have HO13 := Lib.hid (HO8.out.below hb13)
      have HR13 := Lib.hid (row_below HR8.out hb13)
      have hb13' : Below w.heap.size w w13 := hb8'.trans (hb13.mono hb8'.size)
      clear hsm hb13 HO8 HR8 hb8'
      go_wp2
      have hRm : ∀ x ∈ R, okInt x ∧ aPins (D ++ [(k, p + 1)]) x = aPins D x := fun x hx => by
        rw [← HRR.out, keys_all] at hx
        obtain ⟨y, hy, rfl⟩ := List.mem_map.1 hx
        exact ⟨HO13.out.okk y (List.mem_append_left _ hy), pins_end_ne (aHas_false.1 HDK.out y hy)⟩
      have HRM := Lib.hid hRm; clear hRm
      obtain ⟨f, hf⟩ : ∃ f : Int → Bool, (fun x => decide (aPins D x = 0)) = f := ⟨_, rfl⟩
      have HFE := Lib.hid hf
      clear hf
      go_loopw [12, 13] (fun lv iv wr => ∃ (i : Nat), i ≤ R.length ∧ iv = .int .i64 i ∧ wr.ownsRow w13.heap.size 3 1 lv ((R.take i).filter f).length (((R.take i).filter f).map ekInt) ∧ Below w13.heap.size w13 wr) (fun _ iv _ => R.length - (intOf iv).toNat)
      case atStart => exact ⟨0, by omega, rfl, ⟨rfl, .inl ⟨rfl, rfl⟩⟩, Below.refl _ _⟩
      case round =>
        obtain ⟨i, hi, rfl, hown, hbl⟩ := hrel
        have hbs' := hbl.size
        obtain ⟨Al, cl, rfl⟩ := own_sliceInt hown
        have HL := Lib.hid hown; clear hown
        by_cases hlt : i < R.length
        · obtain ⟨x, hx⟩ : ∃ x, R[i]? = some x := ⟨_, List.getElem?_eq_getElem hlt⟩
          obtain ⟨ad, u, rfl, had, hu, hcell⟩ := ((Reads.of_own HR13.out).below hbl).at_ (k := i) hlt
          obtain rfl : ekInt x = u := by simpa [hx] using hu
          unfold ekInt at hcell
          obtain ⟨hokx, hpx⟩ := HRM.out x (List.mem_of_getElem? hx)
          have hls := loose_snoc f R i x hx
          have hfl : ((R.take i).filter f).length ≤ 1048576 := Nat.le_trans (List.length_filter_le ..) (by rw [List.length_take]; omega)
          have hi1 : (i : Int) < (R.length : Int) := by omega
          have hi0' : (0 : Int) ≤ (i : Int) := by omega
          have hpi := pinsRInt (HO13.out.below hbl) hokx
          rw [hpx] at hpi
          obtain ⟨q, hq⟩ : ∃ q, aPins D x = q := ⟨_, rfl⟩
          have hfx : f x = decide (q = 0) := by rw [← HFE.out]; show decide (aPins D x = 0) = _; rw [hq]
          rw [hq] at hpi
          have HFL := Lib.hid hfl; have HFX := Lib.hid hfx
          clear hfl hx hu hpx hq hfx
          by_cases hq0 : q = 0
          · subst hq0
            rw [if_pos (by rw [HFX.out]; rfl)] at hls
            have HLS := Lib.hid hls
            have ho2 := HL.out.alloc (.cells #[.int .i64 x] 3)
            have HL2 := Lib.hid ho2
            clear hls ho2
            rw [show (((0 : Nat) : Int)) = 0 from rfl] at hpi
            go_wp2_with fail
            refine hpi.mono ?_
            rintro e w15 ⟨rfl, rfl⟩
            go_wp2_with (
              at_builtin
              refine wpList_append_any _ rfl (.tmp 132) (.tmp 137) 31 rfl w13.heap.size 3 i0 _ 1 8 Try.underlying31 hi0 hz0 hz1 hz2 rfl (by omega) _ ((R.take i).filter f).length _ rfl HL2.out (wr.heap.size + 1) (some ⟨wr.heap.size, 0, none⟩) 1 1 [.int .i64 x] rfl (Reads.one_new _ _ _) (by intro u hu; rw [List.mem_singleton.1 hu]; rfl) (by have := HFL.out; simp only [maxLen]; omega) (by have := HFL.out; omega) (by rw [World.size_alloc]; omega) ?_
              intro v2 wn hown3 hg2 hat2)
            have hb2 : Below w13.heap.size w13 wn := (hbl.alloc hbs' _).grown hg2 (by rw [World.size_alloc]; omega) (fun k hk => (HL2.out.lt k hk).1)
            refine ⟨⟨i + 1, by omega, by go_num, ?_, hb2⟩, by simp [intOf]; omega⟩
            rw [HLS.out, List.map_append, List.length_append]
            exact hown3
          · have bz : ((q : Int) == 0) = false := by simp; exact hq0
            rw [if_neg (by rw [HFX.out]; simpa using hq0), List.append_nil] at hls
            have HLS := Lib.hid hls
            clear hls
            go_wp2_with fail
            refine hpi.mono ?_
            rintro e w15 ⟨rfl, rfl⟩
            go_wp2
            refine ⟨⟨i + 1, by omega, by go_num, ?_, hbl⟩, by simp [intOf]; omega⟩
            rw [HLS.out]; exact HL.out
        · obtain rfl : i = R.length := by omega
          rw [List.take_of_length_le (Nat.le_refl _)] at HL ⊢
          have hU : R.filter f = aKeysInt true D := by rw [← HFE.out, ← HRR.out]; exact loose_eq HDO.out
          have hUl : (R.filter f).length ≤ R.length := List.length_filter_le ..
          rw [hU] at HL hUl ⊢
          clear hU
          have ho := HO13.out.below hbl
          have hbr : Below w.heap.size w wr := hb13'.trans (hbl.mono hb13'.size)
          have hold := oldestInt ho (by omega)
          have hfr : ∀ w1, Below wr.heap.size wr w1 → Calls Try.prog 49 #[.pointer (some ⟨o, 0, none⟩)] w1 fun e w' => ∃ v, e = .returned v ∧ w'.ownsRow w1.heap.size 3 1 v (aKeysInt true (D ++ [(k, p + 1)])).length ((aKeysInt true (D ++ [(k, p + 1)])).map ekInt) ∧ Below w1.heap.size w1 w' := fun w1 hb => freeOfInt ((ho.below hb).keysAre (by omega) 4 true).1 ((ho.below hb).keysAre (by omega) 4 true).2
          rw [keys_free_end] at hold
          rw [keys_free_end] at hfr
          have hni : ¬ ((R.length : Int) < (R.length : Int)) := by omega
          cases hU : aKeysInt true D with
          | nil =>
            rw [hU] at HL hfr hold hUl
            have hold' : oldVInt ([] : List Int).head? = .tuple #[.int .i64 0, .bool false] := rfl
            rw [hold'] at hold
            clear hold' hU
            go_wp2_with fail
            refine hold.mono ?_
            rintro e w20 ⟨rfl, hb20⟩
            clear hold
            go_wp2_with fail
            refine (hfr w20 hb20).mono ?_
            rintro e w21 ⟨v21, rfl, hr21, hb21⟩
            have hb21' : Below wr.heap.size wr w21 := hb20.trans (hb21.mono hb20.size)
            have hsm := same_rows (w1 := w20) (w2 := w21) (w3 := w13) (w4 := w21) hr21 (row_below HL.out hb21') (Below.refl _ _) (by simp)
            obtain ⟨A21, c21, rfl⟩ := own_sliceInt hr21
            clear hr21 hfr
            go_wp2_with fail
            refine hsm.mono ?_
            rintro e w22 ⟨rfl, hb22⟩
            have hb22' : Below wr.heap.size wr w22 := hb21'.trans (hb22.mono hb21'.size)
            have ho22 := ho.below hb22'
            have HR22 := Lib.hid (row_below HR13.out (hbl.trans (hb22'.mono hbs')))
            have hbw22 : Below w.heap.size w w22 := hbr.trans (hb22'.mono hbr.size)
            have HO22 := Lib.hid ho22
            clear ho hsm hb22 hb20 hb21 hb21' hb22' ho22 hbr HL HO13 HR13
            go_wp2_with fail
            refine (dropInt HO22.out HK.out).mono ?_
            rintro e w23 ⟨rfl, ⟨F23, ho23, _⟩, hk23⟩
            rw [end_has]
            rw [end_drop HDK.out] at ho23
            have HR23 := Lib.hid (row_keeps HR22.out HO22.out hk23)
            have hb23 : Below w.heap.size w w23 := hbw22.trans (hk23.below (fun x hx => (HO22.out.lt x hx).1) hbw22.size)
            have HO23 := Lib.hid ho23
            clear HR22 HO22 hk23 ho23 hbw22
            go_wp2_with fail
            refine (dropInt HO23.out HK.out).mono ?_
            rintro e w24 ⟨rfl, ⟨F24, ho24, _⟩, hk24⟩
            rw [HDK.out]
            rw [drop_no HDK.out] at ho24
            have HR24 := Lib.hid (row_keeps HR23.out HO23.out hk24)
            have hb24 : Below w.heap.size w w24 := hb23.trans (hk24.below (fun x hx => (HO23.out.lt x hx).1) hb23.size)
            have HO24 := Lib.hid ho24
            clear HR23 HO23 hk24 ho24 hb23
            go_wp2_with fail
            refine (hasInt HO24.out HK.out).mono ?_
            rintro e w25 ⟨rfl, rfl⟩
            rw [HDK.out]
            go_wp2_with fail
            refine (pinsRInt HO24.out HK.out).mono ?_
            rintro e w25 ⟨rfl, rfl⟩
            rw [pinsNo_row HDK.out, show ((0 : Nat) : Int) = 0 from rfl]
            go_wp2_with fail
            refine (unpinInt HO24.out HK.out).mono ?_
            rintro e w25 ⟨rfl, ho25, hk25⟩
            rw [no_unpinOk HDK.out]
            rw [no_unpin HDK.out] at ho25
            have HR25 := Lib.hid (row_keeps HR24.out HO24.out hk25)
            have hb25 : Below w.heap.size w w25 := hb24.trans (hk25.below (fun x hx => (HO24.out.lt x hx).1) hb24.size)
            have HO25 := Lib.hid ho25
            clear HR24 HO24 hk25 ho25 hb24
            go_wp2_with fail
            refine (allOfInt (HO25.out.keysAre (by omega) 4 false).1 (HO25.out.keysAre (by omega) 4 false).2).mono ?_
            rintro e w26 ⟨v26, rfl, hr26, hb26⟩
            rw [HRR.out] at hr26
            have hsm2 := same_rows (w1 := w25) (w2 := w26) (w3 := w2) (w4 := w26) hr26 (row_below HR25.out hb26) (Below.refl _ _) (by omega)
            have HO26 := Lib.hid (HO25.out.below hb26)
            have hb26' : Below w.heap.size w w26 := hb25.trans (hb26.mono hb25.size)
            obtain ⟨A26, c26, rfl⟩ := own_sliceInt hr26
            clear HO25 HR25 hb25 hb26 hr26
            go_wp2_with fail
            refine hsm2.mono ?_
            rintro e w27 ⟨rfl, hb27⟩
            have HO27 := Lib.hid (HO26.out.below hb27)
            have hb27' : Below w.heap.size w w27 := hb26'.trans (hb27.mono hb26'.size)
            clear HO26 hsm2 hb26' hb27
            go_wp2_with fail
            refine (addInt HO27.out HK.out (by omega) hb27'.size).mono ?_
            rintro e w28 ⟨rfl, ⟨F28, ho28, _, _⟩, hk28⟩
            rw [HDK.out]
            rw [no_add HDK.out] at ho28
            have hb28 : Below w.heap.size w w28 := hb27'.trans (hk28.below (fun x hx => (HO27.out.lt x hx).1) hb27'.size)
            clear HO27 hk28 hb27'
            go_wp2_with fail
            refine (pinsRInt ho28 HK.out).mono ?_
            rintro e w29 ⟨rfl, rfl⟩
            rw [end_pins HDK.out, show ((0 : Nat) : Int) = 0 from rfl]
            have hal := alive_any w28
            clear ho28
            go_wp2_with fail
            refine hal.mono ?_
            rintro e w30 ⟨rfl, hb30⟩
            go_wp2_with fail
            go_ret
            exact ⟨rfl, hb28.trans (hb30.mono hb28.size)⟩
          | cons u us =>
            rw [hU] at HL hfr hold hUl
            have hold' : oldVInt (u :: us).head? = .tuple #[.int .i64 u, .bool true] := rfl
            obtain ⟨z, hz⟩ : ∃ z, (u :: us).length = z := ⟨_, rfl⟩
            have hz1' : (0 : Int) < (z : Int) := by rw [← hz]; simp only [List.length_cons]; omega
            have hzb : z ≤ 1048577 := by rw [← hz]; omega
            obtain ⟨adl, ul, rfl, hadl, hul, hcl⟩ := (Reads.of_own HL.out).at_ (k := 0) (by simp)
            obtain rfl : ekInt u = ul := by simpa using hul
            unfold ekInt at hcl
            have hcl0 : wr.cell? adl = some (.int .i64 u) := by simpa [Addr.add] using hcl
            clear hul hcl
            rw [hz]
            rw [hold'] at hold
            clear hold' hU
            go_wp2_with fail
            refine hold.mono ?_
            rintro e w20 ⟨rfl, hb20⟩
            clear hold
            go_wp2_with fail
            refine (hfr w20 hb20).mono ?_
            rintro e w21 ⟨v21, rfl, hr21, hb21⟩
            have hb21' : Below wr.heap.size wr w21 := hb20.trans (hb21.mono hb20.size)
            have hsm := same_rows (w1 := w20) (w2 := w21) (w3 := w13) (w4 := w21) hr21 (row_below HL.out hb21') (Below.refl _ _) (by rw [hz]; omega)
            obtain ⟨A21, c21, rfl⟩ := own_sliceInt hr21
            clear hr21 hfr
            rw [hz] at hsm ⊢
            go_wp2_with fail
            refine hsm.mono ?_
            rintro e w22 ⟨rfl, hb22⟩
            have hb22' : Below wr.heap.size wr w22 := hb21'.trans (hb22.mono hb21'.size)
            have hcl2 : w22.cell? adl = some (.int .i64 u) := (hb22'.cell (p := adl) hadl).trans hcl0
            have ho22 := ho.below hb22'
            have HR22 := Lib.hid (row_below HR13.out (hbl.trans (hb22'.mono hbs')))
            have hbw22 : Below w.heap.size w w22 := hbr.trans (hb22'.mono hbr.size)
            have HO22 := Lib.hid ho22
            clear ho hsm hb22 hb20 hb21 hb21' hb22' ho22 hbr HL HO13 HR13
            go_wp2_with fail
            refine (dropInt HO22.out HK.out).mono ?_
            rintro e w23 ⟨rfl, ⟨F23, ho23, _⟩, hk23⟩
            rw [end_has]
            rw [end_drop HDK.out] at ho23
            have HR23 := Lib.hid (row_keeps HR22.out HO22.out hk23)
            have hb23 : Below w.heap.size w w23 := hbw22.trans (hk23.below (fun x hx => (HO22.out.lt x hx).1) hbw22.size)
            have HO23 := Lib.hid ho23
            clear HR22 HO22 hk23 ho23 hbw22
            go_wp2_with fail
            refine (dropInt HO23.out HK.out).mono ?_
            rintro e w24 ⟨rfl, ⟨F24, ho24, _⟩, hk24⟩
            rw [HDK.out]
            rw [drop_no HDK.out] at ho24
            have HR24 := Lib.hid (row_keeps HR23.out HO23.out hk24)
            have hb24 : Below w.heap.size w w24 := hb23.trans (hk24.below (fun x hx => (HO23.out.lt x hx).1) hb23.size)
            have HO24 := Lib.hid ho24
            clear HR23 HO23 hk24 ho24 hb23
            go_wp2_with fail
            refine (hasInt HO24.out HK.out).mono ?_
            rintro e w25 ⟨rfl, rfl⟩
            rw [HDK.out]
            go_wp2_with fail
            refine (pinsRInt HO24.out HK.out).mono ?_
            rintro e w25 ⟨rfl, rfl⟩
            rw [pinsNo_row HDK.out, show ((0 : Nat) : Int) = 0 from rfl]
            go_wp2_with fail
            refine (unpinInt HO24.out HK.out).mono ?_
            rintro e w25 ⟨rfl, ho25, hk25⟩
            rw [no_unpinOk HDK.out]
            rw [no_unpin HDK.out] at ho25
            have HR25 := Lib.hid (row_keeps HR24.out HO24.out hk25)
            have hb25 : Below w.heap.size w w25 := hb24.trans (hk25.below (fun x hx => (HO24.out.lt x hx).1) hb24.size)
            have HO25 := Lib.hid ho25
            clear HR24 HO24 hk25 ho25 hb24
            go_wp2_with fail
            refine (allOfInt (HO25.out.keysAre (by omega) 4 false).1 (HO25.out.keysAre (by omega) 4 false).2).mono ?_
            rintro e w26 ⟨v26, rfl, hr26, hb26⟩
            rw [HRR.out] at hr26
            have hsm2 := same_rows (w1 := w25) (w2 := w26) (w3 := w2) (w4 := w26) hr26 (row_below HR25.out hb26) (Below.refl _ _) (by omega)
            have HO26 := Lib.hid (HO25.out.below hb26)
            have hb26' : Below w.heap.size w w26 := hb25.trans (hb26.mono hb25.size)
            obtain ⟨A26, c26, rfl⟩ := own_sliceInt hr26
            clear HO25 HR25 hb25 hb26 hr26
            go_wp2_with fail
            refine hsm2.mono ?_
            rintro e w27 ⟨rfl, hb27⟩
            have HO27 := Lib.hid (HO26.out.below hb27)
            have hb27' : Below w.heap.size w w27 := hb26'.trans (hb27.mono hb26'.size)
            clear HO26 hsm2 hb26' hb27
            go_wp2_with fail
            refine (addInt HO27.out HK.out (by omega) hb27'.size).mono ?_
            rintro e w28 ⟨rfl, ⟨F28, ho28, _, _⟩, hk28⟩
            rw [HDK.out]
            rw [no_add HDK.out] at ho28
            have hb28 : Below w.heap.size w w28 := hb27'.trans (hk28.below (fun x hx => (HO27.out.lt x hx).1) hb27'.size)
            clear HO27 hk28 hb27'
            go_wp2_with fail
            refine (pinsRInt ho28 HK.out).mono ?_
            rintro e w29 ⟨rfl, rfl⟩
            rw [end_pins HDK.out, show ((0 : Nat) : Int) = 0 from rfl]
            have hal := alive_any w28
            clear ho28
            go_wp2_with fail
            refine hal.mono ?_
            rintro e w30 ⟨rfl, hb30⟩
            go_wp2_with fail
            go_ret
            exact ⟨rfl, hb28.trans (hb30.mono hb28.size)⟩
end Go.Proofs.Ytjddjjfcongnlaa
