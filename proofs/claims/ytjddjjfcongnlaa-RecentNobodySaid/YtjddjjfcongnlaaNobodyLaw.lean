/- The law RecentNobody: the walk. -/
import Derived.Test.YtjddjjfcongnlaaNobody
import Derived.Test.YtjddjjfcongnlaaApart
namespace Go.Proofs.Ytjddjjfcongnlaa
open Go.RowKit Go.Maps
def Nob (w : World) (B : Nat) (a : Option Addr) (d : Nat) : Prop := NilO w a ∧ ∃ v, IsDoc w B d false [] v
theorem Nob.below {w w' : World} {B d : Nat} {a : Option Addr} (h : Nob w B a d) (hb : Below w.heap.size w w') : Nob w' B a d := ⟨h.1.below hb, h.2.elim fun v hv => ⟨v, hv.below hb⟩⟩
theorem nob_play {w : World} {B d : Nat} {a : Option Addr} {k : Int} (h : Nob w B a d) (hB : B ≤ w.heap.size) (j : Int) (hk : okInt k) :
    Calls Try.prog 26 #[.pointer a, .pointer (some ⟨d, 0, none⟩), .agg #[.int .i64 j, .int .i64 k]] w fun e w' => e = .returned (.bool true) ∧ Nob w' B a d ∧ Below B w w' := by
  obtain ⟨hn, v, hd⟩ := h
  refine (nplay_any hn hd hB j hk).mono ?_
  rintro e w' ⟨rfl, h1, v', h2, h3⟩
  refine ⟨rfl, ⟨h1, v', h2⟩, h3.below (fun x hx => ?_) hB⟩
  unfold FD at hx
  rcases List.mem_cons.1 hx with rfl | hx
  · exact hd.base
  · exact (hd.row.lt x (by simpa using hx)).1
theorem nob_told {w : World} {B d : Nat} {a : Option Addr} {k : Int} (h : Nob w B a d) (hk : okInt k) :
    Calls Try.prog 31 #[.pointer a, .pointer (some ⟨d, 0, none⟩), .int .i64 k] w fun e w' => e = .returned (.bool true) ∧ Below w.heap.size w w' := by
  obtain ⟨hn, v, hd⟩ := h
  exact told_any (tells_n hn hk) (tells_d hd List.Pairwise.nil (by simp)) (by simp)
set_option maxRecDepth 20000 in
set_option maxHeartbeats 4000000 in
theorem nobodyLaw_any (A : Option Addr) (m c : Nat) (l : List (Int × Int)) (b : Bool) (w : World) (hl : l.length = m) (h : Acts w A l) (hok : okActs l) (hm : m ≤ 8796093022207) :
    Calls Try.prog 11 #[.slice A m c, .bool b] w fun e w' => e = .returned (.bool true) ∧ Below w.heap.size w w' := by
  have hat : ∀ i, i < m → ∃ ad j q, A = some ad ∧ okInt q ∧ ∀ w3, Below w.heap.size w w3 → w3.cell? (ad.add (i * 2)) = some (.int .i64 j) ∧ w3.cell? ⟨(ad.add (i * 2)).block, (ad.add (i * 2)).off + 1, none⟩ = some (.int .i64 q) := fun i hi => by
    obtain ⟨ad, j, q, e, hm, hr⟩ := acts_at h (i := i) (by omega)
    exact ⟨ad, j, q, e, (hok _ hm).2, hr⟩
  have HA := Lib.hid hat
  clear h hok hl hat
  cases b with
  | false =>
    have hNob : Nob (w.alloc (.cells #[.bool false, .slice none 0 0] 42)) w.heap.size none w.heap.size := ⟨.inl rfl, _, doc_new (Nat.le_refl _) false⟩
    have hB0 : Below w.heap.size w (w.alloc (.cells #[.bool false, .slice none 0 0] 42)) := by
      first
        | exact (Below.refl _ _).alloc (Nat.le_refl _) _
        | exact ((Below.refl _ _).alloc (Nat.le_refl _) _).alloc (by simp) _
    have HN := Lib.hid hNob; have HB := Lib.hid hB0
    clear hNob hB0
    go_enter Try.func11, Try.ntmps11
    go_wp2
    try simp only [World.size_alloc]
    generalize (w.alloc (.cells #[.bool false, .slice none 0 0] 42)) = W at *
    go_loopw [7] (fun iv wr => ∃ (i : Nat), i ≤ m ∧ iv = .int .i64 i ∧ Hid (Nob wr w.heap.size none (w.heap.size)) ∧ Below w.heap.size w wr) (fun iv _ => m - (intOf iv).toNat)
    case atStart => exact ⟨0, by omega, rfl, HN, HB.out⟩
    case round =>
      clear HN HB
      obtain ⟨i, hi, rfl, hn, hbw⟩ := hrel
      have hs := hbw.size
      have hk0 : (0 : Int) ≤ (i : Int) := by omega
      by_cases hlt : i < m
      · obtain ⟨ad, j, q, rfl, hq, hr⟩ := HA.out i hlt
        obtain ⟨c0, c1⟩ := hr wr hbw
        have hk1 : (i : Int) < (m : Int) := by omega
        have hp := nob_play hn.out hs j hq
        have HR := Lib.hid hr; have HQ := Lib.hid hq
        clear hr hq
        go_wp2_with fail
        refine hp.mono ?_
        rintro e w3 ⟨rfl, hn3, hb3⟩
        have hb3' : Below w.heap.size w w3 := hbw.trans hb3
        have hs3 := hb3'.size
        obtain ⟨_, z1⟩ := HR.out w3 hb3'
        have hto := nob_told hn3 HQ.out
        have HN3 := Lib.hid hn3
        clear hp hn3 c0 c1
        go_wp2_with fail
        refine hto.mono ?_
        rintro e wa ⟨rfl, hba⟩
        have hba' : Below w.heap.size w wa := hb3'.trans (hba.mono hs3)
        have HNa := Lib.hid (HN3.out.below hba)
        clear hto z1
        go_wp2_with fail
        refine ⟨⟨i + 1, by omega, by go_num, HNa, hba'⟩, by simp [intOf]; omega⟩
      · have hn' : ¬ ((i : Int) < (m : Int)) := by omega
        have hle := nlen hn.out.1
        have hal := alive_any wr
        go_wp2_with fail
        refine hle.mono ?_
        rintro e w4 ⟨rfl, rfl⟩
        go_wp2_with fail
        refine hal.mono ?_
        rintro e w4 ⟨rfl, hb4⟩
        go_wp2_with fail
        go_ret
        exact ⟨rfl, hbw.trans (hb4.mono hs)⟩
  | true =>
    have hNob : Nob ((w.alloc (.cells #[.map none, .pointer none, .pointer none] 70)).alloc (.cells #[.bool false, .slice none 0 0] 42)) w.heap.size (some ⟨w.heap.size, 0, none⟩) (w.heap.size + 1) := ⟨.inr ⟨_, rfl, (Blk.new w 70 _).alloc _⟩, _, by have h := doc_new (w := w.alloc (.cells #[.map none, .pointer none, .pointer none] 70)) (B := w.heap.size) (by simp) false; rw [World.size_alloc] at h; exact h⟩
    have hB0 : Below w.heap.size w ((w.alloc (.cells #[.map none, .pointer none, .pointer none] 70)).alloc (.cells #[.bool false, .slice none 0 0] 42)) := by
      first
        | exact (Below.refl _ _).alloc (Nat.le_refl _) _
        | exact ((Below.refl _ _).alloc (Nat.le_refl _) _).alloc (by simp) _
    have HN := Lib.hid hNob; have HB := Lib.hid hB0
    clear hNob hB0
    go_enter Try.func11, Try.ntmps11
    go_wp2
    try simp only [World.size_alloc]
    generalize ((w.alloc (.cells #[.map none, .pointer none, .pointer none] 70)).alloc (.cells #[.bool false, .slice none 0 0] 42)) = W at *
    go_loopw [7] (fun iv wr => ∃ (i : Nat), i ≤ m ∧ iv = .int .i64 i ∧ Hid (Nob wr w.heap.size (some ⟨w.heap.size, 0, none⟩) ((w.heap.size + 1))) ∧ Below w.heap.size w wr) (fun iv _ => m - (intOf iv).toNat)
    case atStart => exact ⟨0, by omega, rfl, HN, HB.out⟩
    case round =>
      clear HN HB
      obtain ⟨i, hi, rfl, hn, hbw⟩ := hrel
      have hs := hbw.size
      have hk0 : (0 : Int) ≤ (i : Int) := by omega
      by_cases hlt : i < m
      · obtain ⟨ad, j, q, rfl, hq, hr⟩ := HA.out i hlt
        obtain ⟨c0, c1⟩ := hr wr hbw
        have hk1 : (i : Int) < (m : Int) := by omega
        have hp := nob_play hn.out hs j hq
        have HR := Lib.hid hr; have HQ := Lib.hid hq
        clear hr hq
        go_wp2_with fail
        refine hp.mono ?_
        rintro e w3 ⟨rfl, hn3, hb3⟩
        have hb3' : Below w.heap.size w w3 := hbw.trans hb3
        have hs3 := hb3'.size
        obtain ⟨_, z1⟩ := HR.out w3 hb3'
        have hto := nob_told hn3 HQ.out
        have HN3 := Lib.hid hn3
        clear hp hn3 c0 c1
        go_wp2_with fail
        refine hto.mono ?_
        rintro e wa ⟨rfl, hba⟩
        have hba' : Below w.heap.size w wa := hb3'.trans (hba.mono hs3)
        have HNa := Lib.hid (HN3.out.below hba)
        clear hto z1
        go_wp2_with fail
        refine ⟨⟨i + 1, by omega, by go_num, HNa, hba'⟩, by simp [intOf]; omega⟩
      · have hn' : ¬ ((i : Int) < (m : Int)) := by omega
        have hle := nlen hn.out.1
        have hal := alive_any wr
        go_wp2_with fail
        refine hle.mono ?_
        rintro e w4 ⟨rfl, rfl⟩
        go_wp2_with fail
        refine hal.mono ?_
        rintro e w4 ⟨rfl, hb4⟩
        go_wp2_with fail
        go_ret
        exact ⟨rfl, hbw.trans (hb4.mono hs)⟩
end Go.Proofs.Ytjddjjfcongnlaa
