/- The contract of spindleref01.Hex. -/
import Derived.Test.YtiajmngjhbckjaaHex
import Derived.Test.YtiajmngjhbckjaaStr
import Derived.Deep.RegionHeld3
import Derived.Deep.RegionLaw
namespace Go.Proofs.Ytiajmngjhbckjaa
open Go.RowKit
theorem digit_int (v : Int) (w : World) (h0 : 0 ≤ v) (hv : v < 16) : Calls Try.prog 25 #[.int .u8 v] w fun e w' => e = .returned (.int .u8 (hexd v.toNat : Nat)) ∧ w' = w := by
  obtain ⟨n, rfl⟩ := Int.eq_ofNat_of_zero_le h0
  exact digit_any n w (by omega)
theorem lt_of_cell_block {W : World} {a : Addr} {j : Nat} {v : Value} (h : W.cell? (a.add j) = some v) : a.block < W.heap.size := by
  have := lt_of_cell h
  rwa [block_of_add] at this
theorem Reads.new_list (w : World) (vs : List Value) (e : TypeId) : Reads (w.alloc (.cells vs.toArray e)) (w.heap.size + 1) 1 (some ⟨w.heap.size, 0, none⟩) vs.length vs :=
  ⟨by simp, fun _ => ⟨_, rfl, Nat.lt_succ_self _, fun j u hu => by
    rw [Addr.add_lit, Nat.zero_add]
    exact ((Blk.new w e vs.toArray).cell j).trans (by simpa using hu)⟩⟩
theorem own_slice' {w : World} {base : Nat} {e : TypeId} {size n : Nat} {v : Value} {xs : List Value} (h : w.ownsRow base e size v n xs) : ∃ (A : Option Addr) (c : Nat), v = .slice A n c := by
  rcases h.2 with ⟨rfl, rfl⟩ | ⟨g, cap, cur, rfl, _⟩
  · exact ⟨_, _, rfl⟩
  · exact ⟨_, _, rfl⟩
theorem rhex_any (A : Option Addr) (n c : Nat) (l : List Nat) (B : Nat) (w : World) (h : Reads w B 1 A n (l.map byt)) (hB : B ≤ w.heap.size) (hb : ∀ x ∈ l, x < 256) (hn : n ≤ 1048576) :
    Calls Try.prog 15 #[.slice A n c] w fun e w' => e = .returned (.string ⟨((hexL l).map Nat.toUInt8).toArray⟩) ∧ Below w.heap.size w w' := by
  have hln : l.length = n := by have := h.1; simpa using this
  obtain ⟨i0, hi0, hz0, hz1, hz2⟩ := info_parts info5
  go_enter Try.func15, Try.ntmps15
  go_wp2
  go_loopw [3, 4] (fun v i wr => ∃ (k : Nat), k ≤ n ∧ i = .int .i64 k ∧ wr.ownsRow w.heap.size 5 1 v (hexL (l.take k)).length ((hexL (l.take k)).map byt) ∧ Below w.heap.size w wr) (fun _ i _ => n - (intOf i).toNat)
  case atStart => exact ⟨0, by omega, rfl, ⟨rfl, .inl ⟨rfl, rfl⟩⟩, Below.refl _ _⟩
  case round =>
    obtain ⟨k, hk, rfl, hown, hbw⟩ := hrel
    have hbs := hbw.size
    by_cases hlt : k < n
    · obtain ⟨ad, u, rfl, had, hx, hcell⟩ := (h.below (hbw.mono hB)).at_ hlt
      obtain ⟨b, hbx, rfl⟩ : ∃ b, l[k]? = some b ∧ byt b = u := by simpa using hx
      have hb8 : b < 256 := hb b (List.mem_of_getElem? hbx)
      have hlen : (hexL (l.take k)).length ≤ 2097150 := by rw [hexL_length, List.length_take]; omega
      have hs := hexL_snoc (l.take k) b
      rw [← take_snoc' l k b hbx] at hs
      have HS := Lib.hid hs; clear hs hx hbx
      have e15 := and15 hb8
      have hk0 : (0 : Int) ≤ (k : Int) := by omega
      have hk1 : (k : Int) < (n : Int) := by omega
      go_wp2
      have hadw : ad.block < wr.heap.size := lt_of_cell_block hcell
      have hown2 : ((wr.alloc (.cells #[.int .u8 (hexd ((b : Int) / 16).toNat), .int .u8 (hexd ((b : Int) % 16).toNat)] 5)).drew).ownsRow w.heap.size 5 1 u3 (hexL (l.take k)).length ((hexL (l.take k)).map byt) := by
        have h := hown.alloc (.cells #[.int .u8 (hexd ((b : Int) / 16).toNat), .int .u8 (hexd ((b : Int) % 16).toNat)] 5)
        exact h
      have hrd : Reads ((wr.alloc (.cells #[.int .u8 (hexd ((b : Int) / 16).toNat), .int .u8 (hexd ((b : Int) % 16).toNat)] 5)).drew) (wr.heap.size + 1) 1 (some ⟨wr.heap.size, 0, none⟩) 2 [.int .u8 (hexd ((b : Int) / 16).toNat), .int .u8 (hexd ((b : Int) % 16).toNat)] :=
        Reads.new_list wr [.int .u8 (hexd ((b : Int) / 16).toNat), .int .u8 (hexd ((b : Int) % 16).toNat)] 5
      have hone : ∀ u ∈ [Value.int .u8 (hexd ((b : Int) / 16).toNat), .int .u8 (hexd ((b : Int) % 16).toNat)], u.oneCell' = true := by
        intro u hu; simp at hu; rcases hu with rfl | rfl <;> rfl
      have hbase : w.heap.size ≤ ((wr.alloc (.cells #[.int .u8 (hexd ((b : Int) / 16).toNat), .int .u8 (hexd ((b : Int) % 16).toNat)] 5)).drew).heap.size := by
        have : ((wr.alloc (.cells #[.int .u8 (hexd ((b : Int) / 16).toNat), .int .u8 (hexd ((b : Int) % 16).toNat)] 5)).drew).heap.size = wr.heap.size + 1 := World.size_alloc _ _
        omega
      go_region_held3 (fun w' => w'.cell? (ad.add k) = some (byt b)) (go_keep)
        (first
          | (go_at_call 25; refine (digit_int _ _ (by omega) (by omega)).mono ?_; rintro e w' ⟨rfl, rfl⟩)
          | (refine step_append_any _ rfl (.tmp 11) (.tmp 24) _ rfl w.heap.size 5 i0 _ 1 1 Try.underlying23 hi0 hz0 hz1 hz2 rfl (by omega) _ (hexL (l.take k)).length _ rfl hown2 (wr.heap.size + 1) (some ⟨wr.heap.size, 0, none⟩) 2 2 [.int .u8 (hexd ((b : Int) / 16).toNat), .int .u8 (hexd ((b : Int) % 16).toNat)] rfl hrd hone (by simp only [maxLen]; omega) (by omega) hbase ?_
             intro v1 w1 hown1 hg1 hat1
             have hb1 : Below w.heap.size w w1 := ((hbw.alloc hbs _).drew).grown hg1 hbase (fun k hk => (hown.lt k hk).1)
             have hS1 : w1.cell? (ad.add k) = some (byt b) := (hb1.cell (p := ad.add k) (by rw [block_of_add]; omega)).trans ((hbw.cell (p := ad.add k) (by rw [block_of_add]; omega)).symm.trans hcell)))
      go_wp2
      have hb2 := hb1
      refine ⟨⟨k + 1, by omega, by go_num, ?_, hb1⟩, by simp [intOf]; omega⟩
      rw [HS.out, List.length_append, List.map_append]
      exact hown1
    · obtain rfl : k = n := by omega
      rw [List.take_of_length_le (by omega)] at hown
      obtain ⟨Ao, co, rfl⟩ := own_slice' hown
      have hcv := conv_back (P := Try.prog) (c := co) Try.underlying23 Try.underlying5 Try.underlying9 (Reads.of_own hown) (hexL_lt l hb)
      clear hbs
      go_wp2
      go_ret
      exact ⟨rfl, hbw⟩
end Go.Proofs.Ytiajmngjhbckjaa
