/- The four values of RuleNamed in memory, and the answers. -/
import Derived.Test.YtnnedmkidbokoaaDoorNamedPure
namespace Go.Proofs.YtnnedmkidbokoaaDoor
open Go.RowKit
/-- The four values that the law asks with. -/
def NE (k : Nat) (ro : Bool) : Array Value := #[.string ⟨#[97]⟩, .string ⟨#[]⟩, .int .i64 k, .bool ro, .bool false, .bool false, .bool false, .int .u32 1, .int .u32 512]
def NS (b : Nat) : Array Value := #[.int .i64 0, .bool true, .bool false, .slice (some ⟨b, 0, none⟩) 1 1]
def NL : Array Value := #[.int .u32 1048576, .int .u32 64, .int .i64 1]
def NQ (fg ty off len : Int) : Array Value := #[.int .u16 fg, .int .u16 ty, .int .u64 0, .int .u64 off, .int .u64 len, .slice none 0 0]
structure NW (B : Nat) (k : Nat) (ro : Bool) (fg ty off len : Int) (w wr : World) : Prop where
  tab : Tab wr
  size : B + 4 < wr.heap.size
  bel : Below B w wr
  e : wr.heap[B]? = some (.cells (NE k ro) 27)
  s : wr.heap[B + 1 + 1]? = some (.cells (NS (B + 1)) 30)
  l : wr.heap[B + 1 + 1 + 1]? = some (.cells NL 32)
  q : wr.heap[B + 1 + 1 + 1 + 1]? = some (.cells (NQ fg ty off len) 36)
theorem NW.next {B k : Nat} {ro : Bool} {fg ty off len : Int} {w wr w2 : World} (h : NW B k ro fg ty off len w wr) (hb : Below wr.heap.size wr w2) : NW B k ro fg ty off len w w2 := by
  have hs := hb.size
  have h5 := h.size
  exact ⟨h.tab.below h.tab.1 hb, by omega, h.bel.trans (hb.mono (by omega)), (hb.block _ (by omega)).trans h.e, (hb.block _ (by omega)).trans h.s, (hb.block _ (by omega)).trans h.l, (hb.block _ (by omega)).trans h.q⟩
theorem heap_set {w : World} {b i : Nat} {cs : Array Value} {t : TypeId} (h : w.heap[b]? = some (.cells cs t)) (v : Value) : (w.setCell ⟨b, i, none⟩ v).heap[b]? = some (.cells (cs.setIfInBounds i v) t) := by
  simp [World.setCell, Array.getElem?_modify, h]
theorem heap_far {w : World} {b c i : Nat} (hne : c ≠ b) (v : Value) : (w.setCell ⟨b, i, none⟩ v).heap[c]? = w.heap[c]? := by
  simp [World.setCell, Array.getElem?_modify]; omega
theorem NW.setRo {B k : Nat} {ro ro' : Bool} {fg ty off len : Int} {w wr : World} (h : NW B k ro fg ty off len w wr) (hB : 0 < B) : NW B k ro' fg ty off len w (wr.setCell ⟨B, 3, none⟩ (.bool ro')) := by
  have h5 := h.size
  refine ⟨h.tab.below hB ((Below.refl B wr).setCell (p := ⟨B, 3, none⟩) (Nat.le_refl _) _), by simpa [World.setCell] using h5, h.bel.setCell (p := ⟨B, 3, none⟩) (Nat.le_refl _) _, ?_, (heap_far (by omega) _).trans h.s, (heap_far (by omega) _).trans h.l, (heap_far (by omega) _).trans h.q⟩
  exact heap_set h.e _
theorem NW.setLen {B k : Nat} {ro : Bool} {fg ty off len len' : Int} {w wr : World} (h : NW B k ro fg ty off len w wr) (hB : 0 < B) : NW B k ro fg ty off len' w (wr.setCell ⟨B + 1 + 1 + 1 + 1, 4, none⟩ (.int .u64 len')) := by
  have h5 := h.size
  refine ⟨h.tab.below hB ((Below.refl B wr).setCell (p := ⟨B + 1 + 1 + 1 + 1, 4, none⟩) (by simp; omega) _), by simpa [World.setCell] using h5, h.bel.setCell (p := ⟨B + 1 + 1 + 1 + 1, 4, none⟩) (by simp; omega) _, (heap_far (by omega) _).trans h.e, (heap_far (by omega) _).trans h.s, (heap_far (by omega) _).trans h.l, ?_⟩
  exact heap_set h.q _
theorem alloc_old {w : World} (o : Obj) {b : Nat} (h : b < w.heap.size) : (w.alloc o).heap[b]? = w.heap[b]? := Below.heap_alloc w o b h
theorem NW.new {k : Nat} {fg ty off len : Int} {w : World} (hT : Tab w) : NW w.heap.size k false fg ty off len w (((((w.alloc (.cells (NE k false) 27)).alloc (.cells #[.int .u32 1] 25)).alloc (.cells (NS (w.heap.size + 1)) 30)).alloc (.cells NL 32)).alloc (.cells (NQ fg ty off len) 36)) := by
  have hz := hT.1
  have hb := (((((Below.refl w.heap.size w).alloc (Nat.le_refl _) (.cells (NE k false) 27)).alloc (by simp) (.cells #[.int .u32 1] 25)).alloc (by simp; omega) (.cells (NS (w.heap.size + 1)) 30)).alloc (by simp; omega) (.cells NL 32)).alloc (by simp; omega) (.cells (NQ fg ty off len) 36)
  refine ⟨hT.below hz hb, by simp, hb, ?_, ?_, ?_, ?_⟩
  · rw [alloc_old _ (by simp; omega), alloc_old _ (by simp; omega), alloc_old _ (by simp; omega), alloc_old _ (by simp)]
    exact heap_alloc_new' w _
  · rw [alloc_old _ (by simp), alloc_old _ (by simp)]
    have := heap_alloc_new' ((w.alloc (.cells (NE k false) 27)).alloc (.cells #[.int .u32 1] 25)) (.cells (NS (w.heap.size + 1)) 30)
    simpa using this
  · rw [alloc_old _ (by simp)]
    have := heap_alloc_new' (((w.alloc (.cells (NE k false) 27)).alloc (.cells #[.int .u32 1] 25)).alloc (.cells (NS (w.heap.size + 1)) 30)) (.cells NL 32)
    simpa using this
  · have := heap_alloc_new' ((((w.alloc (.cells (NE k false) 27)).alloc (.cells #[.int .u32 1] 25)).alloc (.cells (NS (w.heap.size + 1)) 30)).alloc (.cells NL 32)) (.cells (NQ fg ty off len) 36)
    simpa using this
/-- The three answers. -/
theorem fast_six {f t : Nat} (h : okFlags f t = true) : (hasB f 16 = false) ∨ t = 6 := by
  simp only [okFlags, Bool.and_eq_true, Bool.or_eq_true, Bool.not_eq_true', beq_iff_eq] at h
  exact h.2
theorem got_v {k f t : Nat} {ro : Bool} {off len : Int} (hk1 : 1 ≤ k) (hk2 : k ≤ 1000) (hok : okFlags f t = true) (h3 : (t : Int) = 3 → off = 0 ∧ len = 0) (hn : (t : Int) ≠ 3 → off = (k : Int) * 512 - 512 ∧ len = 512) :
    chk k ro true false 1 1048576 f t off len 1 = if (chgF t && ro) = true then 1 else if fastF f = true then 95 else 0 := by
  have hf := fast_six hok
  by_cases e3 : (t : Int) = 3
  · obtain ⟨rfl, rfl⟩ := h3 e3
    have hfa : fastF f = false := by
      rcases hf with h | h
      · simp [fastF, h]
      · omega
    have hc : (chgF t && ro) = false := by rw [e3]; rfl
    rw [named_any hk1 hk2 hok (by omega) (by omega) (by omega), if_neg (by omega), if_pos e3, hfa, hc]; rfl
  · obtain ⟨rfl, rfl⟩ := hn e3
    rw [named_any hk1 hk2 hok (by omega) (by omega) (by omega)]
    by_cases e2 : (t : Int) = 2
    · have hfa : fastF f = false := by
        rcases hf with h | h
        · simp [fastF, h]
        · omega
      have hc : (chgF t && ro) = false := by rw [e2]; rfl
      rw [if_pos e2, hfa, hc]; rfl
    · rw [if_neg e2, if_neg e3]
      by_cases hp : (chgF t && ro) = true
      · rw [if_pos hp, if_pos hp]
      · rw [if_neg hp, if_neg hp, if_neg (by omega), if_neg (by omega)]
        have e : (fastF f = true ∨ (hasB f 16 = true ∧ (((k : Int) * 512 - 512) % 512 ≠ 0 ∨ (512 : Int) % 512 ≠ 0))) ↔ fastF f = true := by
          constructor
          · rintro (h | ⟨_, h | h⟩)
            · exact h
            · omega
            · omega
          · exact .inl
        simp only [e]
theorem out_v {k f t : Nat} {off len : Int} (ht : t < 8) (hk1 : 1 ≤ k) (hk2 : k ≤ 1000) (hok : okFlags f t = true) (h3 : (t : Int) = 3 → off = 0) (hn : (t : Int) ≠ 3 → off = (k : Int) * 512 - 512) (hl : 512 < len) (hl2 : len ≤ 2000) :
    chk k false true false 1 1048576 f t off len 1 = if (t : Int) = 1 ∨ (t : Int) = 6 then 28 else if (t : Int) = 2 then 0 else 22 := by
  by_cases e3 : (t : Int) = 3
  · obtain rfl := h3 e3
    rw [named_any hk1 hk2 hok (by omega) (by omega) (by omega), if_neg (by omega), if_pos e3, if_pos (by simp [movedB]; omega), if_neg (by omega), if_neg (by omega)]
  · obtain rfl := hn e3
    rw [named_any hk1 hk2 hok (by omega) (by omega) (by omega)]
    by_cases e2 : (t : Int) = 2
    · rw [if_pos e2, if_neg (by omega), if_pos e2]
    · rw [if_neg e2, if_neg e3, if_neg (by simp), if_neg (by omega), if_pos (by omega), be_nat t ht]
      by_cases e1 : (t : Int) = 1 ∨ (t : Int) = 6
      · rw [if_pos e1, if_pos e1]
      · rw [if_neg e1, if_neg e1, if_neg (by omega), if_neg e2]
theorem bad_22 {k : Nat} {ro : Bool} {fg ty off len : Int} (h : 7 < ty ∨ hasB fg (bits .xor .u16 IntKind.u16.max (bits .or .u16 (fl ty) 0)) = true) : chk k ro true false 1 1048576 fg ty off len 1 = 22 := by
  have e1 : chk k ro true false 1 1048576 fg ty off len 1 = chk0 k ro true 0 1 1048576 fg ty off len 1 := rfl
  rw [e1, chk0, if_pos]
  rcases h with h | h
  · simp [bad1]; omega
  · simp [bad1, h]
end Go.Proofs.YtnnedmkidbokoaaDoor
