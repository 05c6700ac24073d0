/- The contract of octet.Quote. -/
import Derived.Test.YtiajmngjhbckjaaBuilderK
import Derived.Test.YtiajmngjhbckjaaHex
import Derived.Test.YtiajmngjhbckjaaRunePure
import Derived.Test.YtiajmngjhbckjaaUnhexDoc
namespace Go.Proofs.Ytiajmngjhbckjaa
open Go.RowKit
theorem isBuilderF_below {T e : TypeId} {B b : Nat} {bs : List Value} {w w' : World} (h : Lib.IsBuilderF T e B b bs w) (hb : Below w.heap.size w w') : Lib.IsBuilderF T e B b bs w' := by
  have one : ∀ p, Lib.BuilderAtF T e B b p bs w → Lib.BuilderAtF T e B b p bs w' := by
    intro p h
    have hlt := h.lt
    obtain ⟨hB, v, hbk, hown, hne⟩ := h
    exact ⟨hB, v, (hb.block b hlt).trans hbk, hown.kept (row := none) ⟨hb.os, hb.tape, hb.output, hb.size, fun k hk _ => hb.block k hk⟩ (by cases hv : v.ownBlock <;> simp), hne⟩
  exact h.elim (fun x => .inl (one _ x)) (fun x => .inr (one _ x))
/-- Where the range stands: the builder holds what has come; the iterator's block. -/
def QState (w : World) (k : Nat) (s : ByteArray) (pos : Nat) (acc : List UInt8) (wr : World) : Prop :=
  Lib.IsBuilderF 47 5 w.heap.size w.heap.size (Lib.byteCells acc) wr ∧ wr.heap[k]? = some (.stringIter s pos) ∧ Below w.heap.size w wr
theorem hexOne (b : Nat) (_ : b < 256) : (⟨((hexL [b]).map Nat.toUInt8).toArray⟩ : ByteArray) = ⟨#[hx8 (b / 16), hx8 (b % 16)]⟩ := by
  have e : ∀ v, (hexd v).toUInt8 = hx8 v := by
    intro v
    unfold hexd hx8
    split <;> rfl
  simp only [hexL, List.flatMap_cons, List.flatMap_nil, List.append_nil, List.map_cons, List.map_nil, e]
theorem cells_mark (r : Int) : Lib.byteCells (92 :: Lib.encodeRune r) = [Value.int .u8 92] ++ Lib.runeCells r := by rw [← Lib.byteCells_encodeRune]; rfl
theorem hexOne_reads (w : World) (b : Nat) : Reads (w.alloc (.cells #[.int .u8 b] 5)) (w.heap.size + 1) 1 (some ⟨w.heap.size, 0, none⟩) 1 ([b].map byt) := Reads.new_list w [.int .u8 b] 5
set_option maxHeartbeats 4000000 in
set_option maxRecDepth 100000 in
theorem quote_any (s : ByteArray) (w : World) (hs : s.size ≤ 8388608) :
    Calls Try.prog 19 #[.string s] w fun e w' => e = .returned (.string ⟨(quoteL s.data.toList).toArray⟩) ∧ Below w.heap.size w w' := by
  have hsl := size_toList s
  go_enter Try.func19, Try.ntmps19
  go_wp2_with fail
  refine (Builder_WriteByte_k w.heap.size w.heap.size [] 34 _ (Lib.IsBuilderF.of (Lib.fresh_isBuilder 47 5 w)) (by simp) (by simp)).mono ?_
  rintro e w1 ⟨rfl, h1, hb1, hk1⟩
  have hs1 := hb1.size
  have hb01 : Below w.heap.size w w1 := ((Below.refl _ w).alloc (Nat.le_refl _) _).trans hb1
  have hs01 := hb01.size
  have hlt1 : w.heap.size < w1.heap.size := h1.lt
  go_wp2
  go_loopw [] (fun wr => ∃ (pos : Nat) (acc : List UInt8), QState w w1.heap.size s pos acc wr ∧ acc ++ (quoteB (s.data.toList.drop pos) ++ [34]) = quoteL s.data.toList ∧ pos ≤ s.size ∧ acc.length ≤ 4 * pos + 1) (fun wr => s.size - wr.iterPos w1.heap.size)
  case atStart =>
    refine ⟨0, [34], ⟨Lib.IsBuilderF.alloc (Or.inr h1) _, World.iter_heap w1 s 0, hb01.alloc hs01 _⟩, rfl, by omega, by simp⟩
  case round =>
    obtain ⟨pos, acc, ⟨hI, hit, hbw⟩, hacc, hps, hal⟩ := hrel
    have hsz : w1.heap.size < wr.heap.size := (Array.getElem?_eq_some_iff.1 hit).1
    have HACC := Lib.hid hacc; clear hacc
    by_cases hp : pos < s.size
    · have hnx : ∀ ty, (Instr.next (.pointer (some ⟨w1.heap.size, 0, none⟩)) true ty).run Try.prog wr = _ := fun ty => Lib.run_next_any_at wr w1.heap.size s pos ty hit hp
      have hdl : (s.data.toList.drop pos).length = s.size - pos := by rw [List.length_drop, hsl]
      have hne : s.data.toList.drop pos ≠ [] := by intro e; rw [e] at hdl; simp at hdl; omega
      have hstep := quoteB_step _ hne
      have hwl := decodeL_le' _ hne
      have hw1 := Lib.decodeL_width (s.data.toList.drop pos)
      rw [List.drop_drop] at hstep
      rw [hdl] at hwl
      have hr31 := Lib.decodeL_rune (s.data.toList.drop pos)
      have hcs := outQ_cases _ hne
      rw [← Lib.decodeL_drop] at hnx
      have hgd : ((s.data.toList.drop pos).getD 0 0).toNat = (s[pos]'hp).toNat := by rw [getD_drop, Nat.add_zero, byteAt_get]
      rw [hgd] at hcs
      generalize outQ (s.data.toList.drop pos) = O at *
      generalize Lib.decodeL (s.data.toList.drop pos) = d at *
      obtain ⟨r, n⟩ := d
      dsimp only at hnx hcs hstep hwl hw1 hr31
      have hI2 := hI.iterAt hit (pos + n)
      have hit2 := Lib.iterAt_heap wr w1.heap.size s pos (pos + n) hit
      have hbw2 := Lib.below_iterAt hbw (k := w1.heap.size) hs01 s (pos + n)
      have hsz2 : w.heap.size ≤ (wr.iterAt w1.heap.size s (pos + n)).heap.size := by rw [Lib.iterAt_size]; omega
      have HST := Lib.hid hstep
      clear hstep hgd
      generalize hWN : wr.iterAt w1.heap.size s (pos + n) = wn at *
      clear hWN
      have fin : ∀ (W2 : World), QState w w1.heap.size s (pos + n) (acc ++ O) W2 → O.length ≤ 4 * n →
          (∃ (pos' : Nat) (acc' : List UInt8), QState w w1.heap.size s pos' acc' W2 ∧ acc' ++ (quoteB (s.data.toList.drop pos') ++ [34]) = quoteL s.data.toList ∧ pos' ≤ s.size ∧ acc'.length ≤ 4 * pos' + 1) ∧ s.size - W2.iterPos w1.heap.size < s.size - wr.iterPos w1.heap.size := by
        intro W2 hQ hO
        refine ⟨⟨pos + n, acc ++ O, hQ, ?_, by omega, by rw [List.length_append]; omega⟩, ?_⟩
        · rw [← HACC.out, HST.out]; simp
        · simp only [World.iterPos, hQ.2.1, hit]; omega
      have hal4 : acc.length ≤ 33554433 := by omega
      have hr4 := Lib.runeCells_le (r : Int)
      rw [Lib.runeCells_length] at hr4
      rcases hcs with ⟨hA, hO⟩ | ⟨hB, hO⟩ | ⟨hC, hC10, hO⟩ | ⟨hD, hDp, hO⟩ | ⟨hA, hB, hC, hC7, hD, hO⟩
      · have hr127 : r ≤ 127 := by omega
        have hO4 : O.length ≤ 4 * n := by
          rw [hO, List.length_cons, Lib.encodeRune, Lib.encodeRuneZ_one (by omega) (by omega)]
          simp; omega
        have HO := Lib.hid hO; clear hO
        rcases hA with rfl | rfl
        all_goals
          go_wp2_with fail
          refine (Builder_WriteByte_k w.heap.size w.heap.size _ 92 _ hI2 (by rw [Lib.byteCells_length]; omega) hsz2).mono ?_
          rintro e W1 ⟨rfl, h1', b1, k1⟩
          have hit3 := k1.iter hit2 (by omega)
          go_wp2_with fail
          refine (Builder_WriteRune_k w.heap.size w.heap.size _ _ (by omega) (by omega) _ (.inr h1') (by rw [List.length_append, Lib.byteCells_length]; simp; omega) (by have := b1.size; omega)).mono ?_
          rintro e W2 ⟨rfl, h2', b2, k2⟩
          go_wp2_with fail
          refine fin W2 ⟨?_, k2.iter hit3 (by omega), hbw2.trans (b1.trans b2)⟩ hO4
          rw [HO.out, Lib.byteCells_append]
          rw [cells_mark, ← List.append_assoc]
          exact .inr h2'
      · subst hB
        have hO4 : O.length ≤ 4 * n := by rw [hO]; simp; omega
        have HO := Lib.hid hO; clear hO
        go_wp2_with fail
        refine (Builder_WriteString_k w.heap.size w.heap.size _ ⟨#[92, 110]⟩ _ hI2 (by rw [Lib.byteCells_length]; show _ + 2 ≤ _; omega) hsz2).mono ?_
        rintro e W1 ⟨rfl, h1', b1, k1⟩
        go_wp2_with fail
        refine fin W1 ⟨?_, k1.iter hit2 (by omega), hbw2.trans b1⟩ hO4
        rw [HO.out, Lib.byteCells_append]
        exact .inr h1'
      · have hO4 : O.length ≤ 4 * n := by rw [hO]; simp; omega
        have HO := Lib.hid hO; clear hO
        have b1 : ((r : Int) == 34) = false := by simp; omega
        have b2 : ((r : Int) == 92) = false := by simp; omega
        have b3 : ((r : Int) == 10) = false := by simp; omega
        have hr8 : r < 256 := by omega
        have hHB : ∀ W2, Below (wn.heap.size + 1) (wn.alloc (.cells #[.int .u8 (r : Int)] 5)) W2 → Below w.heap.size w W2 ∧ Lib.IsBuilderF 47 5 w.heap.size w.heap.size (Lib.byteCells acc) W2 ∧ W2.heap[w1.heap.size]? = some (.stringIter s (pos + n)) ∧ w.heap.size ≤ W2.heap.size := by
          intro W2 hb
          have ha : Below wn.heap.size wn W2 := ((Below.refl _ _).alloc (Nat.le_refl _) _).trans (hb.mono (by omega))
          have := ha.size
          exact ⟨hbw2.trans (ha.mono hsz2), isBuilderF_below hI2 ha, (ha.block _ (Array.getElem?_eq_some_iff.1 hit2).1).trans hit2, by omega⟩
        have HB := Lib.hid hHB; clear hHB
        by_cases h32 : r < 32
        · have b6 : ((r : Int) < 32) := by omega
          clear hC
          go_wp2_with fail
          refine (hex_any _ 1 _ [r] _ _ (hexOne_reads wn r) (by simp) (by simpa using hr8) (by omega)).mono ?_
          rintro e W1 ⟨rfl, hbx⟩
          rw [hexOne r hr8]
          simp only [World.size_alloc] at hbx
          obtain ⟨q1, q2, q3, q4⟩ := HB.out W1 hbx
          clear hbx
          go_wp2_with fail
          rw [show (⟨#[92, 120]⟩ : ByteArray) ++ ⟨#[hx8 (r / 16), hx8 (r % 16)]⟩ = ⟨#[92, 120, hx8 (r / 16), hx8 (r % 16)]⟩ from rfl]
          refine (Builder_WriteString_k w.heap.size w.heap.size _ ⟨#[92, 120, hx8 (r / 16), hx8 (r % 16)]⟩ _ q2 (by rw [Lib.byteCells_length]; show _ + 4 ≤ _; omega) q4).mono ?_
          rintro e W2 ⟨rfl, h2', b2, k2⟩
          go_wp2_with fail
          refine fin W2 ⟨?_, k2.iter q3 (by omega), q1.trans b2⟩ hO4
          rw [HO.out, Lib.byteCells_append]
          exact .inr h2'
        · obtain rfl : r = 127 := by omega
          clear hC
          go_wp2_with fail
          refine (hex_any _ 1 _ [127] _ _ (hexOne_reads wn 127) (by simp) (by simp) (by omega)).mono ?_
          rintro e W1 ⟨rfl, hbx⟩
          rw [hexOne 127 hr8]
          simp only [World.size_alloc] at hbx
          obtain ⟨q1, q2, q3, q4⟩ := HB.out W1 hbx
          clear hbx
          go_wp2_with fail
          rw [show (⟨#[92, 120]⟩ : ByteArray) ++ ⟨#[hx8 (127 / 16), hx8 (127 % 16)]⟩ = ⟨#[92, 120, hx8 (127 / 16), hx8 (127 % 16)]⟩ from rfl]
          refine (Builder_WriteString_k w.heap.size w.heap.size _ ⟨#[92, 120, hx8 (127 / 16), hx8 (127 % 16)]⟩ _ q2 (by rw [Lib.byteCells_length]; show _ + 4 ≤ _; omega) q4).mono ?_
          rintro e W2 ⟨rfl, h2', b2, k2⟩
          go_wp2_with fail
          refine fin W2 ⟨?_, k2.iter q3 (by omega), q1.trans b2⟩ hO4
          rw [HO.out, Lib.byteCells_append]
          exact .inr h2'
      · have hO4 : O.length ≤ 4 * n := by rw [hO]; simp; omega
        obtain ⟨b, hb⟩ : ∃ b, (s[pos]'hp).toNat = b := ⟨_, rfl⟩
        rw [hb] at hO
        have hr8 : b < 256 := hb ▸ (s[pos]'hp).toNat_lt
        have HO := Lib.hid hO; clear hO
        subst hD
        have hpre : Lib.hasPrefix (s.extract pos s.size).data.toList [239, 191, 189] = false := by
          rw [Lib.extract_to_end]
          exact Bool.eq_false_iff.2 (fun h => hDp ((hasPrefix_iff _ _).1 h))
        have HP := Lib.hid hpre; clear hpre hDp
        have hHB : ∀ W2, Below (wn.heap.size + 1) (wn.alloc (.cells #[.int .u8 (b : Int)] 5)) W2 → Below w.heap.size w W2 ∧ Lib.IsBuilderF 47 5 w.heap.size w.heap.size (Lib.byteCells acc) W2 ∧ W2.heap[w1.heap.size]? = some (.stringIter s (pos + n)) ∧ w.heap.size ≤ W2.heap.size := by
          intro W2 hb
          have ha : Below wn.heap.size wn W2 := ((Below.refl _ _).alloc (Nat.le_refl _) _).trans (hb.mono (by omega))
          have := ha.size
          exact ⟨hbw2.trans (ha.mono hsz2), isBuilderF_below hI2 ha, (ha.block _ (Array.getElem?_eq_some_iff.1 hit2).1).trans hit2, by omega⟩
        have HB := Lib.hid hHB; clear hHB
        go_wp2_with fail
        refine (Try.strings_HasPrefix _ _ _).mono ?_
        rintro e W0 ⟨rfl, rfl⟩
        rw [HP.out]
        go_wp2_with fail
        refine (hex_any _ 1 _ [b] _ _ (hexOne_reads W0 b) (by simp) (by simpa using hr8) (by omega)).mono ?_
        rintro e W1 ⟨rfl, hbx⟩
        rw [hexOne b hr8]
        simp only [World.size_alloc] at hbx
        obtain ⟨q1, q2, q3, q4⟩ := HB.out W1 hbx
        clear hbx
        go_wp2_with fail
        rw [show (⟨#[92, 120]⟩ : ByteArray) ++ ⟨#[hx8 (b / 16), hx8 (b % 16)]⟩ = ⟨#[92, 120, hx8 (b / 16), hx8 (b % 16)]⟩ from rfl]
        refine (Builder_WriteString_k w.heap.size w.heap.size _ ⟨#[92, 120, hx8 (b / 16), hx8 (b % 16)]⟩ _ q2 (by rw [Lib.byteCells_length]; show _ + 4 ≤ _; omega) q4).mono ?_
        rintro e W2 ⟨rfl, h2', b2, k2⟩
        go_wp2_with fail
        refine fin W2 ⟨?_, k2.iter q3 (by omega), q1.trans b2⟩ hO4
        rw [HO.out, Lib.byteCells_append]
        exact .inr h2'
      · have hO4 : O.length ≤ 4 * n := by rw [hO]; omega
        have HO := Lib.hid hO; clear hO
        have b1 : ((r : Int) == 34) = false := by simp; omega
        have b2 : ((r : Int) == 92) = false := by simp; omega
        have b3 : ((r : Int) == 10) = false := by simp; omega
        have b4 : ((r : Int) == 127) = false := by simp; omega
        have b6 : ¬ ((r : Int) < 32) := by omega
        have hrune : ∀ W2, Lib.BuilderAtF 47 5 w.heap.size w.heap.size (.pointer (some ⟨w.heap.size, 0, none⟩)) (Lib.byteCells acc ++ Lib.runeCells r) W2 → Lib.IsBuilderF 47 5 w.heap.size w.heap.size (Lib.byteCells (acc ++ O)) W2 := by
          intro W2 h
          rw [HO.out, Lib.byteCells_append, Lib.byteCells_encodeRune]
          exact .inr h
        have HR := Lib.hid hrune; clear hrune
        by_cases h65 : r = 65533
        · have hpre : Lib.hasPrefix (s.extract pos s.size).data.toList [239, 191, 189] = true := by
            rw [Lib.extract_to_end]
            exact (hasPrefix_iff _ _).2 (hD.resolve_left fun h => h h65)
          have HP := Lib.hid hpre; clear hpre hD
          subst h65
          go_wp2_with fail
          refine (Try.strings_HasPrefix _ _ _).mono ?_
          rintro e W1 ⟨rfl, rfl⟩
          rw [HP.out]
          go_wp2_with fail
          refine (Builder_WriteRune_k w.heap.size w.heap.size _ _ (by omega) (by omega) _ hI2 (by rw [Lib.byteCells_length]; omega) hsz2).mono ?_
          rintro e W2 ⟨rfl, h2', b2, k2⟩
          go_wp2_with fail
          exact fin W2 ⟨HR.out _ h2', k2.iter hit2 (by omega), hbw2.trans b2⟩ hO4
        · have b7 : ((r : Int) == 65533) = false := by simp; omega
          clear hD
          go_wp2_with fail
          refine (Builder_WriteRune_k w.heap.size w.heap.size _ _ (by omega) (by omega) _ hI2 (by rw [Lib.byteCells_length]; omega) hsz2).mono ?_
          rintro e W2 ⟨rfl, h2', b2, k2⟩
          go_wp2_with fail
          exact fin W2 ⟨HR.out _ h2', k2.iter hit2 (by omega), hbw2.trans b2⟩ hO4
    · have hnx : ∀ ty, (Instr.next (.pointer (some ⟨w1.heap.size, 0, none⟩)) true ty).run Try.prog wr = _ := fun ty => Lib.run_next_end_at wr w1.heap.size s pos ty hit hp
      obtain rfl : pos = s.size := by omega
      have hq : acc ++ [34] = quoteL s.data.toList := by rw [← HACC.out, List.drop_of_length_le (by omega)]; rfl
      have HQ := Lib.hid hq; clear hq HACC
      go_wp2_with fail
      refine (Builder_WriteByte_k w.heap.size w.heap.size _ 34 _ hI (by rw [Lib.byteCells_length]; omega) hbw.size).mono ?_
      rintro e W1 ⟨rfl, h1', b1, k1⟩
      go_wp2_with fail
      have h1'' : Lib.IsBuilderF 47 5 w.heap.size w.heap.size (Lib.byteCells (acc ++ [34])) W1 := by rw [Lib.byteCells_append]; exact .inr h1'
      refine (Try.Builder_String_any_k w.heap.size w.heap.size (acc ++ [34]) _ h1'' (by have := hbw.size; have := b1.size; omega)).mono ?_
      rintro e W2 ⟨rfl, _, b2, _⟩
      rw [HQ.out]
      go_wp2_with fail
      go_ret
      exact ⟨rfl, hbw.trans (b1.trans b2)⟩
end Go.Proofs.Ytiajmngjhbckjaa
