/- An order of keys (Str): the iterator's closure, inside a fence: for every body that keeps the rows of keys that are not its own. -/
import Derived.RangeFuncKeeps
import Derived.RangeFuncFrom
import Derived.Test.YtjddjjfcongnlaaOrdFStr
namespace Go.Proofs.Ytjddjjfcongnlaa
open Go.RowKit Go.Maps Go.Shelf
attribute [local go_sem] Oper.semAt_some
/-- What a round that goes on keeps: every row of keys from n₀ on that the body does not own. -/
def KpOfStr (n₀ : Nat) (Own : World → Nat → Prop) (A A' : World) : Prop :=
  A.heap.size ≤ A'.heap.size ∧ ∀ g c fz, n₀ ≤ g → A.heap[g]? = some (.cells c 9 fz) → ¬ Own A g → ¬ Own A' g ∧ A'.heap[g]? = some (.cells c 9 fz)
theorem KpOfStr.t {n₀ : Nat} {Own : World → Nat → Prop} {A B C : World} (h : KpOfStr n₀ Own A B) (k : KpOfStr n₀ Own B C) : KpOfStr n₀ Own A C :=
  ⟨Nat.le_trans h.1 k.1, fun g c fz hg ho hn => by
    obtain ⟨h1, h2⟩ := h.2 g c fz hg ho hn
    exact k.2 g c fz hg h2 h1⟩
theorem own_kpStr {n₀ : Nat} {Own : World → Nat → Prop} {A A' : World} {base m : Nat} {v : Value} {xs : List Value} (h : KpOfStr n₀ Own A A') (hb : n₀ ≤ base) (hr : A.ownsRow base 9 1 v m xs) (hn : ∀ g, v.ownBlock = some g → ¬ Own A g) :
    A'.ownsRow base 9 1 v m xs ∧ ∀ g, v.ownBlock = some g → ¬ Own A' g := by
  refine ⟨⟨hr.1, ?_⟩, ?_⟩
  · rcases hr.2 with h2 | ⟨g, cap, cur, rfl, hg, hh, r⟩
    · exact .inl h2
    · exact .inr ⟨g, cap, cur, rfl, hg, (h.2 g cur (0, 0) (by omega) hh (hn g rfl)).2, r⟩
  · intro g hg
    rcases hr.2 with ⟨rfl, _⟩ | ⟨g', cap, cur, rfl, hb', hh, r⟩
    · simp [Value.ownBlock] at hg
    · obtain rfl : g' = g := by simpa [Value.ownBlock] using hg
      exact (h.2 g' cur (0, 0) (by omega) hh (hn g' rfl)).1
theorem OrdStr.below {w w' : World} {B o mb N : Nat} {D : DataW Unit} {st : St ByteArray} {ps : List Nat} (h : OrdStr w B o mb N D st ps) (hb : Below w.heap.size w w') : OrdStr w' B o mb N D st ps := by
  have hk : Keeps [] w w' := ⟨hb.os, hb.tape, hb.output, hb.size, fun k hk _ => hb.block k hk⟩
  exact h.turn (h.rep.keeps hk (by simp) (by simp)) h.chain hk (by simp) (fun _ => Iff.rfl) rfl rfl h.pin
theorem grown_below {w w' : World} (hb : Below w.heap.size w w') : w.grownBy w' none := ⟨hb.os, hb.tape, hb.output, hb.size, fun k hk _ => hb.block k hk⟩
theorem own_sliceStr {w : World} {base : Nat} {e : TypeId} {size n : Nat} {v : Value} {xs : List Value} (h : w.ownsRow base e size v n xs) : ∃ (A : Option Addr) (c : Nat), v = .slice A n c := by
  rcases h.2 with ⟨rfl, rfl⟩ | ⟨g, cap, cur, rfl, _⟩
  · exact ⟨_, _, rfl⟩
  · exact ⟨_, _, rfl⟩
/-- What keys answers, of whatever it is asked. -/
def KeysAreStr (F : Fence) (n : Nat) (w : World) (ov : Value) (free : Bool) (xs : List ByteArray) : Prop :=
  ∀ W, Below w.heap.size w W → CallsIn F n Try.prog 79 #[ov, .bool free] W fun e W' => ∃ v, e = .returned v ∧ W'.ownsRow W.heap.size 9 1 v xs.length (xs.map ekStr) ∧ Below W.heap.size W W'
theorem KeysAreStr.mono {F : Fence} {n : Nat} {w w' : World} {ov : Value} {free : Bool} {xs : List ByteArray} (h : KeysAreStr F n w ov free xs) (hb : Below w.heap.size w w') : KeysAreStr F n w' ov free xs :=
  fun W hW => h W (hb.trans (hW.mono hb.size))
theorem OrdStr.keysAre (F : Fence) (n : Nat) (hf2 : F.fn 79) (hro : F.round = none) {w : World} {B o mb N : Nat} {D : DataW Unit} {st : St ByteArray} {ps : List Nat} (h : OrdStr w B o mb N D st ps) (free : Bool) (hlen : ps.length ≤ 1099511627776) :
    KeysAreStr F n w (.pointer (some ⟨o, 0, none⟩)) free (wantedStr st ps free) := fun _ hW => keysInStr F n hf2 hro (h.below hW) free hlen
set_option maxRecDepth 100000 in
set_option maxHeartbeats 2000000 in
theorem each1InStr (F : Fence) (n : Nat) (hf1 : F.fn 78) (hf2 : F.fn 79) (hro : F.round = none) (hn : 2 ≤ n) (l Bo Bf n₀ : Nat) (Own : World → Nat → Prop) (a : Option Addr) (xs : List ByteArray) (free : Bool) (hwl : xs.length ≤ 1099511627776) (W : World)
    (hK : KeysAreStr F (n - 1) W (.pointer a) free xs) (ho : W.cell? ⟨Bo, 0, none⟩ = some (.pointer a)) (hf : W.cell? ⟨Bf, 0, none⟩ = some (.bool free)) (J Jx : List ByteArray → World → Prop) (hn₀ : n₀ ≤ W.heap.size)
    (hJ : ∀ A', Below W.heap.size W A' → J [] A') (hO : ∀ A' g, Below W.heap.size W A' → W.heap.size ≤ g → ¬ Own A' g)
    (hY : ∀ pre x W, J pre W → pre.length < xs.length → YieldAt F (n - 1) Try.prog l #[ekStr x] W fun e W' =>
      (e = .returned (.bool true) ∧ J (pre ++ [x]) W' ∧ KpOfStr n₀ Own W W') ∨ (e = .returned (.bool false) ∧ Jx (pre ++ [x]) W')) :
    CallsIn F n Try.prog 78 #[.func (.yield l) #[] #[], .pointer (some ⟨Bo, 0, none⟩), .pointer (some ⟨Bf, 0, none⟩)] W fun e W' => (∃ v, e = .returned v) ∧
      (J xs W' ∨ (∃ pre, pre <+: xs ∧ Jx pre W')) := by
  have hkeys := hK W (Below.refl _ _)
  obtain ⟨m, hm⟩ : ∃ m, xs.length = m := ⟨_, rfl⟩
  rw [hm] at hkeys hwl hY
  have HWL : m ≤ 1099511627776 := by omega
  have HM := Lib.hid hm
  clear hm hwl hK
  refine callsIn_of_wp Try.func78 rfl hf1 ?_ hro
  simp only [Try.ntmps78, List.size_toArray, List.length_cons, List.length_nil, Nat.reduceAdd, Nat.reduceSub, Array.replicate_succ, Array.replicate_zero, List.push_toArray, List.append_toArray, List.nil_append, List.cons_append]
  gi_wp2_with fail
  refine ⟨fun _ => by omega, hkeys.mono ?_⟩
  rintro e w1 ⟨v, rfl, hown, hb⟩
  obtain ⟨A, c, rfl⟩ := own_sliceStr hown
  have hJ0 := hJ w1 hb
  have hno : ∀ g, (Value.slice A m c).ownBlock = some g → ¬ Own w1 g := fun g hg => hO w1 g hb (hown.lt g hg).1
  clear hkeys
  gi_wp2
  gi_loopw [10] (fun i wr => ∃ k : Nat, k ≤ m ∧ i = .int .i64 k ∧ J (xs.take k) wr ∧ wr.ownsRow W.heap.size 9 1 (.slice A m c) m (xs.map ekStr) ∧ ∀ g, (Value.slice A m c).ownBlock = some g → ¬ Own wr g) (fun i _ => m - (intOf i).toNat)
  case atStart => exact ⟨0, by omega, rfl, hJ0, hown, hno⟩
  case round =>
    obtain ⟨k, hk, rfl, hJk, hrow, hnk⟩ := hrel
    have hxl : xs.length = m := HM.out
    by_cases hlt : k < m
    · obtain ⟨ad, u, rfl, had, hu, hcell⟩ := (Reads.of_own hrow).at_ hlt
      obtain ⟨x, hx, rfl⟩ : ∃ x, xs[k]? = some x ∧ ekStr x = u := by simpa using hu
      have htk : xs.take (k + 1) = xs.take k ++ [x] := by rw [List.take_add_one, hx]; rfl
      obtain ⟨fn, tmps, assign, body, hy, hR⟩ := hY _ x wr hJk (by rw [List.length_take]; omega)
      have HROW := Lib.hid hrow; have HTK := Lib.hid htk
      clear hu hx hxl hrow htk hown hJ hO hY
      have hk1 : (k : Int) < (m : Int) := by omega
      gi_wp2
      refine ⟨fun _ => by omega, hR.mono ?_⟩
      rintro e W3 (⟨rfl, hJ3, hk3⟩ | ⟨rfl, hJx3⟩)
      · obtain ⟨hrow3, hn3⟩ := own_kpStr hk3 hn₀ HROW.out hnk
        rw [← HTK.out] at hJ3
        gi_wp2
        go_roundw
        case rel => exact ⟨k + 1, by omega, by go_num, hJ3, hrow3, hn3⟩
        case measure => simp [intOf]; omega
      · rw [← HTK.out] at hJx3
        gi_wp2
        refine bodyPost_ret (results_none rfl _ _ _) rfl ?_
        exact ⟨⟨_, rfl⟩, .inr ⟨_, List.take_prefix _ _, hJx3⟩⟩
    · obtain rfl : k = m := by omega
      have ht : xs.take k = xs := List.take_of_length_le (by omega)
      rw [ht] at hJk
      gi_wp2
      go_end0
      exact ⟨⟨_, rfl⟩, .inl hJk⟩
theorem lt_cellStr {w : World} {b i : Nat} {v : Value} (h : w.cell? ⟨b, i, none⟩ = some v) : b < w.heap.size := by
  rcases Nat.lt_or_ge b w.heap.size with h1 | h1
  · exact h1
  · simp [World.cell?, Array.getElem?_eq_none h1] at h
/-- The iterator, as the laws of the range want it: of an order that lies in w. -/
theorem each1_stopsStr (F : Fence) (n : Nat) (hf1 : F.fn 78) (hf2 : F.fn 79) (hro : F.round = none) (hn : 2 ≤ n) (Bo Bf n₀ : Nat) (Own : World → Nat → Prop) (a : Option Addr) (xs : List ByteArray) (free : Bool) (hlen : xs.length ≤ 1099511627776) (w : World)
    (h : KeysAreStr F (n - 1) w (.pointer a) free xs) (ho : w.cell? ⟨Bo, 0, none⟩ = some (.pointer a)) (hf : w.cell? ⟨Bf, 0, none⟩ = some (.bool free)) (hn₀ : n₀ ≤ w.heap.size)
    (hO : ∀ A' g, Below w.heap.size w A' → w.heap.size ≤ g → ¬ Own A' g) :
    SeqStopsK F n Try.prog 78 #[.pointer (some ⟨Bo, 0, none⟩), .pointer (some ⟨Bf, 0, none⟩)] (fun x : ByteArray => #[ekStr x]) (KpOfStr n₀ Own) (fun ys => ys = xs) (fun pre => pre <+: xs) xs.length w :=
  fun l J Jx W hW hJ _ hY h0 => by
    have lt : ∀ {b : Nat} {v : Value}, w.cell? ⟨b, 0, none⟩ = some v → b < w.heap.size := fun {b v} hc => lt_cellStr hc
    refine (each1InStr F n hf1 hf2 hro hn l Bo Bf n₀ Own a xs free hlen W (h.mono hW) ((hW.cell (p := ⟨Bo, 0, none⟩) (lt ho)).trans ho) ((hW.cell (p := ⟨Bf, 0, none⟩) (lt hf)).trans hf) J Jx (Nat.le_trans hn₀ hW.size)
      (fun A' hA => hJ _ _ _ none h0 (grown_below hA) (by simp)) (fun A' g hA hg => hO A' g (hW.trans (hA.mono hW.size)) (Nat.le_trans hW.size hg)) hY).mono ?_
    rintro e W' ⟨he, hj | ⟨pre, hp, hj⟩⟩
    · exact ⟨he, .inl ⟨_, rfl, hj⟩⟩
    · exact ⟨he, .inr ⟨_, hp, hj⟩⟩
end Go.Proofs.Ytjddjjfcongnlaa
